/- A part of the proof. -/
import Derived.Test.YtaennkkcnhfglaaGreatDoorLEvShelf
import Derived.Test.YtaennkkcnhfglaaGreatDoorLShelf
import Derived.Test.YtaennkkcnhfglaaGreatDoorLEvLib
import Derived.Test.YtaennkkcnhfglaaGreatDoorLEvRun
import Derived.Test.YtaennkkcnhfglaaGreatDoorProg
set_option linter.unusedVariables false
set_option maxRecDepth 100000
namespace Go.Proofs.YtaennkkcnhfglaaGreatDoor.Ev.F
open Go.Proofs Go.Proofs.YtaennkkcnhfglaaGreatDoor.Ev
noncomputable section
structure ua0 where
 Kind : Int
 Value : Int
 Name : ByteArray
 Parts : (List ua0)
structure ua6 where
 Name : ByteArray
 Type_ : ua0
structure ua1 where
 Name : ByteArray
 Fields : (List ua6)
structure ua2 where
 Name : ByteArray
 Params : (List ByteArray)
 Constructors : (List ua1)
structure uo6 where
 list : (List ua2)
 params : (List ByteArray)
mutual
structure ua4 where
 bits : Int
 constructors : (Option (List data_variant))
structure data_variant where
 name : ByteArray
 fields : (List ua6)
 parts : (Option (List (Option ua4)))
end
structure ua5 where
 Name : ByteArray
 Number : Int
 Parts : (List ua5)
structure uc0 where
 Name : ByteArray
 Low : Int
 Width : Int
structure ua8 where
 Name : ByteArray
 Tag : Int
 Parts : (List uc0)
def S : Nat → Type
 | 5 => Int
 | 9 => ByteArray
 | 25 => ua0
 | 29 => Int
 | 37 => ua5
 | 56 => ua1
 | 58 => ua6
 | 75 => uc0
 | 81 => ua8
 | 103 => ua2
 | 105 => (Option ua4)
 | 107 => uo6
 | 125 => data_variant
 | 128 => ua4
 | 188 => Int
 | _ => Unit
def pk (e : Nat) : Pk S (S e) :=
 if h : e = 5 then h ▸ ((Pk.int .u8) : Pk S Int) else
 if h : e = 9 then h ▸ (Pk.str : Pk S ByteArray) else
 if h : e = 25 then h ▸ ((Pk.iso (Pk.cons (Pk.int .i64) (Pk.cons (Pk.int .i64) (Pk.cons Pk.str (Pk.cons (Pk.sl 25) Pk.unit)))) (fun a => (⟨a.1, a.2.1, a.2.2.1, a.2.2.2.1⟩ : ua0)) (fun x => (x.Kind, x.Value, x.Name, x.Parts, ())) (fun x => by cases x; rfl)) : Pk S ua0) else
 if h : e = 29 then h ▸ ((Pk.int .i64) : Pk S Int) else
 if h : e = 37 then h ▸ ((Pk.iso (Pk.cons Pk.str (Pk.cons (Pk.int .i64) (Pk.cons (Pk.sl 37) Pk.unit))) (fun a => (⟨a.1, a.2.1, a.2.2.1⟩ : ua5)) (fun x => (x.Name, x.Number, x.Parts, ())) (fun x => by cases x; rfl)) : Pk S ua5) else
 if h : e = 56 then h ▸ ((Pk.iso (Pk.cons Pk.str (Pk.cons (Pk.sl 58) Pk.unit)) (fun a => (⟨a.1, a.2.1⟩ : ua1)) (fun x => (x.Name, x.Fields, ())) (fun _ => rfl)) : Pk S ua1) else
 if h : e = 58 then h ▸ ((Pk.iso (Pk.cons Pk.str (Pk.cons (Pk.iso (Pk.cons (Pk.int .i64) (Pk.cons (Pk.int .i64) (Pk.cons Pk.str (Pk.cons (Pk.sl 25) Pk.unit)))) (fun a => (⟨a.1, a.2.1, a.2.2.1, a.2.2.2.1⟩ : ua0)) (fun x => (x.Kind, x.Value, x.Name, x.Parts, ())) (fun x => by cases x; rfl)) Pk.unit)) (fun a => (⟨a.1, a.2.1⟩ : ua6)) (fun x => (x.Name, x.Type_, ())) (fun _ => rfl)) : Pk S ua6) else
 if h : e = 75 then h ▸ ((Pk.iso (Pk.cons Pk.str (Pk.cons (Pk.int .i64) (Pk.cons (Pk.int .i64) Pk.unit))) (fun a => (⟨a.1, a.2.1, a.2.2.1⟩ : uc0)) (fun x => (x.Name, x.Low, x.Width, ())) (fun _ => rfl)) : Pk S uc0) else
 if h : e = 81 then h ▸ ((Pk.iso (Pk.cons Pk.str (Pk.cons (Pk.int .i64) (Pk.cons (Pk.sl 75) Pk.unit))) (fun a => (⟨a.1, a.2.1, a.2.2.1⟩ : ua8)) (fun x => (x.Name, x.Tag, x.Parts, ())) (fun _ => rfl)) : Pk S ua8) else
 if h : e = 103 then h ▸ ((Pk.iso (Pk.cons Pk.str (Pk.cons (Pk.sl 9) (Pk.cons (Pk.sl 56) Pk.unit))) (fun a => (⟨a.1, a.2.1, a.2.2.1⟩ : ua2)) (fun x => (x.Name, x.Params, x.Constructors, ())) (fun _ => rfl)) : Pk S ua2) else
 if h : e = 105 then h ▸ ((Pk.op 128) : Pk S (Option ua4)) else
 if h : e = 107 then h ▸ ((Pk.iso (Pk.cons (Pk.sl 103) (Pk.cons (Pk.sl 9) Pk.unit)) (fun a => (⟨a.1, a.2.1⟩ : uo6)) (fun x => (x.list, x.params, ())) (fun _ => rfl)) : Pk S uo6) else
 if h : e = 125 then h ▸ ((Pk.iso (Pk.cons Pk.str (Pk.cons (Pk.sl 58) (Pk.cons (Pk.so 105) Pk.unit))) (fun a => (⟨a.1, a.2.1, a.2.2.1⟩ : data_variant)) (fun x => (x.name, x.fields, x.parts, ())) (fun x => by cases x; rfl)) : Pk S data_variant) else
 if h : e = 128 then h ▸ ((Pk.iso (Pk.cons (Pk.int .i64) (Pk.cons (Pk.so 125) Pk.unit)) (fun a => (⟨a.1, a.2.1⟩ : ua4)) (fun x => (x.bits, x.constructors, ())) (fun x => by cases x; rfl)) : Pk S ua4) else
 if h : e = 188 then h ▸ ((Pk.int .u64) : Pk S Int) else
 Pk.no (Tryz.prog.cellsOf e)
theorem yc7 (e : Nat) : (pk e).len = Tryz.prog.cellsOf e := by
  unfold pk
  by_cases h : e = 5
  · subst h; kernel_rfl
  refine (congrArg Pk.len (dif_neg h)).trans ?_; clear h
  by_cases h : e = 9
  · subst h; kernel_rfl
  refine (congrArg Pk.len (dif_neg h)).trans ?_; clear h
  by_cases h : e = 25
  · subst h; kernel_rfl
  refine (congrArg Pk.len (dif_neg h)).trans ?_; clear h
  by_cases h : e = 29
  · subst h; kernel_rfl
  refine (congrArg Pk.len (dif_neg h)).trans ?_; clear h
  by_cases h : e = 37
  · subst h; kernel_rfl
  refine (congrArg Pk.len (dif_neg h)).trans ?_; clear h
  by_cases h : e = 56
  · subst h; kernel_rfl
  refine (congrArg Pk.len (dif_neg h)).trans ?_; clear h
  by_cases h : e = 58
  · subst h; kernel_rfl
  refine (congrArg Pk.len (dif_neg h)).trans ?_; clear h
  by_cases h : e = 75
  · subst h; kernel_rfl
  refine (congrArg Pk.len (dif_neg h)).trans ?_; clear h
  by_cases h : e = 81
  · subst h; kernel_rfl
  refine (congrArg Pk.len (dif_neg h)).trans ?_; clear h
  by_cases h : e = 103
  · subst h; kernel_rfl
  refine (congrArg Pk.len (dif_neg h)).trans ?_; clear h
  by_cases h : e = 105
  · subst h; kernel_rfl
  refine (congrArg Pk.len (dif_neg h)).trans ?_; clear h
  by_cases h : e = 107
  · subst h; kernel_rfl
  refine (congrArg Pk.len (dif_neg h)).trans ?_; clear h
  by_cases h : e = 125
  · subst h; kernel_rfl
  refine (congrArg Pk.len (dif_neg h)).trans ?_; clear h
  by_cases h : e = 128
  · subst h; kernel_rfl
  refine (congrArg Pk.len (dif_neg h)).trans ?_; clear h
  by_cases h : e = 188
  · subst h; kernel_rfl
  refine (congrArg Pk.len (dif_neg h)).trans ?_; clear h
  exact Pk.no_len _
def plain : Nat → Bool := fun t => mem t [75]
def byt (e : Nat) (s : ByteArray) : Option (List (S e)) := if h : e = 5 then some (h ▸ (ub9 s : List Int)) else none
theorem ya1 : ∀ e s l, byt e s = some l → Tryz.prog.underlying e = some (.int .u8) ∧ Tryz.prog.cellsOf e = 1 ∧ l.length = s.size ∧ ∀ i x, l[i]? = some x → (pk e).wt x = [.v (.int .u8 ((s.data.toList.getD i 0).toNat : Int))] := by
  intro e s l h
  unfold byt at h
  split at h
  · rename_i he; subst he; obtain rfl := Option.some.inj h
    exact ⟨by kernel_rfl, by kernel_rfl, (vm9 s).1, fun i x hx => by rw [(vm9 s).2 i x hx]; kernel_rfl⟩
  cases h
def yb2 : List Int := [1, 10, 100, 1000, 10000, 100000, 1000000, 10000000, 100000000, 1000000000, 10000000000, 100000000000, 1000000000000, 10000000000000, 100000000000000, 1000000000000000, 10000000000000000, 100000000000000000, 1000000000000000000, 10000000000000000000]
def yb3 : List Int := [0, 1, 28, 2, 29, 14, 24, 3, 30, 22, 20, 15, 25, 17, 4, 8, 31, 27, 13, 23, 21, 19, 16, 7, 26, 12, 18, 6, 11, 5, 10, 9]
def yb4 : List Int := [0, 1, 56, 2, 57, 49, 28, 3, 61, 58, 42, 50, 38, 29, 17, 4, 62, 47, 59, 36, 45, 43, 51, 22, 53, 39, 33, 30, 24, 18, 12, 5, 63, 55, 48, 27, 60, 41, 37, 16, 46, 35, 44, 21, 52, 32, 23, 11, 54, 26, 40, 15, 34, 20, 31, 10, 25, 14, 19, 9, 13, 8, 7, 6]
def xb4 : Nat → Option (AV S)
 | 3 => some (.ar 188 yb2)
 | 4 => some (.ar 5 yb3)
 | 5 => some (.ar 5 yb4)
 | _ => none
theorem xA8 : ∀ g x, xb4 g = some x → idsV x = [] := by
 intro g x h
 unfold xb4 at h
 split at h <;> first | (cases h; done) | (obtain rfl := Option.some.inj h; rfl)
def nums : (e : Nat) → List (S e) → Option (List Int)
 | 5, l => some l
 | _, _ => none
theorem x29 : ∀ e l xs, nums e l = some xs → Tryz.prog.underlying e = some (.int .u8) ∧ xs.length = l.length ∧ ∀ (i : Nat) x n, l[i]? = some x → xs[i]? = some n → (pk e).wt x = [.v (.int .u8 n)] := by
  intro e l xs h
  unfold nums at h
  split at h
  · obtain rfl := Option.some.inj h
    exact ⟨by kernel_rfl, rfl, fun i x n hx hn => by obtain rfl : x = n := Option.some.inj (hx.symm.trans hn); kernel_rfl⟩
  · cases h
def held : Nat → Option (String × Array Value)
 | 3 => some ("internal/strconv.uint64pow10", (Go.Lib.pow10Tab.map fun z => Value.int .u64 z).toArray)
 | _ => none
def ro : Nat → Bool := fun f => mem f [113, 123, 161, 178]
def rc : Nat → List Nat
 | _ => []
def fr : Nat → Bool := fun f => mem f []
def flat : Nat → Bool := fun e => mem e []
def lk : Nat → Nat → Option Nat
 | 125, 2 => some 105
 | 128, 1 => some 125
 | _, _ => none
theorem yg8 : ∀ e j e1, lk e j = some e1 → ∀ y l, ((pk e).rd (((pk e).wt y).set j (.sl e1 l false))).isSome = true := by
  intro e j e1 h
  unfold lk at h
  split at h
  · obtain rfl := Option.some.inj h; exact fun y l => by kernel_rfl
  · obtain rfl := Option.some.inj h; exact fun y l => by kernel_rfl
  · cases h
noncomputable abbrev E : Env := yb8 Tryz.prog S pk xb4 plain byt nums held ro rc fr flat lk
theorem E_ok : E.Ok := xK4 yc7 (by kernel_rfl) xA8 (fun t h => vL1 (Q := fun t => Tryz.prog.stoodInHeld t = false ∧ Tryz.prog.eqGuardType Tryz.prog.depth t = false) h ⟨⟨by kernel_rfl, by kernel_rfl⟩, trivial⟩) ya1 x29 (fun e h => by cases h) yg8
def us4 : Con E := w38 E 128
theorem uu9 : us4.Ok := wG8 (fn := Tryz.f128) (by kernel_rfl) (by kernel_rfl) (by kernel_rfl) (g := 3) rfl (fun n w h0 h1 ht => Tryz.strconv_Itoa n h0 h1 w ht)
def us5 : Con E := w39 E 136 9 uP7
theorem uv0 : us5.Ok := wG9 (fn := Tryz.f136) (by kernel_rfl) (by kernel_rfl) (by kernel_rfl) (fun x => x) (fun _ => rfl) (by kernel_rfl) (fun p u => congrArg (fun l => uP7 (l, p.2) u) (List.map_id' p.1).symm) (fun a c sep w => Tryz.strings_Join_none a c sep w) (fun bk o c xs sep w => Tryz.strings_Join bk o c xs sep w)
def ue8 : Con E := uy2 E 189
theorem ui9 : ue8.Ok := uG0 189 (fn := Tryz.f189) (by kernel_rfl) (by kernel_rfl) (by kernel_rfl) (by kernel_rfl) (by kernel_rfl)
def base : Spec E.S := (Con.add ue8 (Con.add us5 (Con.add us4 ub1)))
theorem yg6 : ub0 E base := (Con.add_ok ui9 (Con.add_ok uv0 (Con.add_ok uu9 ua7)))
inductive P_z0 where
 | start
def wq0 : P_z0 → List Bool
 | .start => []
def ye7 : P_z0 → St E.S
 | .start => st0 24 [] []
abbrev R_z0 : Type := (((List ua2) × Unit) × Unit)
def vQ2 : Res E ((List ua2) × Unit) Unit := { rows := [], flat := [], keep := 0, done := [0], rl := (.cons (Rd.sl 103 true) .nil), rb := .nil }
def u48 : P_z0 → Option R_z0
 | .start =>
  some ((([(⟨(⟨#[77, 97, 121, 98, 101]⟩ : ByteArray), ([(⟨#[97]⟩ : ByteArray)] : List ByteArray), ([(⟨(⟨#[78, 111, 110, 101]⟩ : ByteArray), []⟩ : ua1), (⟨(⟨#[83, 111, 109, 101]⟩ : ByteArray), ([(⟨(⟨#[118, 97, 108, 117, 101]⟩ : ByteArray), (⟨(0 : Int), (0 : Int), (⟨#[97]⟩ : ByteArray), []⟩ : ua0)⟩ : ua6)] : List ua6)⟩ : ua1)] : List ua1)⟩ : ua2), (⟨(⟨#[80, 97, 105, 114]⟩ : ByteArray), ([(⟨#[97]⟩ : ByteArray), (⟨#[98]⟩ : ByteArray)] : List ByteArray), ([(⟨(⟨#[80, 97, 105, 114]⟩ : ByteArray), ([(⟨(⟨#[108, 101, 102, 116]⟩ : ByteArray), (⟨(0 : Int), (0 : Int), (⟨#[97]⟩ : ByteArray), []⟩ : ua0)⟩ : ua6), (⟨(⟨#[114, 105, 103, 104, 116]⟩ : ByteArray), (⟨(0 : Int), (0 : Int), (⟨#[98]⟩ : ByteArray), []⟩ : ua0)⟩ : ua6)] : List ua6)⟩ : ua1)] : List ua1)⟩ : ua2), (⟨(⟨#[67, 111, 108, 111, 114]⟩ : ByteArray), [], ([(⟨(⟨#[82, 101, 100]⟩ : ByteArray), []⟩ : ua1), (⟨(⟨#[71, 114, 101, 101, 110]⟩ : ByteArray), []⟩ : ua1), (⟨(⟨#[66, 108, 117, 101]⟩ : ByteArray), []⟩ : ua1)] : List ua1)⟩ : ua2)] : List ua2), ()), ())
def xT8 : List (Plc E P_z0) := []
theorem xm0 : All (ub8 24 0 wq0 ye7) xT8 := trivial
def w30 : Code := Tryz.f57.body.getD .skip
def xi0 : Spec E.S := ub1
theorem wR1 : ub0 E xi0 := ua7
theorem x08 : ∀ pt r, u48 pt = some r → Good E Tryz.f57 w30 0 (vQ2.av r) (vQ2.bx r) (wq0 pt) (ye7 pt) := by
 intro pt r hr
 cases pt <;> exact ua9 (spec := xi0) (wr := (mkWr [] [])) (l := xT8) (z := 24) (p := vQ2) (run' := fun _ => none) E_ok xm0.mem rfl wR1 (fun _ _ h => by cases h) (Eq.trans (by kernel_rfl) hr)
def xO5 : Con E := ⟨57, _, _, .nil, .nil, 0, R_z0, fun a b => u48 (.start), vQ2.av, vQ2.bx⟩
theorem w41 : xO5.Ok := fun a b r h => ub4 (fn := Tryz.f57) (code := w30) E_ok (by kernel_rfl) (by kernel_rfl) (by kernel_rfl) (Nat.le_of_ble_eq_true rfl) (x08 (.start) r h)
inductive P_z1 where
 | start (n0 : Int)
def wq1 : P_z1 → List Bool
 | .start .. => []
def ye8 : P_z1 → St E.S
 | .start n0 => st0 5 [.v (.int .i64 n0)] []
abbrev R_z1 : Type := (((Int × (Int × (ByteArray × (Unit × Unit)))) × Unit) × Unit)
def vQ3 : Res E ((Int × (Int × (ByteArray × (Unit × Unit)))) × Unit) Unit := { rows := [], flat := [], keep := 0, done := [0], rl := (.cons (Rd.agg (.cons (Rd.int .i64) (.cons (Rd.int .i64) (.cons Rd.str (.cons Rd.nl .nil))))) .nil), rb := .nil }
def vR2 : P_z1 → Option R_z1
 | .start n0 =>
  some ((((2 : Int), (n0, ((⟨#[]⟩ : ByteArray), ((), ())))), ()), ())
def xT9 : List (Plc E P_z1) := []
theorem xn1 : All (ub8 5 0 wq1 ye8) xT9 := trivial
def w31 : Code := Tryz.f101.body.getD .skip
def xi1 : Spec E.S := ub1
theorem wR2 : ub0 E xi1 := ua7
theorem x09 : ∀ pt r, vR2 pt = some r → Good E Tryz.f101 w31 0 (vQ3.av r) (vQ3.bx r) (wq1 pt) (ye8 pt) := by
 intro pt r hr
 cases pt <;> exact ua9 (spec := xi1) (wr := (mkWr [] [])) (l := xT9) (z := 5) (p := vQ3) (run' := fun _ => none) E_ok xn1.mem rfl wR2 (fun _ _ h => by cases h) (Eq.trans (by kernel_rfl) hr)
def xO6 : Con E := ⟨101, _, _, (.cons (Rd.int .i64).w .nil), .nil, 0, R_z1, fun a b => vR2 (.start a.1), vQ3.av, vQ3.bx⟩
theorem w48 : xO6.Ok := fun a b r h => ub4 (fn := Tryz.f101) (code := w31) E_ok (by kernel_rfl) (by kernel_rfl) (by kernel_rfl) (Nat.le_of_ble_eq_true rfl) (x09 (.start a.1) r h)
inductive P_z2 where
 | start (name0 : ByteArray) (parts1 : (List ua0))
def wq2 : P_z2 → List Bool
 | .start .. => []
def ye9 : P_z2 → St E.S
 | .start name0 parts1 => st0 8 [.v (.string name0), .sl 25 parts1 false] []
abbrev R_z2 : Type := (((Int × (Int × (ByteArray × ((List ua0) × Unit)))) × Unit) × Unit)
def vQ4 : Res E ((Int × (Int × (ByteArray × ((List ua0) × Unit)))) × Unit) Unit := { rows := [], flat := [], keep := 0, done := [0], rl := (.cons (Rd.agg (.cons (Rd.int .i64) (.cons (Rd.int .i64) (.cons Rd.str (.cons (Rd.sl 25 false) .nil))))) .nil), rb := .nil }
def uF3 : P_z2 → Option R_z2
 | .start name0 parts1 =>
  some ((((1 : Int), ((0 : Int), (name0, (parts1, ())))), ()), ())
def xU0 : List (Plc E P_z2) := []
theorem xo2 : All (ub8 8 0 wq2 ye9) xU0 := trivial
def w32 : Code := Tryz.f58.body.getD .skip
def xi2 : Spec E.S := ub1
theorem wR3 : ub0 E xi2 := ua7
theorem x10 : ∀ pt r, uF3 pt = some r → Good E Tryz.f58 w32 0 (vQ4.av r) (vQ4.bx r) (wq2 pt) (ye9 pt) := by
 intro pt r hr
 cases pt <;> exact ua9 (spec := xi2) (wr := (mkWr [] [])) (l := xU0) (z := 8) (p := vQ4) (run' := fun _ => none) E_ok xo2.mem rfl wR3 (fun _ _ h => by cases h) (Eq.trans (by kernel_rfl) hr)
def w49 : Con E := ⟨58, _, _, (.cons Rd.str.w (.cons (Rw.sl 25) .nil)), .nil, 0, R_z2, fun a b => uF3 (.start a.1 a.2.1), vQ4.av, vQ4.bx⟩
theorem vJ4 : w49.Ok := fun a b r h => ub4 (fn := Tryz.f58) (code := w32) E_ok (by kernel_rfl) (by kernel_rfl) (by kernel_rfl) (Nat.le_of_ble_eq_true rfl) (x10 (.start a.1 a.2.1) r h)
inductive P_z3 where
 | start (n0 : Int)
def wq3 : P_z3 → List Bool
 | .start .. => []
def yf0 : P_z3 → St E.S
 | .start n0 => st0 7 [.v (.int .i64 n0)] []
abbrev R_z3 : Type := (((Int × (Int × (ByteArray × ((List ua0) × Unit)))) × Unit) × Unit)
def vQ5 : Res E ((Int × (Int × (ByteArray × ((List ua0) × Unit)))) × Unit) Unit := { rows := [], flat := [], keep := 0, done := [0], rl := (.cons (Rd.agg (.cons (Rd.int .i64) (.cons (Rd.int .i64) (.cons Rd.str (.cons (Rd.sl 25 false) .nil))))) .nil), rb := .nil }
def vk5 : P_z3 → Option R_z3
 | .start n0 =>
  (vR2 (.start n0)) >>= fun t1 =>
  (uF3 (.start (⟨#[66, 105, 116]⟩ : ByteArray) ([(⟨t1.1.1.1, t1.1.1.2.1, t1.1.1.2.2.1, []⟩ : ua0)] : List ua0))) >>= fun t2 =>
  some (((t2.1.1.1, (t2.1.1.2.1, (t2.1.1.2.2.1, (t2.1.1.2.2.2.1, ())))), ()), ())
def xU1 : List (Plc E P_z3) := []
theorem xp3 : All (ub8 7 0 wq3 yf0) xU1 := trivial
def w33 : Code := Tryz.f59.body.getD .skip
def xi3 : Spec E.S := (Con.add w49 (Con.add xO6 ub1))
theorem wR4 : ub0 E xi3 := (Con.add_ok vJ4 (Con.add_ok w48 ua7))
theorem x11 : ∀ pt r, vk5 pt = some r → Good E Tryz.f59 w33 0 (vQ5.av r) (vQ5.bx r) (wq3 pt) (yf0 pt) := by
 intro pt r hr
 cases pt <;> exact ua9 (spec := xi3) (wr := (mkWr [] [])) (l := xU1) (z := 7) (p := vQ5) (run' := fun _ => none) E_ok xp3.mem rfl wR4 (fun _ _ h => by cases h) (Eq.trans (by kernel_rfl) hr)
def xO7 : Con E := ⟨59, _, _, (.cons (Rd.int .i64).w .nil), .nil, 0, R_z3, fun a b => vk5 (.start a.1), vQ5.av, vQ5.bx⟩
theorem w63 : xO7.Ok := fun a b r h => ub4 (fn := Tryz.f59) (code := w33) E_ok (by kernel_rfl) (by kernel_rfl) (by kernel_rfl) (Nat.le_of_ble_eq_true rfl) (x11 (.start a.1) r h)
inductive P_z4 where
 | start (s0 : (List ByteArray))
def wq4 : P_z4 → List Bool
 | .start .. => []
def yf1 : P_z4 → St E.S
 | .start s0 => st0 9 [.sl 9 s0 false] []
abbrev R_z4 : Type := (((List ByteArray) × Unit) × Unit)
def vQ6 : Res E ((List ByteArray) × Unit) Unit := { rows := [], flat := [], keep := 0, done := [0], rl := (.cons (Rd.sl 9 true) .nil), rb := .nil }
def uO5 : P_z4 → Option R_z4
 | .start s0 =>
  (bif decide ((List.length s0 : Int) = (List.length s0 : Int)) then span (List.length s0) (0 : Int) (List.length s0 : Int) else none) >>= fun t1 =>
  some ((cut s0 t1, ()), ())
def xU2 : List (Plc E P_z4) := []
theorem xq4 : All (ub8 9 0 wq4 yf1) xU2 := trivial
def w34 : Code := Tryz.f78.body.getD .skip
def xi4 : Spec E.S := ub1
theorem wR5 : ub0 E xi4 := ua7
theorem x12 : ∀ pt r, uO5 pt = some r → Good E Tryz.f78 w34 0 (vQ6.av r) (vQ6.bx r) (wq4 pt) (yf1 pt) := by
 intro pt r hr
 cases pt <;> exact ua9 (spec := xi4) (wr := (mkWr [] [])) (l := xU2) (z := 9) (p := vQ6) (run' := fun _ => none) E_ok xq4.mem rfl wR5 (fun _ _ h => by cases h) (Eq.trans (by kernel_rfl) hr)
def w64 : Con E := ⟨78, _, _, (.cons (Rw.sl 9) .nil), .nil, 0, R_z4, fun a b => uO5 (.start a.1), vQ6.av, vQ6.bx⟩
theorem vJ5 : w64.Ok := fun a b r h => ub4 (fn := Tryz.f78) (code := w34) E_ok (by kernel_rfl) (by kernel_rfl) (by kernel_rfl) (Nat.le_of_ble_eq_true rfl) (x12 (.start a.1) r h)
inductive P_z5 where
 | start (n0 : Int) (lo1 : Int) (hi2 : Int)
def wq5 : P_z5 → List Bool
 | .start .. => []
def yf2 : P_z5 → St E.S
 | .start n0 lo1 hi2 => st0 15 [.v (.int .i64 n0), .v (.int .i64 lo1), .v (.int .i64 hi2)] []
abbrev R_z5 : Type := ((Bool × Unit) × Unit)
def vQ7 : Res E (Bool × Unit) Unit := { rows := [], flat := [], keep := 0, done := [0], rl := (.cons Rd.bool .nil), rb := .nil }
def uk8 : P_z5 → Option R_z5
 | .start n0 lo1 hi2 =>
  if (decide (lo1 ≤ n0)) = true then
   some ((decide (n0 ≤ hi2), ()), ())
  else
   some ((false, ()), ())
def xU3 : List (Plc E P_z5) := []
theorem xr5 : All (ub8 15 0 wq5 yf2) xU3 := trivial
def w35 : Code := Tryz.f70.body.getD .skip
def xi5 : Spec E.S := ub1
theorem wR6 : ub0 E xi5 := ua7
theorem x13 : ∀ pt r, uk8 pt = some r → Good E Tryz.f70 w35 0 (vQ7.av r) (vQ7.bx r) (wq5 pt) (yf2 pt) := by
 intro pt r hr
 cases pt <;> exact ua9 (spec := xi5) (wr := (mkWr [] [])) (l := xU3) (z := 15) (p := vQ7) (run' := fun _ => none) E_ok xr5.mem rfl wR6 (fun _ _ h => by cases h) (Eq.trans (by kernel_rfl) hr)
def uU8 : Con E := ⟨70, _, _, (.cons (Rd.int .i64).w (.cons (Rd.int .i64).w (.cons (Rd.int .i64).w .nil))), .nil, 0, R_z5, fun a b => uk8 (.start a.1 a.2.1 a.2.2.1), vQ7.av, vQ7.bx⟩
theorem ur7 : uU8.Ok := fun a b r h => ub4 (fn := Tryz.f70) (code := w35) E_ok (by kernel_rfl) (by kernel_rfl) (by kernel_rfl) (Nat.le_of_ble_eq_true rfl) (x13 (.start a.1 a.2.1 a.2.2.1) r h)
inductive P_z6 where
 | start (s0 : ByteArray)
 | p52 (s0 : ByteArray) (s7 : (List Int)) (s8 : Int) (s9 : Int)
 | p3379 (s0 : ByteArray) (i3 : Int) (c4 : Int) (letter5 : Bool) (s7 : (List Int)) (s8 : Int) (s9 : Int)
def vC4 : P_z6 → List Bool
 | .start .. => []
 | .p52 .. => [false, false, true, false, true]
 | .p3379 .. => [true, true, false, false, true, true, false, false, true, false, true]
def x59 : P_z6 → St E.S
 | .start s0 => st0 50 [.v (.string s0)] []
 | .p52 s0 s7 s8 s9 => mkSt 50 [0, 7, 8, 9] [.v (.string s0), .sl 5 s7 false, .v (.int .i64 s8), .v (.int .i64 s9)] []
 | .p3379 s0 i3 c4 letter5 s7 s8 s9 => mkSt 50 [0, 3, 4, 5, 7, 8, 9] [.v (.string s0), .v (.int .i64 i3), .v (.int .u8 c4), .v (.bool letter5), .sl 5 s7 false, .v (.int .i64 s8), .v (.int .i64 s9)] []
abbrev R_z6 : Type := ((Bool × Unit) × Unit)
def vi1 : Res E (Bool × Unit) Unit := { rows := [], flat := [], keep := 0, done := [0], rl := (.cons Rd.bool .nil), rb := .nil }
def ug8 : P_z6 → Option R_z6
 | .start s0 =>
  ug8 (.p52 s0 (ub9 s0) (List.length (ub9 s0) : Int) (0 : Int))
 | .p52 s0 s7 s8 s9 =>
  if (decide (s9 < s8)) = true then
   (idx s7 s9) >>= fun t1 =>
   if (decide ((97 : Int) ≤ t1)) = true then
    if (decide (t1 ≤ (122 : Int))) = true then
     ug8 (.p3379 s0 s9 t1 true s7 s8 s9)
    else
     if (decide ((65 : Int) ≤ t1)) = true then
      ug8 (.p3379 s0 s9 t1 (decide (t1 ≤ (90 : Int))) s7 s8 s9)
     else
      ug8 (.p3379 s0 s9 t1 false s7 s8 s9)
   else
    if (decide ((65 : Int) ≤ t1)) = true then
     ug8 (.p3379 s0 s9 t1 (decide (t1 ≤ (90 : Int))) s7 s8 s9)
    else
     ug8 (.p3379 s0 s9 t1 false s7 s8 s9)
  else
   (uk8 (.start (s0.size : Int) (1 : Int) (16 : Int))) >>= fun t2 =>
   some ((t2.1.1, ()), ())
 | .p3379 s0 i3 c4 letter5 s7 s8 s9 =>
  if (!letter5) = true then
   if (i3 == (0 : Int)) = true then
    some ((false, ()), ())
   else
    if (c4 != (95 : Int)) = true then
     if (decide (c4 < (48 : Int))) = true then
      some ((false, ()), ())
     else
      if (decide (c4 > (57 : Int))) = true then
       some ((false, ()), ())
      else
       ug8 (.p52 s0 s7 s8 (IntKind.wrap .i64 (s9 + (1 : Int))))
    else
     ug8 (.p52 s0 s7 s8 (IntKind.wrap .i64 (s9 + (1 : Int))))
  else
   ug8 (.p52 s0 s7 s8 (IntKind.wrap .i64 (s9 + (1 : Int))))
 partial_fixpoint
def xU4 : List (Plc E P_z6) := [⟨52, [false, false, true, false, true], { slots := [0, 7, 8, 9], rows := [], flat := [], keep := 0 }, _, _, (.cons Rd.str (.cons (Rd.sl 5 false) (.cons (Rd.int .i64) (.cons (Rd.int .i64) .nil)))), .nil, fun a b => .p52 a.1 a.2.1 a.2.2.1 a.2.2.2.1⟩,
 ⟨3379, [true, true, false, false, true, true, false, false, true, false, true], { slots := [0, 3, 4, 5, 7, 8, 9], rows := [], flat := [], keep := 0 }, _, _, (.cons Rd.str (.cons (Rd.int .i64) (.cons (Rd.int .u8) (.cons Rd.bool (.cons (Rd.sl 5 false) (.cons (Rd.int .i64) (.cons (Rd.int .i64) .nil))))))), .nil, fun a b => .p3379 a.1 a.2.1 a.2.2.1 a.2.2.2.1 a.2.2.2.2.1 a.2.2.2.2.2.1 a.2.2.2.2.2.2.1⟩]
theorem xs7 : All (ub8 50 0 vC4 x59) xU4 := ⟨⟨rfl, rfl, fun _ _ => rfl, fun _ _ => rfl⟩, ⟨⟨rfl, rfl, fun _ _ => rfl, fun _ _ => rfl⟩, trivial⟩⟩
def vW9 : Code := Tryz.f129.body.getD .skip
def xi6 : Spec E.S := (Con.add uU8 ub1)
theorem wR7 : ub0 E xi6 := (Con.add_ok ur7 ua7)
theorem x14 : ∀ pt r, ug8 pt = some r → Good E Tryz.f129 vW9 0 (vi1.av r) (vi1.bx r) (vC4 pt) (x59 pt) := by
 refine ug8.partial_correctness (fun pt r => Good E Tryz.f129 vW9 0 (vi1.av r) (vi1.bx r) (vC4 pt) (x59 pt)) ?_
 intro run' ih pt r hr
 cases pt <;> exact ua9 (spec := xi6) (wr := (mkWr [] [])) (l := xU4) (z := 50) (p := vi1) E_ok xs7.mem rfl wR7 ih (Eq.trans (by kernel_rfl) hr)
def w76 : Con E := ⟨129, _, _, (.cons Rd.str.w .nil), .nil, 0, R_z6, fun a b => ug8 (.start a.1), vi1.av, vi1.bx⟩
theorem vJ6 : w76.Ok := fun a b r h => ub4 (fn := Tryz.f129) (code := vW9) E_ok (by kernel_rfl) (by kernel_rfl) (by kernel_rfl) (Nat.le_of_ble_eq_true rfl) (x14 (.start a.1) r h)
inductive P_z7 where
 | start (is0 : Bool) (e1 : Int)
def wq6 : P_z7 → List Bool
 | .start .. => []
def yf3 : P_z7 → St E.S
 | .start is0 e1 => st0 7 [.v (.bool is0), .v (.int .i64 e1)] []
abbrev R_z7 : Type := ((Int × Unit) × Unit)
def vQ8 : Res E (Int × Unit) Unit := { rows := [], flat := [], keep := 0, done := [0], rl := (.cons (Rd.int .i64) .nil), rb := .nil }
def uc7 : P_z7 → Option R_z7
 | .start is0 e1 =>
  if is0 = true then
   some (((0 : Int), ()), ())
  else
   some ((e1, ()), ())
def xU5 : List (Plc E P_z7) := []
theorem xt8 : All (ub8 7 0 wq6 yf3) xU5 := trivial
def w36 : Code := Tryz.f111.body.getD .skip
def xi7 : Spec E.S := ub1
theorem wR8 : ub0 E xi7 := ua7
theorem x17 : ∀ pt r, uc7 pt = some r → Good E Tryz.f111 w36 0 (vQ8.av r) (vQ8.bx r) (wq6 pt) (yf3 pt) := by
 intro pt r hr
 cases pt <;> exact ua9 (spec := xi7) (wr := (mkWr [] [])) (l := xU5) (z := 7) (p := vQ8) (run' := fun _ => none) E_ok xt8.mem rfl wR8 (fun _ _ h => by cases h) (Eq.trans (by kernel_rfl) hr)
def uU9 : Con E := ⟨111, _, _, (.cons Rd.bool.w (.cons (Rd.int .i64).w .nil)), .nil, 0, R_z7, fun a b => uc7 (.start a.1 a.2.1), vQ8.av, vQ8.bx⟩
theorem ur8 : uU9.Ok := fun a b r h => ub4 (fn := Tryz.f111) (code := w36) E_ok (by kernel_rfl) (by kernel_rfl) (by kernel_rfl) (Nat.le_of_ble_eq_true rfl) (x17 (.start a.1 a.2.1) r h)
inductive P_z8 where
 | start (s0 : (List ByteArray)) (v1 : ByteArray)
 | p52 (s0 : (List ByteArray)) (v1 : ByteArray) (s7 : Int) (s8 : Int)
def vC5 : P_z8 → List Bool
 | .start .. => []
 | .p52 .. => [false, false, true, false, true]
def x60 : P_z8 → St E.S
 | .start s0 v1 => st0 19 [.sl 9 s0 false, .v (.string v1)] []
 | .p52 s0 v1 s7 s8 => mkSt 19 [0, 1, 7, 8] [.sl 9 s0 false, .v (.string v1), .v (.int .i64 s7), .v (.int .i64 s8)] []
abbrev R_z8 : Type := ((Int × Unit) × Unit)
def vi8 : Res E (Int × Unit) Unit := { rows := [], flat := [], keep := 0, done := [0], rl := (.cons (Rd.int .i64) .nil), rb := .nil }
def uw5 : P_z8 → Option R_z8
 | .start s0 v1 =>
  uw5 (.p52 s0 v1 (List.length s0 : Int) (0 : Int))
 | .p52 s0 v1 s7 s8 =>
  if (decide (s8 < s7)) = true then
   (idx s0 s8) >>= fun t1 =>
   if (seq v1 t1) = true then
    some ((s8, ()), ())
   else
    uw5 (.p52 s0 v1 s7 (IntKind.wrap .i64 (s8 + (1 : Int))))
  else
   some (((-1 : Int), ()), ())
 partial_fixpoint
def xU6 : List (Plc E P_z8) := [⟨52, [false, false, true, false, true], { slots := [0, 1, 7, 8], rows := [], flat := [], keep := 0 }, _, _, (.cons (Rd.sl 9 false) (.cons Rd.str (.cons (Rd.int .i64) (.cons (Rd.int .i64) .nil)))), .nil, fun a b => .p52 a.1 a.2.1 a.2.2.1 a.2.2.2.1⟩]
theorem xu9 : All (ub8 19 0 vC5 x60) xU6 := ⟨⟨rfl, rfl, fun _ _ => rfl, fun _ _ => rfl⟩, trivial⟩
def vX0 : Code := Tryz.f163.body.getD .skip
def xi8 : Spec E.S := ub1
theorem wR9 : ub0 E xi8 := ua7
theorem x18 : ∀ pt r, uw5 pt = some r → Good E Tryz.f163 vX0 0 (vi8.av r) (vi8.bx r) (vC5 pt) (x60 pt) := by
 refine uw5.partial_correctness (fun pt r => Good E Tryz.f163 vX0 0 (vi8.av r) (vi8.bx r) (vC5 pt) (x60 pt)) ?_
 intro run' ih pt r hr
 cases pt <;> exact ua9 (spec := xi8) (wr := (mkWr [] [])) (l := xU6) (z := 19) (p := vi8) E_ok xu9.mem rfl wR9 ih (Eq.trans (by kernel_rfl) hr)
def w92 : Con E := ⟨163, _, _, (.cons (Rw.sl 9) (.cons Rd.str.w .nil)), .nil, 0, R_z8, fun a b => uw5 (.start a.1 a.2.1), vi8.av, vi8.bx⟩
theorem vJ7 : w92.Ok := fun a b r h => ub4 (fn := Tryz.f163) (code := vX0) E_ok (by kernel_rfl) (by kernel_rfl) (by kernel_rfl) (Nat.le_of_ble_eq_true rfl) (x18 (.start a.1 a.2.1) r h)
inductive P_z9 where
 | start (s0 : (List ByteArray)) (v1 : ByteArray)
def wq7 : P_z9 → List Bool
 | .start .. => []
def yf4 : P_z9 → St E.S
 | .start s0 v1 => st0 9 [.sl 9 s0 false, .v (.string v1)] []
abbrev R_z9 : Type := ((Bool × Unit) × Unit)
def vQ9 : Res E (Bool × Unit) Unit := { rows := [], flat := [], keep := 0, done := [0], rl := (.cons Rd.bool .nil), rb := .nil }
def u49 : P_z9 → Option R_z9
 | .start s0 v1 =>
  (uw5 (.start s0 v1)) >>= fun t1 =>
  some ((decide (t1.1.1 ≥ (0 : Int)), ()), ())
def xU7 : List (Plc E P_z9) := []
theorem xw0 : All (ub8 9 0 wq7 yf4) xU7 := trivial
def w37 : Code := Tryz.f144.body.getD .skip
def xi9 : Spec E.S := (Con.add w92 ub1)
theorem wS0 : ub0 E xi9 := (Con.add_ok vJ7 ua7)
theorem x19 : ∀ pt r, u49 pt = some r → Good E Tryz.f144 w37 0 (vQ9.av r) (vQ9.bx r) (wq7 pt) (yf4 pt) := by
 intro pt r hr
 cases pt <;> exact ua9 (spec := xi9) (wr := (mkWr [] [])) (l := xU7) (z := 9) (p := vQ9) (run' := fun _ => none) E_ok xw0.mem rfl wS0 (fun _ _ h => by cases h) (Eq.trans (by kernel_rfl) hr)
def w98 : Con E := ⟨144, _, _, (.cons (Rw.sl 9) (.cons Rd.str.w .nil)), .nil, 0, R_z9, fun a b => u49 (.start a.1 a.2.1), vQ9.av, vQ9.bx⟩
theorem vJ8 : w98.Ok := fun a b r h => ub4 (fn := Tryz.f144) (code := w37) E_ok (by kernel_rfl) (by kernel_rfl) (by kernel_rfl) (Nat.le_of_ble_eq_true rfl) (x19 (.start a.1 a.2.1) r h)
inductive wC3 where
 | start (l0 : (List Int))
 | p52 (s5 : (List Int)) (s6 : Int) (s7 : Int)
def vc8 : wC3 → List Bool
 | .start .. => []
 | .p52 .. => [false, false, true, false, true]
def xj0 : wC3 → St E.S
 | .start l0 => st0 15 [.sl 29 l0 false] []
 | .p52 s5 s6 s7 => mkSt 15 [5, 6, 7] [.sl 29 s5 false, .v (.int .i64 s6), .v (.int .i64 s7)] []
abbrev xV2 : Type := ((Int × Unit) × Unit)
def uQ3 : Res E (Int × Unit) Unit := { rows := [], flat := [], keep := 0, done := [0], rl := (.cons (Rd.int .i64) .nil), rb := .nil }
def ud1 : wC3 → Option xV2
 | .start l0 =>
  ud1 (.p52 l0 (List.length l0 : Int) (0 : Int))
 | .p52 s5 s6 s7 =>
  if (decide (s7 < s6)) = true then
   (idx s5 s7) >>= fun t1 =>
   if (t1 != (0 : Int)) = true then
    some ((t1, ()), ())
   else
    ud1 (.p52 s5 s6 (IntKind.wrap .i64 (s7 + (1 : Int))))
  else
   some (((0 : Int), ()), ())
 partial_fixpoint
def xm1 : List (Plc E wC3) := [⟨52, [false, false, true, false, true], { slots := [5, 6, 7], rows := [], flat := [], keep := 0 }, _, _, (.cons (Rd.sl 29 false) (.cons (Rd.int .i64) (.cons (Rd.int .i64) .nil))), .nil, fun a b => .p52 a.1 a.2.1 a.2.2.1⟩]
theorem wS2 : All (ub8 15 0 vc8 xj0) xm1 := ⟨⟨rfl, rfl, fun _ _ => rfl, fun _ _ => rfl⟩, trivial⟩
def vx6 : Code := Tryz.f69.body.getD .skip
def wr7 : Spec E.S := ub1
theorem v86 : ub0 E wr7 := ua7
theorem xA9 : ∀ pt r, ud1 pt = some r → Good E Tryz.f69 vx6 0 (uQ3.av r) (uQ3.bx r) (vc8 pt) (xj0 pt) := by
 refine ud1.partial_correctness (fun pt r => Good E Tryz.f69 vx6 0 (uQ3.av r) (uQ3.bx r) (vc8 pt) (xj0 pt)) ?_
 intro run' ih pt r hr
 cases pt <;> exact ua9 (spec := wr7) (wr := (mkWr [] [])) (l := xm1) (z := 15) (p := uQ3) E_ok wS2.mem rfl v86 ih (Eq.trans (by kernel_rfl) hr)
def uG1 : Con E := ⟨69, _, _, (.cons (Rw.sl 29) .nil), .nil, 0, xV2, fun a b => ud1 (.start a.1), uQ3.av, uQ3.bx⟩
theorem uo4 : uG1.Ok := fun a b r h => ub4 (fn := Tryz.f69) (code := vx6) E_ok (by kernel_rfl) (by kernel_rfl) (by kernel_rfl) (Nat.le_of_ble_eq_true rfl) (xA9 (.start a.1) r h)
inductive wC4 where
 | start (name0 : ByteArray) (known1 : (List ByteArray))
def vM2 : wC4 → List Bool
 | .start .. => []
def xQ3 : wC4 → St E.S
 | .start name0 known1 => st0 15 [.v (.string name0), .sl 9 known1 false] []
abbrev xV3 : Type := ((Int × Unit) × Unit)
def vf9 : Res E (Int × Unit) Unit := { rows := [], flat := [], keep := 0, done := [0], rl := (.cons (Rd.int .i64) .nil), rb := .nil }
def uz2 : wC4 → Option xV3
 | .start name0 known1 =>
  (ug8 (.start name0)) >>= fun t1 =>
  (uc7 (.start t1.1.1 (4 : Int))) >>= fun t2 =>
  (u49 (.start known1 name0)) >>= fun t3 =>
  (uc7 (.start (!t3.1.1) (5 : Int))) >>= fun t4 =>
  (ud1 (.start ([t2.1.1, t4.1.1] : List Int))) >>= fun t5 =>
  some ((t5.1.1, ()), ())
def xm2 : List (Plc E wC4) := []
theorem wS3 : All (ub8 15 0 vM2 xQ3) xm2 := trivial
def wk6 : Code := Tryz.f110.body.getD .skip
def wr8 : Spec E.S := (Con.add uG1 (Con.add w98 (Con.add uU9 (Con.add w76 ub1))))
theorem v87 : ub0 E wr8 := (Con.add_ok uo4 (Con.add_ok vJ8 (Con.add_ok ur8 (Con.add_ok vJ6 ua7))))
theorem xB0 : ∀ pt r, uz2 pt = some r → Good E Tryz.f110 wk6 0 (vf9.av r) (vf9.bx r) (vM2 pt) (xQ3 pt) := by
 intro pt r hr
 cases pt <;> exact ua9 (spec := wr8) (wr := (mkWr [] [])) (l := xm2) (z := 15) (p := vf9) (run' := fun _ => none) E_ok wS3.mem rfl v87 (fun _ _ h => by cases h) (Eq.trans (by kernel_rfl) hr)
def va2 : Con E := ⟨110, _, _, (.cons Rd.str.w (.cons (Rw.sl 9) .nil)), .nil, 0, xV3, fun a b => uz2 (.start a.1 a.2.1), vf9.av, vf9.bx⟩
theorem uL5 : va2.Ok := fun a b r h => ub4 (fn := Tryz.f110) (code := wk6) E_ok (by kernel_rfl) (by kernel_rfl) (by kernel_rfl) (Nat.le_of_ble_eq_true rfl) (xB0 (.start a.1 a.2.1) r h)
inductive wC5 where
 | start (i0 : Int) (p1 : ByteArray) (s2 : ua2)
def vM3 : wC5 → List Bool
 | .start .. => []
def xQ4 : wC5 → St E.S
 | .start i0 p1 s2 => st0 12 [.v (.int .i64 i0), .v (.string p1), .el 103 s2 0] []
abbrev xV4 : Type := ((Int × Unit) × Unit)
def vg0 : Res E (Int × Unit) Unit := { rows := [], flat := [], keep := 0, done := [0], rl := (.cons (Rd.int .i64) .nil), rb := .nil }
def u23 : wC5 → Option xV4
 | .start i0 p1 s2 =>
  (span (List.length s2.Params) (0 : Int) i0) >>= fun t1 =>
  (uz2 (.start p1 (cut s2.Params t1))) >>= fun t2 =>
  some ((t2.1.1, ()), ())
def xm3 : List (Plc E wC5) := []
theorem wS4 : All (ub8 12 0 vM3 xQ4) xm3 := trivial
def wk7 : Code := Tryz.f113.body.getD .skip
def wr9 : Spec E.S := (Con.add va2 ub1)
theorem v88 : ub0 E wr9 := (Con.add_ok uL5 ua7)
theorem xB1 : ∀ pt r, u23 pt = some r → Good E Tryz.f113 wk7 0 (vg0.av r) (vg0.bx r) (vM3 pt) (xQ4 pt) := by
 intro pt r hr
 cases pt <;> exact ua9 (spec := wr9) (wr := (mkWr [] [])) (l := xm3) (z := 12) (p := vg0) (run' := fun _ => none) E_ok wS4.mem rfl v88 (fun _ _ h => by cases h) (Eq.trans (by kernel_rfl) hr)
def w42 : Con E := ⟨113, _, _, (.cons (Rd.int .i64).w (.cons Rd.str.w (.cons (Rd.el 103 0).w .nil))), .nil, 0, xV4, fun a b => u23 (.start a.1 a.2.1 a.2.2.1), vg0.av, vg0.bx⟩
theorem wH0 : w42.Ok := fun a b r h => ub4 (fn := Tryz.f113) (code := wk7) E_ok (by kernel_rfl) (by kernel_rfl) (by kernel_rfl) (Nat.le_of_ble_eq_true rfl) (xB1 (.start a.1 a.2.1 a.2.2.1) r h)
inductive wC6 where
 | start (l0 : (List ByteArray)) (C0 : ByteArray) (C1 : (List ByteArray)) (C2 : (List ua1))
 | p52 (s9 : (List ByteArray)) (s10 : Int) (s11 : Int) (C0 : ByteArray) (C1 : (List ByteArray)) (C2 : (List ua1))
def vc9 : wC6 → List Bool
 | .start .. => []
 | .p52 .. => [false, false, true, false, true]
def xj3 : wC6 → St E.S
 | .start l0 C0 C1 C2 => st0 25 [.sl 9 l0 false, .fn 113 [.bp 0 0]] [.var 103 [.v (.string C0), .sl 9 C1 false, .sl 56 C2 false]]
 | .p52 s9 s10 s11 C0 C1 C2 => mkSt 25 [1, 9, 10, 11] [.fn 113 [.bp 0 0], .sl 9 s9 false, .v (.int .i64 s10), .v (.int .i64 s11)] [.var 103 [.v (.string C0), .sl 9 C1 false, .sl 56 C2 false]]
abbrev xV5 : Type := ((Int × (Int × Unit)) × ((ByteArray × ((List ByteArray) × ((List ua1) × Unit))) × Unit))
def uQ4 : Res E (Int × (Int × Unit)) ((ByteArray × ((List ByteArray) × ((List ua1) × Unit))) × Unit) := { rows := [], flat := [], keep := 1, done := [0, 1], rl := (.cons (Rd.int .i64) (.cons (Rd.int .i64) .nil)), rb := (.cons (.var 103 (.cons Rd.str (.cons (Rd.sl 9 false) (.cons (Rd.sl 56 false) .nil)))) .nil) }
def un3 : wC6 → Option xV5
 | .start l0 C0 C1 C2 =>
  un3 (.p52 l0 (List.length l0 : Int) (0 : Int) C0 C1 C2)
 | .p52 s9 s10 s11 C0 C1 C2 =>
  if (decide (s11 < s10)) = true then
   (idx s9 s11) >>= fun t1 =>
   (u23 (.start s11 t1 (⟨C0, C1, C2⟩ : ua2))) >>= fun t2 =>
   if (t2.1.1 != (0 : Int)) = true then
    some ((s11, (t2.1.1, ())), ((C0, (C1, (C2, ()))), ()))
   else
    un3 (.p52 s9 s10 (IntKind.wrap .i64 (s11 + (1 : Int))) C0 C1 C2)
  else
   some (((0 : Int), ((0 : Int), ())), ((C0, (C1, (C2, ()))), ()))
 partial_fixpoint
def xm4 : List (Plc E wC6) := [⟨52, [false, false, true, false, true], { slots := [1, 9, 10, 11], rows := [], flat := [], keep := 1 }, _, _, (.cons (Rd.fn 113 (.cons (Rd.bp 0 0) .nil)) (.cons (Rd.sl 9 false) (.cons (Rd.int .i64) (.cons (Rd.int .i64) .nil)))), (.cons (.var 103 (.cons Rd.str (.cons (Rd.sl 9 false) (.cons (Rd.sl 56 false) .nil)))) .nil), fun a b => .p52 a.2.1 a.2.2.1 a.2.2.2.1 b.1.1 b.1.2.1 b.1.2.2.1⟩]
theorem wS5 : All (ub8 25 1 vc9 xj3) xm4 := ⟨⟨rfl, rfl, fun _ _ => rfl, fun _ _ => rfl⟩, trivial⟩
def vx7 : Code := Tryz.f112.body.getD .skip
def ws1 : Spec E.S := (Con.add w42 ub1)
theorem v89 : ub0 E ws1 := (Con.add_ok wH0 ua7)
theorem xB2 : ∀ pt r, un3 pt = some r → Good E Tryz.f112 vx7 1 (uQ4.av r) (uQ4.bx r) (vc9 pt) (xj3 pt) := by
 refine un3.partial_correctness (fun pt r => Good E Tryz.f112 vx7 1 (uQ4.av r) (uQ4.bx r) (vc9 pt) (xj3 pt)) ?_
 intro run' ih pt r hr
 cases pt <;> exact ua9 (spec := ws1) (wr := (mkWr [] [])) (l := xm4) (z := 25) (p := uQ4) E_ok wS5.mem rfl v89 ih (Eq.trans (by kernel_rfl) hr)
def w43 : Con E := ⟨112, _, _, (.cons (Rw.sl 9) (.cons (Rd.fn 113 (.cons (Rd.bp 0 0) .nil)).w .nil)), (.cons (.var 103 (.cons Rd.str (.cons (Rd.sl 9 false) (.cons (Rd.sl 56 false) .nil)))) .nil), 1, xV5, fun a b => un3 (.start a.1 b.1.1 b.1.2.1 b.1.2.2.1), uQ4.av, uQ4.bx⟩
theorem wH1 : w43.Ok := fun a b r h => ub4 (fn := Tryz.f112) (code := vx7) E_ok (by kernel_rfl) (by kernel_rfl) (by kernel_rfl) (Nat.le_of_ble_eq_true rfl) (xB2 (.start a.1 b.1.1 b.1.2.1 b.1.2.2.1) r h)
inductive wC7 where
 | start (t0_0 : Int) (t0_1 : Int) (t0_2 : ByteArray) (t0_3 : (List ua0))
def vM4 : wC7 → List Bool
 | .start .. => []
def xQ5 : wC7 → St E.S
 | .start t0_0 t0_1 t0_2 t0_3 => st0 5 [.agg [.v (.int .i64 t0_0), .v (.int .i64 t0_1), .v (.string t0_2), .sl 25 t0_3 false]] []
abbrev xV6 : Type := (((List ua0) × Unit) × Unit)
def vg1 : Res E ((List ua0) × Unit) Unit := { rows := [], flat := [], keep := 0, done := [0], rl := (.cons (Rd.sl 25 false) .nil), rb := .nil }
def u24 : wC7 → Option xV6
 | .start t0_0 t0_1 t0_2 t0_3 =>
  some ((t0_3, ()), ())
def xm5 : List (Plc E wC7) := []
theorem wS6 : All (ub8 5 0 vM4 xQ5) xm5 := trivial
def wk8 : Code := Tryz.f140.body.getD .skip
def ws2 : Spec E.S := ub1
theorem v90 : ub0 E ws2 := ua7
theorem xB3 : ∀ pt r, u24 pt = some r → Good E Tryz.f140 wk8 0 (vg1.av r) (vg1.bx r) (vM4 pt) (xQ5 pt) := by
 intro pt r hr
 cases pt <;> exact ua9 (spec := ws2) (wr := (mkWr [] [])) (l := xm5) (z := 5) (p := vg1) (run' := fun _ => none) E_ok wS6.mem rfl v90 (fun _ _ h => by cases h) (Eq.trans (by kernel_rfl) hr)
def w44 : Con E := ⟨140, _, _, (.cons (Rw.agg (.cons (Rd.int .i64).w (.cons (Rd.int .i64).w (.cons Rd.str.w (.cons (Rw.sl 25) .nil))))) .nil), .nil, 0, xV6, fun a b => u24 (.start a.1.1 a.1.2.1 a.1.2.2.1 a.1.2.2.2.1), vg1.av, vg1.bx⟩
theorem wH2 : w44.Ok := fun a b r h => ub4 (fn := Tryz.f140) (code := wk8) E_ok (by kernel_rfl) (by kernel_rfl) (by kernel_rfl) (Nat.le_of_ble_eq_true rfl) (xB3 (.start a.1.1 a.1.2.1 a.1.2.2.1 a.1.2.2.2.1) r h)
inductive vn6 where
 | start (x0_0 : Int) (x0_1 : Int) (x0_2 : ByteArray) (x0_3 : (List ua0)) (depth1 : Int) (B0 : Int)
 | p15 (depth1 : Int) (B0 : Int) (H0 : Int) (H1 : Int) (H2 : ByteArray) (H3 : (List ua0))
 | p244 (depth1 : Int) (s20 : (List ua0)) (s21 : Int) (s22 : Int) (B0 : Int)
def uH2 : vn6 → List Bool
 | .start .. => []
 | .p15 .. => [true, true, true]
 | .p244 .. => [false, false, true, false, true, true, true]
def vT8 : vn6 → St E.S
 | .start x0_0 x0_1 x0_2 x0_3 depth1 B0 => st0 33 [.agg [.v (.int .i64 x0_0), .v (.int .i64 x0_1), .v (.string x0_2), .sl 25 x0_3 false], .v (.int .i64 depth1), .bp 0 0, .bp 1 0, .bp 2 0] [.var 3 [.v (.int .i64 B0)], .var 182 [.fn 140 []], .var 200 [.fn 158 [.bp 0 0, .bp 1 0, .bp 2 0]]]
 | .p15 depth1 B0 H0 H1 H2 H3 => mkSt 33 [1, 3, 4, 5] [.v (.int .i64 depth1), .bp 1 0, .bp 2 0, .bp 3 0] [.var 3 [.v (.int .i64 B0)], .var 182 [.fn 140 []], .var 200 [.fn 158 [.bp 0 0, .bp 1 0, .bp 2 0]], .var 25 [.v (.int .i64 H0), .v (.int .i64 H1), .v (.string H2), .sl 25 H3 false]]
 | .p244 depth1 s20 s21 s22 B0 => mkSt 33 [1, 4, 20, 21, 22] [.v (.int .i64 depth1), .bp 2 0, .sl 25 s20 false, .v (.int .i64 s21), .v (.int .i64 s22)] [.var 3 [.v (.int .i64 B0)], .var 182 [.fn 140 []], .var 200 [.fn 158 [.bp 0 0, .bp 1 0, .bp 2 0]]]
abbrev vG4 : Type := ((Bool × Unit) × ((Int × Unit) × ((Unit × Unit) × (((Unit × (Unit × (Unit × Unit))) × Unit) × Unit))))
def up1 : Res E (Bool × Unit) ((Int × Unit) × ((Unit × Unit) × (((Unit × (Unit × (Unit × Unit))) × Unit) × Unit))) := { rows := [], flat := [], keep := 3, done := [0], rl := (.cons Rd.bool .nil), rb := (.cons (.var 3 (.cons (Rd.int .i64) .nil)) (.cons (.var 182 (.cons (Rd.fn 140 .nil) .nil)) (.cons (.var 200 (.cons (Rd.fn 158 (.cons (Rd.bp 0 0) (.cons (Rd.bp 1 0) (.cons (Rd.bp 2 0) .nil)))) .nil)) .nil))) }
def uk1 : vn6 → Option vG4
 | .start x0_0 x0_1 x0_2 x0_3 depth1 B0 =>
  if (decide ((IntKind.wrap .i64 (B0 + (1 : Int))) > (200 : Int))) = true then
   some ((false, ()), ((IntKind.wrap .i64 (B0 + (1 : Int)), ()), (((), ()), ((((), ((), ((), ()))), ()), ()))))
  else
   if (decide (depth1 > (40 : Int))) = true then
    some ((false, ()), ((IntKind.wrap .i64 (B0 + (1 : Int)), ()), (((), ()), ((((), ((), ((), ()))), ()), ()))))
   else
    uk1 (.p15 depth1 (IntKind.wrap .i64 (B0 + (1 : Int))) x0_0 x0_1 x0_2 x0_3)
 | .p15 depth1 B0 H0 H1 H2 H3 =>
  (u24 (.start H0 H1 H2 H3)) >>= fun t1 =>
  uk1 (.p244 depth1 t1.1.1 (List.length t1.1.1 : Int) (0 : Int) B0)
 | .p244 depth1 s20 s21 s22 B0 =>
  if (decide (s22 < s21)) = true then
   (idx s20 s22) >>= fun t1 =>
   (uk1 (.start t1.Kind t1.Value t1.Name t1.Parts (IntKind.wrap .i64 (depth1 + (1 : Int))) B0)) >>= fun t2 =>
   if (!t2.1.1) = true then
    some ((false, ()), ((t2.2.1.1, ()), (((), ()), ((((), ((), ((), ()))), ()), ()))))
   else
    uk1 (.p244 depth1 s20 s21 (IntKind.wrap .i64 (s22 + (1 : Int))) t2.2.1.1)
  else
   some ((true, ()), ((B0, ()), (((), ()), ((((), ((), ((), ()))), ()), ()))))
 partial_fixpoint
def xm6 : List (Plc E vn6) := [⟨15, [true, true, true], { slots := [1, 3, 4, 5], rows := [], flat := [], keep := 3 }, _, _, (.cons (Rd.int .i64) (.cons (Rd.bp 1 0) (.cons (Rd.bp 2 0) (.cons (Rd.bp 3 0) .nil)))), (.cons (.var 3 (.cons (Rd.int .i64) .nil)) (.cons (.var 182 (.cons (Rd.fn 140 .nil) .nil)) (.cons (.var 200 (.cons (Rd.fn 158 (.cons (Rd.bp 0 0) (.cons (Rd.bp 1 0) (.cons (Rd.bp 2 0) .nil)))) .nil)) (.cons (.var 25 (.cons (Rd.int .i64) (.cons (Rd.int .i64) (.cons Rd.str (.cons (Rd.sl 25 false) .nil))))) .nil)))), fun a b => .p15 a.1 b.1.1 b.2.2.2.1.1 b.2.2.2.1.2.1 b.2.2.2.1.2.2.1 b.2.2.2.1.2.2.2.1⟩,
 ⟨244, [false, false, true, false, true, true, true], { slots := [1, 4, 20, 21, 22], rows := [], flat := [], keep := 3 }, _, _, (.cons (Rd.int .i64) (.cons (Rd.bp 2 0) (.cons (Rd.sl 25 false) (.cons (Rd.int .i64) (.cons (Rd.int .i64) .nil))))), (.cons (.var 3 (.cons (Rd.int .i64) .nil)) (.cons (.var 182 (.cons (Rd.fn 140 .nil) .nil)) (.cons (.var 200 (.cons (Rd.fn 158 (.cons (Rd.bp 0 0) (.cons (Rd.bp 1 0) (.cons (Rd.bp 2 0) .nil)))) .nil)) .nil))), fun a b => .p244 a.1 a.2.2.1 a.2.2.2.1 a.2.2.2.2.1 b.1.1⟩]
theorem wS7 : All (ub8 33 3 uH2 vT8) xm6 := ⟨⟨rfl, rfl, fun _ _ => rfl, fun _ _ => rfl⟩, ⟨⟨rfl, rfl, fun _ _ => rfl, fun _ _ => rfl⟩, trivial⟩⟩
def uK1 : Code := Tryz.f158.body.getD .skip
def xe3 (run' : vn6 → Option vG4) : Con E := ⟨158, ((Int × (Int × (ByteArray × ((List ua0) × Unit)))) × (Int × (Unit × (Unit × (Unit × Unit))))), ((Int × Unit) × ((Unit × Unit) × (((Unit × (Unit × (Unit × Unit))) × Unit) × Unit))), (RwL.cons (Rw.agg (RwL.cons (Rd.int .i64).w (RwL.cons (Rd.int .i64).w (RwL.cons Rd.str.w (RwL.cons (Rw.sl 25) RwL.nil))))) (RwL.cons (Rd.int .i64).w (RwL.cons (Rd.bp 0 0).w (RwL.cons (Rd.bp 1 0).w (RwL.cons (Rd.bp 2 0).w RwL.nil))))), (RdBL.cons (RdB.var 3 (RdL.cons (Rd.int .i64) RdL.nil)) (RdBL.cons (RdB.var 182 (RdL.cons (Rd.fn 140 RdL.nil) RdL.nil)) (RdBL.cons (RdB.var 200 (RdL.cons (Rd.fn 158 (RdL.cons (Rd.bp 0 0) (RdL.cons (Rd.bp 1 0) (RdL.cons (Rd.bp 2 0) RdL.nil)))) RdL.nil)) RdBL.nil))), 3, vG4, fun a b => run' (.start a.1.1 a.1.2.1 a.1.2.2.1 a.1.2.2.2.1 a.2.1 b.1.1), up1.av, up1.bx⟩
theorem wO2 {run' : vn6 → Option vG4} (ih : ∀ pt r, run' pt = some r → Good E Tryz.f158 uK1 3 (up1.av r) (up1.bx r) (uH2 pt) (vT8 pt)) : (xe3 run').Ok := fun a b r h => ub4 (fn := Tryz.f158) (code := uK1) E_ok (by kernel_rfl) (by kernel_rfl) (by kernel_rfl) (Nat.le_of_ble_eq_true rfl) (ih (.start a.1.1 a.1.2.1 a.1.2.2.1 a.1.2.2.2.1 a.2.1 b.1.1) r h)
def ws3 (run' : vn6 → Option vG4) : Spec E.S := (Con.add (xe3 run') (Con.add w44 ub1))
theorem v91 {run' : vn6 → Option vG4} (ih : ∀ pt r, run' pt = some r → Good E Tryz.f158 uK1 3 (up1.av r) (up1.bx r) (uH2 pt) (vT8 pt)) : ub0 E (ws3 run') := (Con.add_ok (wO2 ih) (Con.add_ok wH2 ua7))
theorem xB4 : ∀ pt r, uk1 pt = some r → Good E Tryz.f158 uK1 3 (up1.av r) (up1.bx r) (uH2 pt) (vT8 pt) := by
 refine uk1.partial_correctness (fun pt r => Good E Tryz.f158 uK1 3 (up1.av r) (up1.bx r) (uH2 pt) (vT8 pt)) ?_
 intro run' ih pt r hr
 cases pt <;> exact ua9 (spec := (ws3 run')) (wr := (mkWr [] [])) (l := xm6) (z := 33) (p := up1) E_ok wS7.mem rfl (v91 ih) ih (Eq.trans (by kernel_rfl) hr)
def w45 : Con E := ⟨158, _, _, (.cons (Rw.agg (.cons (Rd.int .i64).w (.cons (Rd.int .i64).w (.cons Rd.str.w (.cons (Rw.sl 25) .nil))))) (.cons (Rd.int .i64).w (.cons (Rd.bp 0 0).w (.cons (Rd.bp 1 0).w (.cons (Rd.bp 2 0).w .nil))))), (.cons (.var 3 (.cons (Rd.int .i64) .nil)) (.cons (.var 182 (.cons (Rd.fn 140 .nil) .nil)) (.cons (.var 200 (.cons (Rd.fn 158 (.cons (Rd.bp 0 0) (.cons (Rd.bp 1 0) (.cons (Rd.bp 2 0) .nil)))) .nil)) .nil))), 3, vG4, fun a b => uk1 (.start a.1.1 a.1.2.1 a.1.2.2.1 a.1.2.2.2.1 a.2.1 b.1.1), up1.av, up1.bx⟩
theorem wH3 : w45.Ok := fun a b r h => ub4 (fn := Tryz.f158) (code := uK1) E_ok (by kernel_rfl) (by kernel_rfl) (by kernel_rfl) (Nat.le_of_ble_eq_true rfl) (xB4 (.start a.1.1 a.1.2.1 a.1.2.2.1 a.1.2.2.2.1 a.2.1 b.1.1) r h)
inductive wC8 where
 | start (root0_0 : Int) (root0_1 : Int) (root0_2 : ByteArray) (root0_3 : (List ua0))
def vM5 : wC8 → List Bool
 | .start .. => []
def xQ6 : wC8 → St E.S
 | .start root0_0 root0_1 root0_2 root0_3 => st0 12 [.agg [.v (.int .i64 root0_0), .v (.int .i64 root0_1), .v (.string root0_2), .sl 25 root0_3 false], .fn 140 []] []
abbrev xV7 : Type := ((Int × Unit) × Unit)
def vg2 : Res E (Int × Unit) Unit := { rows := [], flat := [], keep := 0, done := [0], rl := (.cons (Rd.int .i64) .nil), rb := .nil }
def uJ0 : wC8 → Option xV7
 | .start root0_0 root0_1 root0_2 root0_3 =>
  (uk1 (.start root0_0 root0_1 root0_2 root0_3 (1 : Int) (0 : Int))) >>= fun t1 =>
  (uc7 (.start t1.1.1 (8 : Int))) >>= fun t2 =>
  some ((t2.1.1, ()), ())
def xm7 : List (Plc E wC8) := []
theorem wS8 : All (ub8 12 0 vM5 xQ6) xm7 := trivial
def wk9 : Code := Tryz.f139.body.getD .skip
def ws4 : Spec E.S := (Con.add uU9 (Con.add w45 ub1))
theorem v92 : ub0 E ws4 := (Con.add_ok ur8 (Con.add_ok wH3 ua7))
theorem xB5 : ∀ pt r, uJ0 pt = some r → Good E Tryz.f139 wk9 0 (vg2.av r) (vg2.bx r) (vM5 pt) (xQ6 pt) := by
 intro pt r hr
 cases pt <;> exact ua9 (spec := ws4) (wr := (mkWr [] [])) (l := xm7) (z := 12) (p := vg2) (run' := fun _ => none) E_ok wS8.mem rfl v92 (fun _ _ h => by cases h) (Eq.trans (by kernel_rfl) hr)
def vX8 : Con E := ⟨139, _, _, (.cons (Rw.agg (.cons (Rd.int .i64).w (.cons (Rd.int .i64).w (.cons Rd.str.w (.cons (Rw.sl 25) .nil))))) (.cons (Rd.fn 140 .nil).w .nil)), .nil, 0, xV7, fun a b => uJ0 (.start a.1.1 a.1.2.1 a.1.2.2.1 a.1.2.2.2.1), vg2.av, vg2.bx⟩
theorem vq8 : vX8.Ok := fun a b r h => ub4 (fn := Tryz.f139) (code := wk9) E_ok (by kernel_rfl) (by kernel_rfl) (by kernel_rfl) (Nat.le_of_ble_eq_true rfl) (xB5 (.start a.1.1 a.1.2.1 a.1.2.2.1 a.1.2.2.2.1) r h)
inductive wC9 where
 | start (d0_0 : ByteArray) (d0_1 : (List ByteArray)) (d0_2 : (List ua1)) (s1 : ByteArray)
def vM6 : wC9 → List Bool
 | .start .. => []
def xQ7 : wC9 → St E.S
 | .start d0_0 d0_1 d0_2 s1 => st0 8 [.agg [.v (.string d0_0), .sl 9 d0_1 false, .sl 56 d0_2 false], .el 9 s1 0] []
abbrev xV8 : Type := ((Bool × Unit) × Unit)
def vg3 : Res E (Bool × Unit) Unit := { rows := [], flat := [], keep := 0, done := [0], rl := (.cons Rd.bool .nil), rb := .nil }
def u25 : wC9 → Option xV8
 | .start d0_0 d0_1 d0_2 s1 =>
  some ((seq d0_0 s1, ()), ())
def xm8 : List (Plc E wC9) := []
theorem wS9 : All (ub8 8 0 vM6 xQ7) xm8 := trivial
def wl0 : Code := Tryz.f178.body.getD .skip
def ws5 : Spec E.S := ub1
theorem v93 : ub0 E ws5 := ua7
theorem xB6 : ∀ pt r, u25 pt = some r → Good E Tryz.f178 wl0 0 (vg3.av r) (vg3.bx r) (vM6 pt) (xQ7 pt) := by
 intro pt r hr
 cases pt <;> exact ua9 (spec := ws5) (wr := (mkWr [] [])) (l := xm8) (z := 8) (p := vg3) (run' := fun _ => none) E_ok wS9.mem rfl v93 (fun _ _ h => by cases h) (Eq.trans (by kernel_rfl) hr)
def w46 : Con E := ⟨178, _, _, (.cons (Rw.agg (.cons Rd.str.w (.cons (Rw.sl 9) (.cons (Rw.sl 56) .nil)))) (.cons (Rd.el 9 0).w .nil)), .nil, 0, xV8, fun a b => u25 (.start a.1.1 a.1.2.1 a.1.2.2.1 a.2.1), vg3.av, vg3.bx⟩
theorem wH4 : w46.Ok := fun a b r h => ub4 (fn := Tryz.f178) (code := wl0) E_ok (by kernel_rfl) (by kernel_rfl) (by kernel_rfl) (Nat.le_of_ble_eq_true rfl) (xB6 (.start a.1.1 a.1.2.1 a.1.2.2.1 a.2.1) r h)
inductive wD0 where
 | start (s0 : (List ua2)) (B0 : ByteArray)
 | p52 (s0 : (List ua2)) (s7 : Int) (s8 : Int) (B0 : ByteArray)
def vd0 : wD0 → List Bool
 | .start .. => []
 | .p52 .. => [false, false, true, false, true]
def xj4 : wD0 → St E.S
 | .start s0 B0 => st0 19 [.sl 103 s0 false, .fn 178 [.bp 0 0]] [.var 9 [.v (.string B0)]]
 | .p52 s0 s7 s8 B0 => mkSt 19 [0, 1, 7, 8] [.sl 103 s0 false, .fn 178 [.bp 0 0], .v (.int .i64 s7), .v (.int .i64 s8)] [.var 9 [.v (.string B0)]]
abbrev xV9 : Type := ((Int × Unit) × ((ByteArray × Unit) × Unit))
def uQ5 : Res E (Int × Unit) ((ByteArray × Unit) × Unit) := { rows := [], flat := [], keep := 1, done := [0], rl := (.cons (Rd.int .i64) .nil), rb := (.cons (.var 9 (.cons Rd.str .nil)) .nil) }
def un4 : wD0 → Option xV9
 | .start s0 B0 =>
  un4 (.p52 s0 (List.length s0 : Int) (0 : Int) B0)
 | .p52 s0 s7 s8 B0 =>
  if (decide (s8 < s7)) = true then
   (idx s0 s8) >>= fun t1 =>
   (u25 (.start t1.Name t1.Params t1.Constructors B0)) >>= fun t2 =>
   if t2.1.1 = true then
    some ((s8, ()), ((B0, ()), ()))
   else
    un4 (.p52 s0 s7 (IntKind.wrap .i64 (s8 + (1 : Int))) B0)
  else
   some (((-1 : Int), ()), ((B0, ()), ()))
 partial_fixpoint
def xm9 : List (Plc E wD0) := [⟨52, [false, false, true, false, true], { slots := [0, 1, 7, 8], rows := [], flat := [], keep := 1 }, _, _, (.cons (Rd.sl 103 false) (.cons (Rd.fn 178 (.cons (Rd.bp 0 0) .nil)) (.cons (Rd.int .i64) (.cons (Rd.int .i64) .nil)))), (.cons (.var 9 (.cons Rd.str .nil)) .nil), fun a b => .p52 a.1 a.2.2.1 a.2.2.2.1 b.1.1⟩]
theorem wT0 : All (ub8 19 1 vd0 xj4) xm9 := ⟨⟨rfl, rfl, fun _ _ => rfl, fun _ _ => rfl⟩, trivial⟩
def vx8 : Code := Tryz.f177.body.getD .skip
def ws6 : Spec E.S := (Con.add w46 ub1)
theorem v94 : ub0 E ws6 := (Con.add_ok wH4 ua7)
theorem xB7 : ∀ pt r, un4 pt = some r → Good E Tryz.f177 vx8 1 (uQ5.av r) (uQ5.bx r) (vd0 pt) (xj4 pt) := by
 refine un4.partial_correctness (fun pt r => Good E Tryz.f177 vx8 1 (uQ5.av r) (uQ5.bx r) (vd0 pt) (xj4 pt)) ?_
 intro run' ih pt r hr
 cases pt <;> exact ua9 (spec := ws6) (wr := (mkWr [] [])) (l := xm9) (z := 19) (p := uQ5) E_ok wT0.mem rfl v94 ih (Eq.trans (by kernel_rfl) hr)
def w47 : Con E := ⟨177, _, _, (.cons (Rw.sl 103) (.cons (Rd.fn 178 (.cons (Rd.bp 0 0) .nil)).w .nil)), (.cons (.var 9 (.cons Rd.str .nil)) .nil), 1, xV9, fun a b => un4 (.start a.1 b.1.1), uQ5.av, uQ5.bx⟩
theorem wH5 : w47.Ok := fun a b r h => ub4 (fn := Tryz.f177) (code := vx8) E_ok (by kernel_rfl) (by kernel_rfl) (by kernel_rfl) (Nat.le_of_ble_eq_true rfl) (xB7 (.start a.1 b.1.1) r h)
inductive wD1 where
 | start (s0_0 : (List ua2)) (s0_1 : (List ByteArray)) (name1 : ByteArray)
def vM7 : wD1 → List Bool
 | .start .. => []
def xQ8 : wD1 → St E.S
 | .start s0_0 s0_1 name1 => st0 19 [.agg [.sl 103 s0_0 false, .sl 9 s0_1 false], .v (.string name1)] []
abbrev xW0 : Type := (((ByteArray × ((List ByteArray) × ((List ua1) × Unit))) × (Bool × Unit)) × Unit)
def vg4 : Res E ((ByteArray × ((List ByteArray) × ((List ua1) × Unit))) × (Bool × Unit)) Unit := { rows := [], flat := [], keep := 0, deep := [(false, 0, 1, 9), (false, 0, 2, 56)], done := [0, 1], rl := (.cons (Rd.agg (.cons Rd.str (.cons (Rd.sl 9 false) (.cons (Rd.sl 56 false) .nil)))) (.cons Rd.bool .nil)), rb := .nil }
def uJ1 : wD1 → Option xW0
 | .start s0_0 s0_1 name1 =>
  (un4 (.start s0_0 name1)) >>= fun t1 =>
  if (decide (t1.1.1 < (0 : Int))) = true then
   some ((((⟨#[]⟩ : ByteArray), ([], ([], ()))), (false, ())), ())
  else
   (idx s0_0 t1.1.1) >>= fun t2 =>
   some (((t2.Name, (t2.Params, (t2.Constructors, ()))), (true, ())), ())
def xn0 : List (Plc E wD1) := []
theorem wT1 : All (ub8 19 0 vM7 xQ8) xn0 := trivial
def wl1 : Code := Tryz.f159.body.getD .skip
def ws7 : Spec E.S := (Con.add w47 ub1)
theorem v95 : ub0 E ws7 := (Con.add_ok wH5 ua7)
theorem xB8 : ∀ pt r, uJ1 pt = some r → Good E Tryz.f159 wl1 0 (vg4.av r) (vg4.bx r) (vM7 pt) (xQ8 pt) := by
 intro pt r hr
 cases pt <;> exact ua9 (spec := ws7) (wr := (mkWr [] [])) (l := xn0) (z := 19) (p := vg4) (run' := fun _ => none) E_ok wT1.mem rfl v95 (fun _ _ h => by cases h) (Eq.trans (by kernel_rfl) hr)
def vX9 : Con E := ⟨159, _, _, (.cons (Rw.agg (.cons (Rw.sl 103) (.cons (Rw.sl 9) .nil))) (.cons Rd.str.w .nil)), .nil, 0, xW0, fun a b => uJ1 (.start a.1.1 a.1.2.1 a.2.1), vg4.av, vg4.bx⟩
theorem vq9 : vX9.Ok := fun a b r h => ub4 (fn := Tryz.f159) (code := wl1) E_ok (by kernel_rfl) (by kernel_rfl) (by kernel_rfl) (Nat.le_of_ble_eq_true rfl) (xB8 (.start a.1.1 a.1.2.1 a.2.1) r h)
inductive u82 where
 | start (s0 : Int) (x1_0 : Int) (x1_1 : Int) (x1_2 : ByteArray) (x1_3 : (List ua0)) (s2 : uo6)
def uA1 : u82 → List Bool
 | .start .. => []
def vv9 : u82 → St E.S
 | .start s0 x1_0 x1_1 x1_2 x1_3 s2 => st0 9 [.v (.int .i64 s0), .agg [.v (.int .i64 x1_0), .v (.int .i64 x1_1), .v (.string x1_2), .sl 25 x1_3 false], .el 107 s2 0] []
abbrev vG5 : Type := ((Int × Unit) × Unit)
def ul7 : Res E (Int × Unit) Unit := { rows := [], flat := [], keep := 0, done := [0], rl := (.cons (Rd.int .i64) .nil), rb := .nil }
inductive uY6 where
 | start (s0_0 : (List ua2)) (s0_1 : (List ByteArray)) (t1_0 : Int) (t1_1 : Int) (t1_2 : ByteArray) (t1_3 : (List ua0))
 | p15 (count5 : Int) (C0 : (List ua2)) (C1 : (List ByteArray)) (D0 : Int) (D1 : Int) (D2 : ByteArray) (D3 : (List ua0))
 | p63 (C0 : (List ua2)) (C1 : (List ByteArray)) (D0 : Int) (D1 : Int) (D2 : ByteArray) (D3 : (List ua0))
def uv2 : uY6 → List Bool
 | .start .. => []
 | .p15 .. => [true, true, true]
 | .p63 .. => [true, true, true, true, true]
def vl9 : uY6 → St E.S
 | .start s0_0 s0_1 t1_0 t1_1 t1_2 t1_3 => st0 66 [.agg [.sl 103 s0_0 false, .sl 9 s0_1 false], .agg [.v (.int .i64 t1_0), .v (.int .i64 t1_1), .v (.string t1_2), .sl 25 t1_3 false]] []
 | .p15 count5 C0 C1 D0 D1 D2 D3 => mkSt 66 [2, 3, 5] [.bp 0 0, .bp 1 0, .v (.int .i64 count5)] [.var 107 [.sl 103 C0 false, .sl 9 C1 false], .var 25 [.v (.int .i64 D0), .v (.int .i64 D1), .v (.string D2), .sl 25 D3 false]]
 | .p63 C0 C1 D0 D1 D2 D3 => mkSt 66 [2, 3] [.bp 0 0, .bp 1 0] [.var 107 [.sl 103 C0 false, .sl 9 C1 false], .var 25 [.v (.int .i64 D0), .v (.int .i64 D1), .v (.string D2), .sl 25 D3 false]]
abbrev vo6 : Type := ((Int × Unit) × Unit)
def uj1 : Res E (Int × Unit) Unit := { rows := [], flat := [], keep := 0, done := [0], rl := (.cons (Rd.int .i64) .nil), rb := .nil }
inductive uY7 where
 | start (l0 : (List ua0)) (C0 : (List ua2)) (C1 : (List ByteArray))
 | p52 (s9 : (List ua0)) (s10 : Int) (s11 : Int) (C0 : (List ua2)) (C1 : (List ByteArray))
def uv3 : uY7 → List Bool
 | .start .. => []
 | .p52 .. => [false, false, true, false, true]
def vm0 : uY7 → St E.S
 | .start l0 C0 C1 => st0 25 [.sl 25 l0 false, .fn 161 [.bp 0 0]] [.var 107 [.sl 103 C0 false, .sl 9 C1 false]]
 | .p52 s9 s10 s11 C0 C1 => mkSt 25 [1, 9, 10, 11] [.fn 161 [.bp 0 0], .sl 25 s9 false, .v (.int .i64 s10), .v (.int .i64 s11)] [.var 107 [.sl 103 C0 false, .sl 9 C1 false]]
abbrev vo7 : Type := ((Int × (Int × Unit)) × (((List ua2) × ((List ByteArray) × Unit)) × Unit))
def uj2 : Res E (Int × (Int × Unit)) (((List ua2) × ((List ByteArray) × Unit)) × Unit) := { rows := [], flat := [], keep := 1, done := [0, 1], rl := (.cons (Rd.int .i64) (.cons (Rd.int .i64) .nil)), rb := (.cons (.var 107 (.cons (Rd.sl 103 false) (.cons (Rd.sl 9 false) .nil))) .nil) }
mutual
def uE3 : u82 → Option vG5
 | .start s0 x1_0 x1_1 x1_2 x1_3 s2 =>
  (run_z21 (.start s2.list s2.params x1_0 x1_1 x1_2 x1_3)) >>= fun t1 =>
  some ((t1.1.1, ()), ())
 partial_fixpoint
def run_z21 : uY6 → Option vo6
 | .start s0_0 s0_1 t1_0 t1_1 t1_2 t1_3 =>
  if (t1_0 == (0 : Int)) = true then
   (u49 (.start s0_1 t1_2)) >>= fun t1 =>
   if (!t1.1.1) = true then
    some (((6 : Int), ()), ())
   else
    run_z21 (.p15 (0 : Int) s0_0 s0_1 t1_0 t1_1 t1_2 t1_3)
  else
   if (t1_0 == (1 : Int)) = true then
    (uJ1 (.start s0_0 s0_1 t1_2)) >>= fun t2 =>
    if t2.1.2.1 = true then
     run_z21 (.p15 (List.length t2.1.1.2.1 : Int) s0_0 s0_1 t1_0 t1_1 t1_2 t1_3)
    else
     if (seq t1_2 (⟨#[66, 105, 116]⟩ : ByteArray)) = true then
      run_z21 (.p15 (1 : Int) s0_0 s0_1 t1_0 t1_1 t1_2 t1_3)
     else
      if (!(seq t1_2 (⟨#[66, 111, 111, 108]⟩ : ByteArray))) = true then
       some (((6 : Int), ()), ())
      else
       run_z21 (.p15 (0 : Int) s0_0 s0_1 t1_0 t1_1 t1_2 t1_3)
   else
    if (t1_0 == (2 : Int)) = true then
     run_z21 (.p15 (0 : Int) s0_0 s0_1 t1_0 t1_1 t1_2 t1_3)
    else
     some (((15 : Int), ()), ())
 | .p15 count5 C0 C1 D0 D1 D2 D3 =>
  if ((List.length D3 : Int) != count5) = true then
   some (((10 : Int), ()), ())
  else
   if (D0 == (2 : Int)) = true then
    (uk8 (.start D1 (0 : Int) (1000000000 : Int))) >>= fun t1 =>
    if (!t1.1.1) = true then
     some (((2 : Int), ()), ())
    else
     run_z21 (.p63 C0 C1 D0 D1 D2 D3)
   else
    run_z21 (.p63 C0 C1 D0 D1 D2 D3)
 | .p63 C0 C1 D0 D1 D2 D3 =>
  (run_z22 (.start D3 C0 C1)) >>= fun t1 =>
  some ((t1.1.2.1, ()), ())
 partial_fixpoint
def run_z22 : uY7 → Option vo7
 | .start l0 C0 C1 =>
  run_z22 (.p52 l0 (List.length l0 : Int) (0 : Int) C0 C1)
 | .p52 s9 s10 s11 C0 C1 =>
  if (decide (s11 < s10)) = true then
   (idx s9 s11) >>= fun t1 =>
   (uE3 (.start s11 t1.Kind t1.Value t1.Name t1.Parts (⟨C0, C1⟩ : uo6))) >>= fun t2 =>
   if (t2.1.1 != (0 : Int)) = true then
    some ((s11, (t2.1.1, ())), ((C0, (C1, ())), ()))
   else
    run_z22 (.p52 s9 s10 (IntKind.wrap .i64 (s11 + (1 : Int))) C0 C1)
  else
   some (((0 : Int), ((0 : Int), ())), ((C0, (C1, ())), ()))
 partial_fixpoint
end
def xn2 : List (Plc E u82) := []
theorem wT2 : All (ub8 9 0 uA1 vv9) xn2 := trivial
def uB4 : Code := Tryz.f161.body.getD .skip
def xe4 (run' : u82 → Option vG5) : Con E := ⟨161, (Int × ((Int × (Int × (ByteArray × ((List ua0) × Unit)))) × (uo6 × Unit))), Unit, (RwL.cons (Rd.int .i64).w (RwL.cons (Rw.agg (RwL.cons (Rd.int .i64).w (RwL.cons (Rd.int .i64).w (RwL.cons Rd.str.w (RwL.cons (Rw.sl 25) RwL.nil))))) (RwL.cons (Rd.el 107 0).w RwL.nil))), RdBL.nil, 0, vG5, fun a b => run' (.start a.1 a.2.1.1 a.2.1.2.1 a.2.1.2.2.1 a.2.1.2.2.2.1 a.2.2.1), ul7.av, ul7.bx⟩
theorem wO3 {run' : u82 → Option vG5} (ih : ∀ pt r, run' pt = some r → Good E Tryz.f161 uB4 0 (ul7.av r) (ul7.bx r) (uA1 pt) (vv9 pt)) : (xe4 run').Ok := fun a b r h => ub4 (fn := Tryz.f161) (code := uB4) E_ok (by kernel_rfl) (by kernel_rfl) (by kernel_rfl) (Nat.le_of_ble_eq_true rfl) (ih (.start a.1 a.2.1.1 a.2.1.2.1 a.2.1.2.2.1 a.2.1.2.2.2.1 a.2.2.1) r h)
def xn3 : List (Plc E uY6) := [⟨15, [true, true, true], { slots := [2, 3, 5], rows := [], flat := [], keep := 0 }, _, _, (.cons (Rd.bp 0 0) (.cons (Rd.bp 1 0) (.cons (Rd.int .i64) .nil))), (.cons (.var 107 (.cons (Rd.sl 103 false) (.cons (Rd.sl 9 false) .nil))) (.cons (.var 25 (.cons (Rd.int .i64) (.cons (Rd.int .i64) (.cons Rd.str (.cons (Rd.sl 25 false) .nil))))) .nil)), fun a b => .p15 a.2.2.1 b.1.1 b.1.2.1 b.2.1.1 b.2.1.2.1 b.2.1.2.2.1 b.2.1.2.2.2.1⟩,
 ⟨63, [true, true, true, true, true], { slots := [2, 3], rows := [], flat := [], keep := 0 }, _, _, (.cons (Rd.bp 0 0) (.cons (Rd.bp 1 0) .nil)), (.cons (.var 107 (.cons (Rd.sl 103 false) (.cons (Rd.sl 9 false) .nil))) (.cons (.var 25 (.cons (Rd.int .i64) (.cons (Rd.int .i64) (.cons Rd.str (.cons (Rd.sl 25 false) .nil))))) .nil)), fun a b => .p63 b.1.1 b.1.2.1 b.2.1.1 b.2.1.2.1 b.2.1.2.2.1 b.2.1.2.2.2.1⟩]
theorem wT3 : All (ub8 66 0 uv2 vl9) xn3 := ⟨⟨rfl, rfl, fun _ _ => rfl, fun _ _ => rfl⟩, ⟨⟨rfl, rfl, fun _ _ => rfl, fun _ _ => rfl⟩, trivial⟩⟩
def ux2 : Code := Tryz.f141.body.getD .skip
def v12 (run' : uY6 → Option vo6) : Con E := ⟨141, (((List ua2) × ((List ByteArray) × Unit)) × ((Int × (Int × (ByteArray × ((List ua0) × Unit)))) × Unit)), Unit, (RwL.cons (Rw.agg (RwL.cons (Rw.sl 103) (RwL.cons (Rw.sl 9) RwL.nil))) (RwL.cons (Rw.agg (RwL.cons (Rd.int .i64).w (RwL.cons (Rd.int .i64).w (RwL.cons Rd.str.w (RwL.cons (Rw.sl 25) RwL.nil))))) RwL.nil)), RdBL.nil, 0, vo6, fun a b => run' (.start a.1.1 a.1.2.1 a.2.1.1 a.2.1.2.1 a.2.1.2.2.1 a.2.1.2.2.2.1), uj1.av, uj1.bx⟩
theorem vu0 {run' : uY6 → Option vo6} (ih : ∀ pt r, run' pt = some r → Good E Tryz.f141 ux2 0 (uj1.av r) (uj1.bx r) (uv2 pt) (vl9 pt)) : (v12 run').Ok := fun a b r h => ub4 (fn := Tryz.f141) (code := ux2) E_ok (by kernel_rfl) (by kernel_rfl) (by kernel_rfl) (Nat.le_of_ble_eq_true rfl) (ih (.start a.1.1 a.1.2.1 a.2.1.1 a.2.1.2.1 a.2.1.2.2.1 a.2.1.2.2.2.1) r h)
def xn4 : List (Plc E uY7) := [⟨52, [false, false, true, false, true], { slots := [1, 9, 10, 11], rows := [], flat := [], keep := 1 }, _, _, (.cons (Rd.fn 161 (.cons (Rd.bp 0 0) .nil)) (.cons (Rd.sl 25 false) (.cons (Rd.int .i64) (.cons (Rd.int .i64) .nil)))), (.cons (.var 107 (.cons (Rd.sl 103 false) (.cons (Rd.sl 9 false) .nil))) .nil), fun a b => .p52 a.2.1 a.2.2.1 a.2.2.2.1 b.1.1 b.1.2.1⟩]
theorem wT4 : All (ub8 25 1 uv3 vm0) xn4 := ⟨⟨rfl, rfl, fun _ _ => rfl, fun _ _ => rfl⟩, trivial⟩
def ux3 : Code := Tryz.f160.body.getD .skip
def v13 (run' : uY7 → Option vo7) : Con E := ⟨160, ((List ua0) × ((Unit × Unit) × Unit)), (((List ua2) × ((List ByteArray) × Unit)) × Unit), (RwL.cons (Rw.sl 25) (RwL.cons (Rd.fn 161 (RdL.cons (Rd.bp 0 0) RdL.nil)).w RwL.nil)), (RdBL.cons (RdB.var 107 (RdL.cons (Rd.sl 103 false) (RdL.cons (Rd.sl 9 false) RdL.nil))) RdBL.nil), 1, vo7, fun a b => run' (.start a.1 b.1.1 b.1.2.1), uj2.av, uj2.bx⟩
theorem vu1 {run' : uY7 → Option vo7} (ih : ∀ pt r, run' pt = some r → Good E Tryz.f160 ux3 1 (uj2.av r) (uj2.bx r) (uv3 pt) (vm0 pt)) : (v13 run').Ok := fun a b r h => ub4 (fn := Tryz.f160) (code := ux3) E_ok (by kernel_rfl) (by kernel_rfl) (by kernel_rfl) (Nat.le_of_ble_eq_true rfl) (ih (.start a.1 b.1.1 b.1.2.1) r h)
def ws8 (r_z21 : uY6 → Option vo6) : Spec E.S := (Con.add (v12 r_z21) ub1)
theorem v96 {r_z21 : uY6 → Option vo6} (h_z21 : ∀ pt r, r_z21 pt = some r → Good E Tryz.f141 ux2 0 (uj1.av r) (uj1.bx r) (uv2 pt) (vl9 pt)) : ub0 E (ws8 r_z21) := (Con.add_ok (vu0 h_z21) ua7)
def ws9 (r_z21 : uY6 → Option vo6) (r_z22 : uY7 → Option vo7) : Spec E.S := (Con.add (v13 r_z22) (Con.add (v12 r_z21) (Con.add uU8 (Con.add vX9 (Con.add w98 ub1)))))
theorem v97 {r_z21 : uY6 → Option vo6} (h_z21 : ∀ pt r, r_z21 pt = some r → Good E Tryz.f141 ux2 0 (uj1.av r) (uj1.bx r) (uv2 pt) (vl9 pt)) {r_z22 : uY7 → Option vo7} (h_z22 : ∀ pt r, r_z22 pt = some r → Good E Tryz.f160 ux3 1 (uj2.av r) (uj2.bx r) (uv3 pt) (vm0 pt)) : ub0 E (ws9 r_z21 r_z22) := (Con.add_ok (vu1 h_z22) (Con.add_ok (vu0 h_z21) (Con.add_ok ur7 (Con.add_ok vq9 (Con.add_ok vJ8 ua7)))))
def wt0 (r_z20 : u82 → Option vG5) (r_z22 : uY7 → Option vo7) : Spec E.S := (Con.add (v13 r_z22) (Con.add (xe4 r_z20) ub1))
theorem v98 {r_z20 : u82 → Option vG5} (h_z20 : ∀ pt r, r_z20 pt = some r → Good E Tryz.f161 uB4 0 (ul7.av r) (ul7.bx r) (uA1 pt) (vv9 pt)) {r_z22 : uY7 → Option vo7} (h_z22 : ∀ pt r, r_z22 pt = some r → Good E Tryz.f160 ux3 1 (uj2.av r) (uj2.bx r) (uv3 pt) (vm0 pt)) : ub0 E (wt0 r_z20 r_z22) := (Con.add_ok (vu1 h_z22) (Con.add_ok (wO3 h_z20) ua7))
theorem vb1 : (∀ pt r, uE3 pt = some r → Good E Tryz.f161 uB4 0 (ul7.av r) (ul7.bx r) (uA1 pt) (vv9 pt)) ∧ (∀ pt r, run_z21 pt = some r → Good E Tryz.f141 ux2 0 (uj1.av r) (uj1.bx r) (uv2 pt) (vl9 pt)) ∧ (∀ pt r, run_z22 pt = some r → Good E Tryz.f160 ux3 1 (uj2.av r) (uj2.bx r) (uv3 pt) (vm0 pt)) := by
  refine uE3.mutual_partial_correctness (fun pt r => Good E Tryz.f161 uB4 0 (ul7.av r) (ul7.bx r) (uA1 pt) (vv9 pt)) (fun pt r => Good E Tryz.f141 ux2 0 (uj1.av r) (uj1.bx r) (uv2 pt) (vl9 pt)) (fun pt r => Good E Tryz.f160 ux3 1 (uj2.av r) (uj2.bx r) (uv3 pt) (vm0 pt)) ?_ ?_ ?_
  · intro r_z21 h_z21 pt r hr
    cases pt <;> exact ua9 (spec := (ws8 r_z21)) (wr := (mkWr [] [])) (l := xn2) (z := 9) (p := ul7) (run' := fun _ => none) E_ok wT2.mem rfl (v96 h_z21) (fun _ _ h => by cases h) (Eq.trans (by kernel_rfl) hr)
  · intro r_z21 r_z22 h_z21 h_z22 pt r hr
    cases pt <;> exact ua9 (spec := (ws9 r_z21 r_z22)) (wr := (mkWr [] [])) (l := xn3) (z := 66) (p := uj1) E_ok wT3.mem rfl (v97 h_z21 h_z22) h_z21 (Eq.trans (by kernel_rfl) hr)
  · intro r_z20 r_z22 h_z20 h_z22 pt r hr
    cases pt <;> exact ua9 (spec := (wt0 r_z20 r_z22)) (wr := (mkWr [] [])) (l := xn4) (z := 25) (p := uj2) E_ok wT4.mem rfl (v98 h_z20 h_z22) h_z22 (Eq.trans (by kernel_rfl) hr)
theorem xB9 : ∀ pt r, uE3 pt = some r → Good E Tryz.f161 uB4 0 (ul7.av r) (ul7.bx r) (uA1 pt) (vv9 pt) := vb1.1
theorem xC0 : ∀ pt r, run_z21 pt = some r → Good E Tryz.f141 ux2 0 (uj1.av r) (uj1.bx r) (uv2 pt) (vl9 pt) := vb1.2.1
theorem xC1 : ∀ pt r, run_z22 pt = some r → Good E Tryz.f160 ux3 1 (uj2.av r) (uj2.bx r) (uv3 pt) (vm0 pt) := vb1.2.2
def xZ6 : Con E := ⟨161, _, _, (.cons (Rd.int .i64).w (.cons (Rw.agg (.cons (Rd.int .i64).w (.cons (Rd.int .i64).w (.cons Rd.str.w (.cons (Rw.sl 25) .nil))))) (.cons (Rd.el 107 0).w .nil))), .nil, 0, vG5, fun a b => uE3 (.start a.1 a.2.1.1 a.2.1.2.1 a.2.1.2.2.1 a.2.1.2.2.2.1 a.2.2.1), ul7.av, ul7.bx⟩
theorem x66 : xZ6.Ok := fun a b r h => ub4 (fn := Tryz.f161) (code := uB4) E_ok (by kernel_rfl) (by kernel_rfl) (by kernel_rfl) (Nat.le_of_ble_eq_true rfl) (xB9 (.start a.1 a.2.1.1 a.2.1.2.1 a.2.1.2.2.1 a.2.1.2.2.2.1 a.2.2.1) r h)
def w50 : Con E := ⟨141, _, _, (.cons (Rw.agg (.cons (Rw.sl 103) (.cons (Rw.sl 9) .nil))) (.cons (Rw.agg (.cons (Rd.int .i64).w (.cons (Rd.int .i64).w (.cons Rd.str.w (.cons (Rw.sl 25) .nil))))) .nil)), .nil, 0, vo6, fun a b => run_z21 (.start a.1.1 a.1.2.1 a.2.1.1 a.2.1.2.1 a.2.1.2.2.1 a.2.1.2.2.2.1), uj1.av, uj1.bx⟩
theorem wH6 : w50.Ok := fun a b r h => ub4 (fn := Tryz.f141) (code := ux2) E_ok (by kernel_rfl) (by kernel_rfl) (by kernel_rfl) (Nat.le_of_ble_eq_true rfl) (xC0 (.start a.1.1 a.1.2.1 a.2.1.1 a.2.1.2.1 a.2.1.2.2.1 a.2.1.2.2.2.1) r h)
def xZ7 : Con E := ⟨160, _, _, (.cons (Rw.sl 25) (.cons (Rd.fn 161 (.cons (Rd.bp 0 0) .nil)).w .nil)), (.cons (.var 107 (.cons (Rd.sl 103 false) (.cons (Rd.sl 9 false) .nil))) .nil), 1, vo7, fun a b => run_z22 (.start a.1 b.1.1 b.1.2.1), uj2.av, uj2.bx⟩
theorem x67 : xZ7.Ok := fun a b r h => ub4 (fn := Tryz.f160) (code := ux3) E_ok (by kernel_rfl) (by kernel_rfl) (by kernel_rfl) (Nat.le_of_ble_eq_true rfl) (xC1 (.start a.1 b.1.1 b.1.2.1) r h)
inductive wD2 where
 | start (s0_0 : (List ua2)) (s0_1 : (List ByteArray)) (t1_0 : Int) (t1_1 : Int) (t1_2 : ByteArray) (t1_3 : (List ua0))
def vM8 : wD2 → List Bool
 | .start .. => []
def xQ9 : wD2 → St E.S
 | .start s0_0 s0_1 t1_0 t1_1 t1_2 t1_3 => st0 14 [.agg [.sl 103 s0_0 false, .sl 9 s0_1 false], .agg [.v (.int .i64 t1_0), .v (.int .i64 t1_1), .v (.string t1_2), .sl 25 t1_3 false]] []
abbrev xW1 : Type := ((Int × Unit) × Unit)
def vg5 : Res E (Int × Unit) Unit := { rows := [], flat := [], keep := 0, done := [0], rl := (.cons (Rd.int .i64) .nil), rb := .nil }
def uJ2 : wD2 → Option xW1
 | .start s0_0 s0_1 t1_0 t1_1 t1_2 t1_3 =>
  (uJ0 (.start t1_0 t1_1 t1_2 t1_3)) >>= fun t1 =>
  if (t1.1.1 != (0 : Int)) = true then
   some ((t1.1.1, ()), ())
  else
   (run_z21 (.start s0_0 s0_1 t1_0 t1_1 t1_2 t1_3)) >>= fun t2 =>
   some ((t2.1.1, ()), ())
def xn5 : List (Plc E wD2) := []
theorem wT5 : All (ub8 14 0 vM8 xQ9) xn5 := trivial
def wl2 : Code := Tryz.f105.body.getD .skip
def wt1 : Spec E.S := (Con.add w50 (Con.add vX8 ub1))
theorem v99 : ub0 E wt1 := (Con.add_ok wH6 (Con.add_ok vq8 ua7))
theorem xC2 : ∀ pt r, uJ2 pt = some r → Good E Tryz.f105 wl2 0 (vg5.av r) (vg5.bx r) (vM8 pt) (xQ9 pt) := by
 intro pt r hr
 cases pt <;> exact ua9 (spec := wt1) (wr := (mkWr [] [])) (l := xn5) (z := 14) (p := vg5) (run' := fun _ => none) E_ok wT5.mem rfl v99 (fun _ _ h => by cases h) (Eq.trans (by kernel_rfl) hr)
def vY0 : Con E := ⟨105, _, _, (.cons (Rw.agg (.cons (Rw.sl 103) (.cons (Rw.sl 9) .nil))) (.cons (Rw.agg (.cons (Rd.int .i64).w (.cons (Rd.int .i64).w (.cons Rd.str.w (.cons (Rw.sl 25) .nil))))) .nil)), .nil, 0, xW1, fun a b => uJ2 (.start a.1.1 a.1.2.1 a.2.1.1 a.2.1.2.1 a.2.1.2.2.1 a.2.1.2.2.2.1), vg5.av, vg5.bx⟩
theorem vr0 : vY0.Ok := fun a b r h => ub4 (fn := Tryz.f105) (code := wl2) E_ok (by kernel_rfl) (by kernel_rfl) (by kernel_rfl) (Nat.le_of_ble_eq_true rfl) (xC2 (.start a.1.1 a.1.2.1 a.2.1.1 a.2.1.2.1 a.2.1.2.2.1 a.2.1.2.2.2.1) r h)
inductive wD3 where
 | start (s0 : Int) (f1_0 : ByteArray) (f1_1 : Int) (f1_2 : Int) (f1_3 : ByteArray) (f1_4 : (List ua0)) (D0 : (List ua2)) (D1 : (List ByteArray)) (B2 : (List ByteArray))
def vM9 : wD3 → List Bool
 | .start .. => []
def xR0 : wD3 → St E.S
 | .start s0 f1_0 f1_1 f1_2 f1_3 f1_4 D0 D1 B2 => st0 24 [.v (.int .i64 s0), .agg [.v (.string f1_0), .v (.int .i64 f1_1), .v (.int .i64 f1_2), .v (.string f1_3), .sl 25 f1_4 false], .bp 0 0, .bp 1 0] [.var 101 [.rw 2], .var 107 [.sl 103 D0 false, .sl 9 D1 false], .row 9 B2 false]
abbrev xW2 : Type := ((Int × Unit) × ((Unit × Unit) × (((List ua2) × ((List ByteArray) × Unit)) × ((List ByteArray) × Unit))))
def vg6 : Res E (Int × Unit) ((Unit × Unit) × (((List ua2) × ((List ByteArray) × Unit)) × ((List ByteArray) × Unit))) := { rows := [], flat := [], keep := 2, done := [0], rl := (.cons (Rd.int .i64) .nil), rb := (.cons (.var 101 (.cons (Rd.rw 2) .nil)) (.cons (.var 107 (.cons (Rd.sl 103 false) (.cons (Rd.sl 9 false) .nil))) (.cons (.row 9 false) .nil))) }
def u26 : wD3 → Option xW2
 | .start s0 f1_0 f1_1 f1_2 f1_3 f1_4 D0 D1 B2 =>
  (uz2 (.start f1_0 B2)) >>= fun t1 =>
  if (t1.1.1 != (0 : Int)) = true then
   some ((t1.1.1, ()), (((), ()), ((D0, (D1, ())), (B2, ()))))
  else
   if (fits (List.length B2) (List.length ([f1_0] : List ByteArray)) 16) = true then
    (uJ2 (.start D0 D1 f1_1 f1_2 f1_3 f1_4)) >>= fun t2 =>
    some ((t2.1.1, ()), (((), ()), ((D0, (D1, ())), (B2 ++ ([f1_0] : List ByteArray), ()))))
   else none
def xn6 : List (Plc E wD3) := []
theorem wT6 : All (ub8 24 2 vM9 xR0) xn6 := trivial
def wl3 : Code := Tryz.f117.body.getD .skip
def wt2 : Spec E.S := (Con.add vY0 (Con.add va2 ub1))
theorem wa0 : ub0 E wt2 := (Con.add_ok vr0 (Con.add_ok uL5 ua7))
theorem xC3 : ∀ pt r, u26 pt = some r → Good E Tryz.f117 wl3 2 (vg6.av r) (vg6.bx r) (vM9 pt) (xR0 pt) := by
 intro pt r hr
 cases pt <;> exact ua9 (spec := wt2) (wr := (mkWr [] [])) (l := xn6) (z := 24) (p := vg6) (run' := fun _ => none) E_ok wT6.mem rfl wa0 (fun _ _ h => by cases h) (Eq.trans (by kernel_rfl) hr)
def w51 : Con E := ⟨117, _, _, (.cons (Rd.int .i64).w (.cons (Rw.agg (.cons Rd.str.w (.cons (Rd.int .i64).w (.cons (Rd.int .i64).w (.cons Rd.str.w (.cons (Rw.sl 25) .nil)))))) (.cons (Rd.bp 0 0).w (.cons (Rd.bp 1 0).w .nil)))), (.cons (.var 101 (.cons (Rd.rw 2) .nil)) (.cons (.var 107 (.cons (Rd.sl 103 false) (.cons (Rd.sl 9 false) .nil))) (.cons (.row 9 false) .nil))), 2, xW2, fun a b => u26 (.start a.1 a.2.1.1 a.2.1.2.1 a.2.1.2.2.1 a.2.1.2.2.2.1 a.2.1.2.2.2.2.1 b.2.1.1 b.2.1.2.1 b.2.2.1), vg6.av, vg6.bx⟩
theorem wH7 : w51.Ok := fun a b r h => ub4 (fn := Tryz.f117) (code := wl3) E_ok (by kernel_rfl) (by kernel_rfl) (by kernel_rfl) (Nat.le_of_ble_eq_true rfl) (xC3 (.start a.1 a.2.1.1 a.2.1.2.1 a.2.1.2.2.1 a.2.1.2.2.2.1 a.2.1.2.2.2.2.1 b.2.1.1 b.2.1.2.1 b.2.2.1) r h)
inductive wD4 where
 | start (l0 : (List ua6)) (D0 : (List ua2)) (D1 : (List ByteArray))
 | p52 (s9 : (List ua6)) (s10 : Int) (s11 : Int) (D0 : (List ua2)) (D1 : (List ByteArray)) (B2 : (List ByteArray))
def vd1 : wD4 → List Bool
 | .start .. => []
 | .p52 .. => [false, false, true, false, true]
def xj5 : wD4 → St E.S
 | .start l0 D0 D1 => st0 25 [.sl 58 l0 false, .fn 117 [.bp 0 0, .bp 1 0]] [.var 101 [.nl], .var 107 [.sl 103 D0 false, .sl 9 D1 false]]
 | .p52 s9 s10 s11 D0 D1 B2 => mkSt 25 [1, 9, 10, 11] [.fn 117 [.bp 0 0, .bp 1 0], .sl 58 s9 false, .v (.int .i64 s10), .v (.int .i64 s11)] [.var 101 [.rw 2], .var 107 [.sl 103 D0 false, .sl 9 D1 false], .row 9 B2 false]
abbrev xW3 : Type := ((Int × (Int × Unit)) × ((Unit × Unit) × (((List ua2) × ((List ByteArray) × Unit)) × ((List ByteArray) × Unit))))
def uQ6 : Res E (Int × (Int × Unit)) ((Unit × Unit) × (((List ua2) × ((List ByteArray) × Unit)) × ((List ByteArray) × Unit))) := { rows := [], flat := [], keep := 2, done := [0, 1, 100000], rl := (.cons (Rd.int .i64) (.cons (Rd.int .i64) .nil)), rb := (.cons (.var 101 (.cons (Rd.rw 2) .nil)) (.cons (.var 107 (.cons (Rd.sl 103 false) (.cons (Rd.sl 9 false) .nil))) (.cons (.row 9 true) .nil))) }
def un5 : wD4 → Option xW3
 | .start l0 D0 D1 =>
  un5 (.p52 l0 (List.length l0 : Int) (0 : Int) D0 D1 ([] : List ByteArray))
 | .p52 s9 s10 s11 D0 D1 B2 =>
  if (decide (s11 < s10)) = true then
   (idx s9 s11) >>= fun t1 =>
   (u26 (.start s11 t1.Name t1.Type_.Kind t1.Type_.Value t1.Type_.Name t1.Type_.Parts D0 D1 B2)) >>= fun t2 =>
   if (t2.1.1 != (0 : Int)) = true then
    some ((s11, (t2.1.1, ())), (((), ()), ((t2.2.2.1.1, (t2.2.2.1.2.1, ())), (t2.2.2.2.1, ()))))
   else
    un5 (.p52 s9 s10 (IntKind.wrap .i64 (s11 + (1 : Int))) t2.2.2.1.1 t2.2.2.1.2.1 t2.2.2.2.1)
  else
   some (((0 : Int), ((0 : Int), ())), (((), ()), ((D0, (D1, ())), (B2, ()))))
 partial_fixpoint
def xn7 : List (Plc E wD4) := [⟨52, [false, false, true, false, true], { slots := [1, 9, 10, 11], rows := [], flat := [], keep := 2, up := [(true, 100000, 0, 9)] }, _, _, (.cons (Rd.fn 117 (.cons (Rd.bp 0 0) (.cons (Rd.bp 1 0) .nil))) (.cons (Rd.sl 58 false) (.cons (Rd.int .i64) (.cons (Rd.int .i64) .nil)))), (.cons (.var 101 (.cons (Rd.rw 2) .nil)) (.cons (.var 107 (.cons (Rd.sl 103 false) (.cons (Rd.sl 9 false) .nil))) (.cons (.row 9 false) .nil))), fun a b => .p52 a.2.1 a.2.2.1 a.2.2.2.1 b.2.1.1 b.2.1.2.1 b.2.2.1⟩]
theorem wT7 : All (ub8 25 2 vd1 xj5) xn7 := ⟨⟨rfl, rfl, fun _ _ => rfl, fun _ _ => rfl⟩, trivial⟩
def vx9 : Code := Tryz.f116.body.getD .skip
def wt3 : Spec E.S := (Con.add w51 ub1)
theorem wa1 : ub0 E wt3 := (Con.add_ok wH7 ua7)
theorem xC4 : ∀ pt r, un5 pt = some r → Good E Tryz.f116 vx9 2 (uQ6.av r) (uQ6.bx r) (vd1 pt) (xj5 pt) := by
 refine un5.partial_correctness (fun pt r => Good E Tryz.f116 vx9 2 (uQ6.av r) (uQ6.bx r) (vd1 pt) (xj5 pt)) ?_
 intro run' ih pt r hr
 cases pt <;> exact ua9 (spec := wt3) (wr := (mkWr [] [])) (l := xn7) (z := 25) (p := uQ6) E_ok wT7.mem rfl wa1 ih (Eq.trans (by kernel_rfl) hr)
def w52 : Con E := ⟨116, _, _, (.cons (Rw.sl 58) (.cons (Rd.fn 117 (.cons (Rd.bp 0 0) (.cons (Rd.bp 1 0) .nil))).w .nil)), (.cons (.var 101 (.cons Rd.nl .nil)) (.cons (.var 107 (.cons (Rd.sl 103 false) (.cons (Rd.sl 9 false) .nil))) .nil)), 2, xW3, fun a b => un5 (.start a.1 b.2.1.1 b.2.1.2.1), uQ6.av, uQ6.bx⟩
theorem wH8 : w52.Ok := fun a b r h => ub4 (fn := Tryz.f116) (code := vx9) E_ok (by kernel_rfl) (by kernel_rfl) (by kernel_rfl) (Nat.le_of_ble_eq_true rfl) (xC4 (.start a.1 b.2.1.1 b.2.1.2.1) r h)
inductive wD5 where
 | start (s0 : Int) (c1_0 : ByteArray) (c1_1 : (List ua6)) (D0 : (List ua2)) (D1 : (List ByteArray)) (B2 : (List ByteArray))
def vN0 : wD5 → List Bool
 | .start .. => []
def xR1 : wD5 → St E.S
 | .start s0 c1_0 c1_1 D0 D1 B2 => st0 38 [.v (.int .i64 s0), .agg [.v (.string c1_0), .sl 58 c1_1 false], .bp 0 0, .bp 1 0] [.var 101 [.rw 2], .var 107 [.sl 103 D0 false, .sl 9 D1 false], .row 9 B2 true]
abbrev xW4 : Type := ((Int × Unit) × ((Unit × Unit) × (((List ua2) × ((List ByteArray) × Unit)) × ((List ByteArray) × Unit))))
def vg7 : Res E (Int × Unit) ((Unit × Unit) × (((List ua2) × ((List ByteArray) × Unit)) × ((List ByteArray) × Unit))) := { rows := [], flat := [], keep := 2, done := [0], rl := (.cons (Rd.int .i64) .nil), rb := (.cons (.var 101 (.cons (Rd.rw 2) .nil)) (.cons (.var 107 (.cons (Rd.sl 103 false) (.cons (Rd.sl 9 false) .nil))) (.cons (.row 9 true) .nil))) }
def u27 : wD5 → Option xW4
 | .start s0 c1_0 c1_1 D0 D1 B2 =>
  (uz2 (.start c1_0 B2)) >>= fun t1 =>
  (uc7 (.start (decide ((List.length c1_1 : Int) ≤ (8 : Int))) (8 : Int))) >>= fun t2 =>
  (ud1 (.start ([t1.1.1, t2.1.1] : List Int))) >>= fun t3 =>
  if (t3.1.1 != (0 : Int)) = true then
   some ((t3.1.1, ()), (((), ()), ((D0, (D1, ())), (B2, ()))))
  else
   if (fits (List.length B2) (List.length ([c1_0] : List ByteArray)) 16) = true then
    (un5 (.start c1_1 D0 D1)) >>= fun t4 =>
    some ((t4.1.2.1, ()), (((), ()), ((t4.2.2.1.1, (t4.2.2.1.2.1, ())), (B2 ++ ([c1_0] : List ByteArray), ()))))
   else none
def xn8 : List (Plc E wD5) := []
theorem wT8 : All (ub8 38 2 vN0 xR1) xn8 := trivial
def wl4 : Code := Tryz.f115.body.getD .skip
def wt4 : Spec E.S := (Con.add w52 (Con.add uG1 (Con.add uU9 (Con.add va2 ub1))))
theorem wa2 : ub0 E wt4 := (Con.add_ok wH8 (Con.add_ok uo4 (Con.add_ok ur8 (Con.add_ok uL5 ua7))))
theorem xC5 : ∀ pt r, u27 pt = some r → Good E Tryz.f115 wl4 2 (vg7.av r) (vg7.bx r) (vN0 pt) (xR1 pt) := by
 intro pt r hr
 cases pt <;> exact ua9 (spec := wt4) (wr := (mkWr [] [])) (l := xn8) (z := 38) (p := vg7) (run' := fun _ => none) E_ok wT8.mem rfl wa2 (fun _ _ h => by cases h) (Eq.trans (by kernel_rfl) hr)
def w53 : Con E := ⟨115, _, _, (.cons (Rd.int .i64).w (.cons (Rw.agg (.cons Rd.str.w (.cons (Rw.sl 58) .nil))) (.cons (Rd.bp 0 0).w (.cons (Rd.bp 1 0).w .nil)))), (.cons (.var 101 (.cons (Rd.rw 2) .nil)) (.cons (.var 107 (.cons (Rd.sl 103 false) (.cons (Rd.sl 9 false) .nil))) (.cons (.row 9 true) .nil))), 2, xW4, fun a b => u27 (.start a.1 a.2.1.1 a.2.1.2.1 b.2.1.1 b.2.1.2.1 b.2.2.1), vg7.av, vg7.bx⟩
theorem wH9 : w53.Ok := fun a b r h => ub4 (fn := Tryz.f115) (code := wl4) E_ok (by kernel_rfl) (by kernel_rfl) (by kernel_rfl) (Nat.le_of_ble_eq_true rfl) (xC5 (.start a.1 a.2.1.1 a.2.1.2.1 b.2.1.1 b.2.1.2.1 b.2.2.1) r h)
inductive wD6 where
 | start (l0 : (List ua1)) (D0 : (List ua2)) (D1 : (List ByteArray)) (B2 : (List ByteArray))
 | p52 (s9 : (List ua1)) (s10 : Int) (s11 : Int) (D0 : (List ua2)) (D1 : (List ByteArray)) (B2 : (List ByteArray))
def vd2 : wD6 → List Bool
 | .start .. => []
 | .p52 .. => [false, false, true, false, true]
def xj6 : wD6 → St E.S
 | .start l0 D0 D1 B2 => st0 25 [.sl 56 l0 false, .fn 115 [.bp 0 0, .bp 1 0]] [.var 101 [.rw 2], .var 107 [.sl 103 D0 false, .sl 9 D1 false], .row 9 B2 true]
 | .p52 s9 s10 s11 D0 D1 B2 => mkSt 25 [1, 9, 10, 11] [.fn 115 [.bp 0 0, .bp 1 0], .sl 56 s9 false, .v (.int .i64 s10), .v (.int .i64 s11)] [.var 101 [.rw 2], .var 107 [.sl 103 D0 false, .sl 9 D1 false], .row 9 B2 true]
abbrev xW5 : Type := ((Int × (Int × Unit)) × ((Unit × Unit) × (((List ua2) × ((List ByteArray) × Unit)) × ((List ByteArray) × Unit))))
def uQ7 : Res E (Int × (Int × Unit)) ((Unit × Unit) × (((List ua2) × ((List ByteArray) × Unit)) × ((List ByteArray) × Unit))) := { rows := [], flat := [], keep := 2, done := [0, 1], rl := (.cons (Rd.int .i64) (.cons (Rd.int .i64) .nil)), rb := (.cons (.var 101 (.cons (Rd.rw 2) .nil)) (.cons (.var 107 (.cons (Rd.sl 103 false) (.cons (Rd.sl 9 false) .nil))) (.cons (.row 9 true) .nil))) }
def un6 : wD6 → Option xW5
 | .start l0 D0 D1 B2 =>
  un6 (.p52 l0 (List.length l0 : Int) (0 : Int) D0 D1 B2)
 | .p52 s9 s10 s11 D0 D1 B2 =>
  if (decide (s11 < s10)) = true then
   (idx s9 s11) >>= fun t1 =>
   (u27 (.start s11 t1.Name t1.Fields D0 D1 B2)) >>= fun t2 =>
   if (t2.1.1 != (0 : Int)) = true then
    some ((s11, (t2.1.1, ())), (((), ()), ((t2.2.2.1.1, (t2.2.2.1.2.1, ())), (t2.2.2.2.1, ()))))
   else
    un6 (.p52 s9 s10 (IntKind.wrap .i64 (s11 + (1 : Int))) t2.2.2.1.1 t2.2.2.1.2.1 t2.2.2.2.1)
  else
   some (((0 : Int), ((0 : Int), ())), (((), ()), ((D0, (D1, ())), (B2, ()))))
 partial_fixpoint
def xn9 : List (Plc E wD6) := [⟨52, [false, false, true, false, true], { slots := [1, 9, 10, 11], rows := [], flat := [], keep := 2 }, _, _, (.cons (Rd.fn 115 (.cons (Rd.bp 0 0) (.cons (Rd.bp 1 0) .nil))) (.cons (Rd.sl 56 false) (.cons (Rd.int .i64) (.cons (Rd.int .i64) .nil)))), (.cons (.var 101 (.cons (Rd.rw 2) .nil)) (.cons (.var 107 (.cons (Rd.sl 103 false) (.cons (Rd.sl 9 false) .nil))) (.cons (.row 9 true) .nil))), fun a b => .p52 a.2.1 a.2.2.1 a.2.2.2.1 b.2.1.1 b.2.1.2.1 b.2.2.1⟩]
theorem wT9 : All (ub8 25 2 vd2 xj6) xn9 := ⟨⟨rfl, rfl, fun _ _ => rfl, fun _ _ => rfl⟩, trivial⟩
def vy0 : Code := Tryz.f114.body.getD .skip
def wt5 : Spec E.S := (Con.add w53 ub1)
theorem wa3 : ub0 E wt5 := (Con.add_ok wH9 ua7)
theorem xC6 : ∀ pt r, un6 pt = some r → Good E Tryz.f114 vy0 2 (uQ7.av r) (uQ7.bx r) (vd2 pt) (xj6 pt) := by
 refine un6.partial_correctness (fun pt r => Good E Tryz.f114 vy0 2 (uQ7.av r) (uQ7.bx r) (vd2 pt) (xj6 pt)) ?_
 intro run' ih pt r hr
 cases pt <;> exact ua9 (spec := wt5) (wr := (mkWr [] [])) (l := xn9) (z := 25) (p := uQ7) E_ok wT9.mem rfl wa3 ih (Eq.trans (by kernel_rfl) hr)
def w54 : Con E := ⟨114, _, _, (.cons (Rw.sl 56) (.cons (Rd.fn 115 (.cons (Rd.bp 0 0) (.cons (Rd.bp 1 0) .nil))).w .nil)), (.cons (.var 101 (.cons (Rd.rw 2) .nil)) (.cons (.var 107 (.cons (Rd.sl 103 false) (.cons (Rd.sl 9 false) .nil))) (.cons (.row 9 true) .nil))), 2, xW5, fun a b => un6 (.start a.1 b.2.1.1 b.2.1.2.1 b.2.2.1), uQ7.av, uQ7.bx⟩
theorem wI0 : w54.Ok := fun a b r h => ub4 (fn := Tryz.f114) (code := vy0) E_ok (by kernel_rfl) (by kernel_rfl) (by kernel_rfl) (Nat.le_of_ble_eq_true rfl) (xC6 (.start a.1 b.2.1.1 b.2.1.2.1 b.2.2.1) r h)
inductive wD7 where
 | start (s0_0 : (List ua2)) (s0_1 : (List ByteArray)) (d1_0 : ByteArray) (d1_1 : (List ByteArray)) (d1_2 : (List ua1)) (names2 : (List ByteArray)) (constructors3 : (List ByteArray))
 | p7 (constructors3 : (List ByteArray)) (e9 : Int) (C0 : (List ua2)) (C1 : (List ByteArray)) (D0 : ByteArray) (D1 : (List ByteArray)) (D2 : (List ua1))
def vd3 : wD7 → List Bool
 | .start .. => []
 | .p7 .. => [true, true]
def xj7 : wD7 → St E.S
 | .start s0_0 s0_1 d1_0 d1_1 d1_2 names2 constructors3 => st0 64 [.agg [.sl 103 s0_0 false, .sl 9 s0_1 false], .agg [.v (.string d1_0), .sl 9 d1_1 false, .sl 56 d1_2 false], .sl 9 names2 true, .sl 9 constructors3 true] []
 | .p7 constructors3 e9 C0 C1 D0 D1 D2 => mkSt 64 [3, 4, 5, 9] [.sl 9 constructors3 true, .bp 0 0, .bp 1 0, .v (.int .i64 e9)] [.var 107 [.sl 103 C0 false, .sl 9 C1 false], .var 103 [.v (.string D0), .sl 9 D1 false, .sl 56 D2 false]]
abbrev xW6 : Type := ((Int × Unit) × Unit)
def uQ8 : Res E (Int × Unit) Unit := { rows := [], flat := [], keep := 0, done := [0], rl := (.cons (Rd.int .i64) .nil), rb := .nil }
def uq7 : wD7 → Option xW6
 | .start s0_0 s0_1 d1_0 d1_1 d1_2 names2 constructors3 =>
  if (fits (List.length names2) (List.length ([(⟨#[66, 105, 116]⟩ : ByteArray), (⟨#[66, 111, 111, 108]⟩ : ByteArray), (⟨#[73, 110, 116, 101, 103, 101, 114]⟩ : ByteArray)] : List ByteArray)) 16) = true then
   (uz2 (.start d1_0 (names2 ++ ([(⟨#[66, 105, 116]⟩ : ByteArray), (⟨#[66, 111, 111, 108]⟩ : ByteArray), (⟨#[73, 110, 116, 101, 103, 101, 114]⟩ : ByteArray)] : List ByteArray)))) >>= fun t1 =>
   if (decide ((List.length d1_1 : Int) ≤ (4 : Int))) = true then
    (uc7 (.start (decide ((List.length d1_2 : Int) ≤ (16 : Int))) (8 : Int))) >>= fun t2 =>
    (uc7 (.start (decide ((List.length d1_2 : Int) > (0 : Int))) (10 : Int))) >>= fun t3 =>
    (ud1 (.start ([t1.1.1, t2.1.1, t3.1.1] : List Int))) >>= fun t4 =>
    uq7 (.p7 constructors3 t4.1.1 s0_0 s0_1 d1_0 d1_1 d1_2)
   else
    (uc7 (.start false (8 : Int))) >>= fun t5 =>
    (uc7 (.start (decide ((List.length d1_2 : Int) > (0 : Int))) (10 : Int))) >>= fun t6 =>
    (ud1 (.start ([t1.1.1, t5.1.1, t6.1.1] : List Int))) >>= fun t7 =>
    uq7 (.p7 constructors3 t7.1.1 s0_0 s0_1 d1_0 d1_1 d1_2)
  else none
 | .p7 constructors3 e9 C0 C1 D0 D1 D2 =>
  if (e9 != (0 : Int)) = true then
   some ((e9, ()), ())
  else
   (un3 (.start D1 D0 D1 D2)) >>= fun t1 =>
   if (t1.1.2.1 != (0 : Int)) = true then
    some ((t1.1.2.1, ()), ())
   else
    if (fits (List.length constructors3) (List.length ([(⟨#[70, 97, 108, 115, 101]⟩ : ByteArray), (⟨#[84, 114, 117, 101]⟩ : ByteArray)] : List ByteArray)) 16) = true then
     (un6 (.start t1.2.1.2.2.1 C0 t1.2.1.2.1 (constructors3 ++ ([(⟨#[70, 97, 108, 115, 101]⟩ : ByteArray), (⟨#[84, 114, 117, 101]⟩ : ByteArray)] : List ByteArray)))) >>= fun t2 =>
     some ((t2.1.2.1, ()), ())
    else none
 partial_fixpoint
def xo0 : List (Plc E wD7) := [⟨7, [true, true], { slots := [3, 4, 5, 9], rows := [], flat := [], keep := 0 }, _, _, (.cons (Rd.sl 9 true) (.cons (Rd.bp 0 0) (.cons (Rd.bp 1 0) (.cons (Rd.int .i64) .nil)))), (.cons (.var 107 (.cons (Rd.sl 103 false) (.cons (Rd.sl 9 false) .nil))) (.cons (.var 103 (.cons Rd.str (.cons (Rd.sl 9 false) (.cons (Rd.sl 56 false) .nil)))) .nil)), fun a b => .p7 a.1 a.2.2.2.1 b.1.1 b.1.2.1 b.2.1.1 b.2.1.2.1 b.2.1.2.2.1⟩]
theorem wU0 : All (ub8 64 0 vd3 xj7) xo0 := ⟨⟨rfl, rfl, fun _ _ => rfl, fun _ _ => rfl⟩, trivial⟩
def vy1 : Code := Tryz.f77.body.getD .skip
def wt6 : Spec E.S := (Con.add w54 (Con.add w43 (Con.add uG1 (Con.add uU9 (Con.add va2 ub1)))))
theorem wa4 : ub0 E wt6 := (Con.add_ok wI0 (Con.add_ok wH1 (Con.add_ok uo4 (Con.add_ok ur8 (Con.add_ok uL5 ua7)))))
theorem xC7 : ∀ pt r, uq7 pt = some r → Good E Tryz.f77 vy1 0 (uQ8.av r) (uQ8.bx r) (vd3 pt) (xj7 pt) := by
 refine uq7.partial_correctness (fun pt r => Good E Tryz.f77 vy1 0 (uQ8.av r) (uQ8.bx r) (vd3 pt) (xj7 pt)) ?_
 intro run' ih pt r hr
 cases pt <;> exact ua9 (spec := wt6) (wr := (mkWr [] [])) (l := xo0) (z := 64) (p := uQ8) E_ok wU0.mem rfl wa4 ih (Eq.trans (by kernel_rfl) hr)
def vY1 : Con E := ⟨77, _, _, (.cons (Rw.agg (.cons (Rw.sl 103) (.cons (Rw.sl 9) .nil))) (.cons (Rw.agg (.cons Rd.str.w (.cons (Rw.sl 9) (.cons (Rw.sl 56) .nil)))) (.cons (Rd.sl 9 true).w (.cons (Rd.sl 9 true).w .nil)))), .nil, 0, xW6, fun a b => uq7 (.start a.1.1 a.1.2.1 a.2.1.1 a.2.1.2.1 a.2.1.2.2.1 a.2.2.1 a.2.2.2.1), uQ8.av, uQ8.bx⟩
theorem vr1 : vY1.Ok := fun a b r h => ub4 (fn := Tryz.f77) (code := vy1) E_ok (by kernel_rfl) (by kernel_rfl) (by kernel_rfl) (Nat.le_of_ble_eq_true rfl) (xC7 (.start a.1.1 a.1.2.1 a.2.1.1 a.2.1.2.1 a.2.1.2.2.1 a.2.2.1 a.2.2.2.1) r h)
inductive xw6 where
 | start (i0 : Int) (d1_0 : ByteArray) (d1_1 : (List ByteArray)) (d1_2 : (List ua1)) (B0 : (List ua2)) (B3 : (List ByteArray)) (B4 : (List ByteArray))
 | p244 (e8 : Int) (s27 : (List ua1)) (s28 : Int) (s29 : Int) (B0 : (List ua2)) (B3 : (List ByteArray)) (B4 : (List ByteArray))
def vd4 : xw6 → List Bool
 | .start .. => []
 | .p244 .. => [false, false, true, false, true, true, true]
def xj8 : xw6 → St E.S
 | .start i0 d1_0 d1_1 d1_2 B0 B3 B4 => st0 40 [.v (.int .i64 i0), .agg [.v (.string d1_0), .sl 9 d1_1 false, .sl 56 d1_2 false], .bp 0 0, .bp 1 0, .bp 2 0] [.var 22 [.sl 103 B0 false], .var 101 [.rw 3], .var 101 [.rw 4], .row 9 B3 false, .row 9 B4 false]
 | .p244 e8 s27 s28 s29 B0 B3 B4 => mkSt 40 [4, 8, 27, 28, 29] [.bp 2 0, .v (.int .i64 e8), .sl 56 s27 false, .v (.int .i64 s28), .v (.int .i64 s29)] [.var 22 [.sl 103 B0 false], .var 101 [.rw 3], .var 101 [.rw 4], .row 9 B3 true, .row 9 B4 true]
abbrev x76 : Type := ((Int × Unit) × (((List ua2) × Unit) × ((Unit × Unit) × ((Unit × Unit) × ((List ByteArray) × ((List ByteArray) × Unit))))))
def uQ9 : Res E (Int × Unit) (((List ua2) × Unit) × ((Unit × Unit) × ((Unit × Unit) × ((List ByteArray) × ((List ByteArray) × Unit))))) := { rows := [], flat := [], keep := 3, done := [0], rl := (.cons (Rd.int .i64) .nil), rb := (.cons (.var 22 (.cons (Rd.sl 103 false) .nil)) (.cons (.var 101 (.cons (Rd.rw 3) .nil)) (.cons (.var 101 (.cons (Rd.rw 4) .nil)) (.cons (.row 9 true) (.cons (.row 9 true) .nil))))) }
def vk4 : xw6 → Option x76
 | .start i0 d1_0 d1_1 d1_2 B0 B3 B4 =>
  (span (List.length B0) (0 : Int) i0) >>= fun t1 =>
  (uO5 (.start B3)) >>= fun t2 =>
  (uO5 (.start B4)) >>= fun t3 =>
  (uq7 (.start (cut B0 t1) ([]) d1_0 d1_1 d1_2 t2.1.1 t3.1.1)) >>= fun t4 =>
  if (fits (List.length B3) (List.length ([d1_0] : List ByteArray)) 16) = true then
   vk4 (.p244 t4.1.1 d1_2 (List.length d1_2 : Int) (0 : Int) B0 (B3 ++ ([d1_0] : List ByteArray)) B4)
  else none
 | .p244 e8 s27 s28 s29 B0 B3 B4 =>
  if (decide (s29 < s28)) = true then
   (idx s27 s29) >>= fun t1 =>
   if (fits (List.length B4) (List.length ([t1.Name] : List ByteArray)) 16) = true then
    vk4 (.p244 e8 s27 s28 (IntKind.wrap .i64 (s29 + (1 : Int))) B0 B3 (B4 ++ ([t1.Name] : List ByteArray)))
   else none
  else
   some ((e8, ()), ((B0, ()), (((), ()), (((), ()), (B3, (B4, ()))))))
 partial_fixpoint
def xo1 : List (Plc E xw6) := [⟨244, [false, false, true, false, true, true, true], { slots := [4, 8, 27, 28, 29], rows := [], flat := [], keep := 3 }, _, _, (.cons (Rd.bp 2 0) (.cons (Rd.int .i64) (.cons (Rd.sl 56 false) (.cons (Rd.int .i64) (.cons (Rd.int .i64) .nil))))), (.cons (.var 22 (.cons (Rd.sl 103 false) .nil)) (.cons (.var 101 (.cons (Rd.rw 3) .nil)) (.cons (.var 101 (.cons (Rd.rw 4) .nil)) (.cons (.row 9 true) (.cons (.row 9 true) .nil))))), fun a b => .p244 a.2.1 a.2.2.1 a.2.2.2.1 a.2.2.2.2.1 b.1.1 b.2.2.2.1 b.2.2.2.2.1⟩]
theorem wU1 : All (ub8 40 3 vd4 xj8) xo1 := ⟨⟨rfl, rfl, fun _ _ => rfl, fun _ _ => rfl⟩, trivial⟩
def vy2 : Code := Tryz.f76.body.getD .skip
def wt7 : Spec E.S := (Con.add vY1 (Con.add w64 ub1))
theorem wa5 : ub0 E wt7 := (Con.add_ok vr1 (Con.add_ok vJ5 ua7))
theorem xC8 : ∀ pt r, vk4 pt = some r → Good E Tryz.f76 vy2 3 (uQ9.av r) (uQ9.bx r) (vd4 pt) (xj8 pt) := by
 refine vk4.partial_correctness (fun pt r => Good E Tryz.f76 vy2 3 (uQ9.av r) (uQ9.bx r) (vd4 pt) (xj8 pt)) ?_
 intro run' ih pt r hr
 cases pt <;> exact ua9 (spec := wt7) (wr := (mkWr [] [(6, [3, 4])])) (l := xo1) (z := 40) (p := uQ9) E_ok wU1.mem rfl wa5 ih (Eq.trans (by kernel_rfl) hr)
def xZ8 : Con E := ⟨76, _, _, (.cons (Rd.int .i64).w (.cons (Rw.agg (.cons Rd.str.w (.cons (Rw.sl 9) (.cons (Rw.sl 56) .nil)))) (.cons (Rd.bp 0 0).w (.cons (Rd.bp 1 0).w (.cons (Rd.bp 2 0).w .nil))))), (.cons (.var 22 (.cons (Rd.sl 103 false) .nil)) (.cons (.var 101 (.cons (Rd.rw 3) .nil)) (.cons (.var 101 (.cons (Rd.rw 4) .nil)) (.cons (.row 9 false) (.cons (.row 9 false) .nil))))), 3, x76, fun a b => vk4 (.start a.1 a.2.1.1 a.2.1.2.1 a.2.1.2.2.1 b.1.1 b.2.2.2.1 b.2.2.2.2.1), uQ9.av, uQ9.bx⟩
theorem x68 : xZ8.Ok := fun a b r h => ub4 (fn := Tryz.f76) (code := vy2) E_ok (by kernel_rfl) (by kernel_rfl) (by kernel_rfl) (Nat.le_of_ble_eq_true rfl) (xC8 (.start a.1 a.2.1.1 a.2.1.2.1 a.2.1.2.2.1 b.1.1 b.2.2.2.1 b.2.2.2.2.1) r h)
inductive wD8 where
 | start (i0 : Int) (d1_0 : ByteArray) (d1_1 : (List ByteArray)) (d1_2 : (List ua1)) (B0 : (List ua2)) (B3 : (List ByteArray)) (B4 : (List ByteArray))
 | p244 (e8 : Int) (s27 : (List ua1)) (s28 : Int) (s29 : Int) (B0 : (List ua2)) (B3 : (List ByteArray)) (B4 : (List ByteArray))
def vd5 : wD8 → List Bool
 | .start .. => []
 | .p244 .. => [false, false, true, false, true, true, true]
def xj9 : wD8 → St E.S
 | .start i0 d1_0 d1_1 d1_2 B0 B3 B4 => st0 40 [.v (.int .i64 i0), .agg [.v (.string d1_0), .sl 9 d1_1 false, .sl 56 d1_2 false], .bp 0 0, .bp 1 0, .bp 2 0] [.var 22 [.sl 103 B0 false], .var 101 [.rw 3], .var 101 [.rw 4], .row 9 B3 true, .row 9 B4 true]
 | .p244 e8 s27 s28 s29 B0 B3 B4 => mkSt 40 [4, 8, 27, 28, 29] [.bp 2 0, .v (.int .i64 e8), .sl 56 s27 false, .v (.int .i64 s28), .v (.int .i64 s29)] [.var 22 [.sl 103 B0 false], .var 101 [.rw 3], .var 101 [.rw 4], .row 9 B3 true, .row 9 B4 true]
abbrev xW7 : Type := ((Int × Unit) × (((List ua2) × Unit) × ((Unit × Unit) × ((Unit × Unit) × ((List ByteArray) × ((List ByteArray) × Unit))))))
def uR0 : Res E (Int × Unit) (((List ua2) × Unit) × ((Unit × Unit) × ((Unit × Unit) × ((List ByteArray) × ((List ByteArray) × Unit))))) := { rows := [], flat := [], keep := 3, done := [0], rl := (.cons (Rd.int .i64) .nil), rb := (.cons (.var 22 (.cons (Rd.sl 103 false) .nil)) (.cons (.var 101 (.cons (Rd.rw 3) .nil)) (.cons (.var 101 (.cons (Rd.rw 4) .nil)) (.cons (.row 9 true) (.cons (.row 9 true) .nil))))) }
def un7 : wD8 → Option xW7
 | .start i0 d1_0 d1_1 d1_2 B0 B3 B4 =>
  (span (List.length B0) (0 : Int) i0) >>= fun t1 =>
  (uO5 (.start B3)) >>= fun t2 =>
  (uO5 (.start B4)) >>= fun t3 =>
  (uq7 (.start (cut B0 t1) ([]) d1_0 d1_1 d1_2 t2.1.1 t3.1.1)) >>= fun t4 =>
  if (fits (List.length B3) (List.length ([d1_0] : List ByteArray)) 16) = true then
   un7 (.p244 t4.1.1 d1_2 (List.length d1_2 : Int) (0 : Int) B0 (B3 ++ ([d1_0] : List ByteArray)) B4)
  else none
 | .p244 e8 s27 s28 s29 B0 B3 B4 =>
  if (decide (s29 < s28)) = true then
   (idx s27 s29) >>= fun t1 =>
   if (fits (List.length B4) (List.length ([t1.Name] : List ByteArray)) 16) = true then
    un7 (.p244 e8 s27 s28 (IntKind.wrap .i64 (s29 + (1 : Int))) B0 B3 (B4 ++ ([t1.Name] : List ByteArray)))
   else none
  else
   some ((e8, ()), ((B0, ()), (((), ()), (((), ()), (B3, (B4, ()))))))
 partial_fixpoint
def xo3 : List (Plc E wD8) := [⟨244, [false, false, true, false, true, true, true], { slots := [4, 8, 27, 28, 29], rows := [], flat := [], keep := 3 }, _, _, (.cons (Rd.bp 2 0) (.cons (Rd.int .i64) (.cons (Rd.sl 56 false) (.cons (Rd.int .i64) (.cons (Rd.int .i64) .nil))))), (.cons (.var 22 (.cons (Rd.sl 103 false) .nil)) (.cons (.var 101 (.cons (Rd.rw 3) .nil)) (.cons (.var 101 (.cons (Rd.rw 4) .nil)) (.cons (.row 9 true) (.cons (.row 9 true) .nil))))), fun a b => .p244 a.2.1 a.2.2.1 a.2.2.2.1 a.2.2.2.2.1 b.1.1 b.2.2.2.1 b.2.2.2.2.1⟩]
theorem wU2 : All (ub8 40 3 vd5 xj9) xo3 := ⟨⟨rfl, rfl, fun _ _ => rfl, fun _ _ => rfl⟩, trivial⟩
def vy3 : Code := Tryz.f76.body.getD .skip
def wt8 : Spec E.S := (Con.add vY1 (Con.add w64 ub1))
theorem wa6 : ub0 E wt8 := (Con.add_ok vr1 (Con.add_ok vJ5 ua7))
theorem xC9 : ∀ pt r, un7 pt = some r → Good E Tryz.f76 vy3 3 (uR0.av r) (uR0.bx r) (vd5 pt) (xj9 pt) := by
 refine un7.partial_correctness (fun pt r => Good E Tryz.f76 vy3 3 (uR0.av r) (uR0.bx r) (vd5 pt) (xj9 pt)) ?_
 intro run' ih pt r hr
 cases pt <;> exact ua9 (spec := wt8) (wr := (mkWr [] [])) (l := xo3) (z := 40) (p := uR0) E_ok wU2.mem rfl wa6 ih (Eq.trans (by kernel_rfl) hr)
def w55 : Con E := ⟨76, _, _, (.cons (Rd.int .i64).w (.cons (Rw.agg (.cons Rd.str.w (.cons (Rw.sl 9) (.cons (Rw.sl 56) .nil)))) (.cons (Rd.bp 0 0).w (.cons (Rd.bp 1 0).w (.cons (Rd.bp 2 0).w .nil))))), (.cons (.var 22 (.cons (Rd.sl 103 false) .nil)) (.cons (.var 101 (.cons (Rd.rw 3) .nil)) (.cons (.var 101 (.cons (Rd.rw 4) .nil)) (.cons (.row 9 true) (.cons (.row 9 true) .nil))))), 3, xW7, fun a b => un7 (.start a.1 a.2.1.1 a.2.1.2.1 a.2.1.2.2.1 b.1.1 b.2.2.2.1 b.2.2.2.2.1), uR0.av, uR0.bx⟩
theorem wI1 : w55.Ok := fun a b r h => ub4 (fn := Tryz.f76) (code := vy3) E_ok (by kernel_rfl) (by kernel_rfl) (by kernel_rfl) (Nat.le_of_ble_eq_true rfl) (xC9 (.start a.1 a.2.1.1 a.2.1.2.1 a.2.1.2.2.1 b.1.1 b.2.2.2.1 b.2.2.2.2.1) r h)
inductive wD9 where
 | start (l0 : (List ua2)) (B0 : (List ua2))
 | p52 (s9 : (List ua2)) (s10 : Int) (s11 : Int) (B0 : (List ua2)) (B3 : (List ByteArray)) (B4 : (List ByteArray))
def vd6 : wD9 → List Bool
 | .start .. => []
 | .p52 .. => [false, false, true, false, true]
def xk0 : wD9 → St E.S
 | .start l0 B0 => st0 25 [.sl 103 l0 false, .fn 76 [.bp 0 0, .bp 1 0, .bp 2 0]] [.var 22 [.sl 103 B0 false], .var 101 [.nl], .var 101 [.nl]]
 | .p52 s9 s10 s11 B0 B3 B4 => mkSt 25 [1, 9, 10, 11] [.fn 76 [.bp 0 0, .bp 1 0, .bp 2 0], .sl 103 s9 false, .v (.int .i64 s10), .v (.int .i64 s11)] [.var 22 [.sl 103 B0 false], .var 101 [.rw 3], .var 101 [.rw 4], .row 9 B3 true, .row 9 B4 true]
abbrev xW8 : Type := ((Int × (Int × Unit)) × (((List ua2) × Unit) × ((Unit × Unit) × ((Unit × Unit) × ((List ByteArray) × ((List ByteArray) × Unit))))))
def uR1 : Res E (Int × (Int × Unit)) (((List ua2) × Unit) × ((Unit × Unit) × ((Unit × Unit) × ((List ByteArray) × ((List ByteArray) × Unit))))) := { rows := [], flat := [], keep := 3, done := [0, 1, 100002], rl := (.cons (Rd.int .i64) (.cons (Rd.int .i64) .nil)), rb := (.cons (.var 22 (.cons (Rd.sl 103 false) .nil)) (.cons (.var 101 (.cons (Rd.rw 3) .nil)) (.cons (.var 101 (.cons (Rd.rw 4) .nil)) (.cons (.row 9 true) (.cons (.row 9 true) .nil))))) }
def uq8 : wD9 → Option xW8
 | .start l0 B0 =>
  uq8 (.p52 l0 (List.length l0 : Int) (0 : Int) B0 ([] : List ByteArray) ([] : List ByteArray))
 | .p52 s9 s10 s11 B0 B3 B4 =>
  if (decide (s11 < s10)) = true then
   (idx s9 s11) >>= fun t1 =>
   (un7 (.start s11 t1.Name t1.Params t1.Constructors B0 B3 B4)) >>= fun t2 =>
   if (t2.1.1 != (0 : Int)) = true then
    some ((s11, (t2.1.1, ())), ((t2.2.1.1, ()), (((), ()), (((), ()), (t2.2.2.2.2.1, (t2.2.2.2.2.2.1, ()))))))
   else
    uq8 (.p52 s9 s10 (IntKind.wrap .i64 (s11 + (1 : Int))) t2.2.1.1 t2.2.2.2.2.1 t2.2.2.2.2.2.1)
  else
   some (((0 : Int), ((0 : Int), ())), ((B0, ()), (((), ()), (((), ()), (B3, (B4, ()))))))
 partial_fixpoint
def xo4 : List (Plc E wD9) := [⟨52, [false, false, true, false, true], { slots := [1, 9, 10, 11], rows := [], flat := [], keep := 3, up := [(true, 100001, 0, 9), (true, 100002, 0, 9)], done := [1] }, _, _, (.cons (Rd.fn 76 (.cons (Rd.bp 0 0) (.cons (Rd.bp 1 0) (.cons (Rd.bp 2 0) .nil)))) (.cons (Rd.sl 103 false) (.cons (Rd.int .i64) (.cons (Rd.int .i64) .nil)))), (.cons (.var 22 (.cons (Rd.sl 103 false) .nil)) (.cons (.var 101 (.cons (Rd.rw 3) .nil)) (.cons (.var 101 (.cons (Rd.rw 4) .nil)) (.cons (.row 9 true) (.cons (.row 9 true) .nil))))), fun a b => .p52 a.2.1 a.2.2.1 a.2.2.2.1 b.1.1 b.2.2.2.1 b.2.2.2.2.1⟩]
theorem wU3 : All (ub8 25 3 vd6 xk0) xo4 := ⟨⟨rfl, rfl, fun _ _ => rfl, fun _ _ => rfl⟩, trivial⟩
def vy4 : Code := Tryz.f75.body.getD .skip
def wt9 : Spec E.S := (Con.add w55 ub1)
theorem wa7 : ub0 E wt9 := (Con.add_ok wI1 ua7)
theorem xD0 : ∀ pt r, uq8 pt = some r → Good E Tryz.f75 vy4 3 (uR1.av r) (uR1.bx r) (vd6 pt) (xk0 pt) := by
 refine uq8.partial_correctness (fun pt r => Good E Tryz.f75 vy4 3 (uR1.av r) (uR1.bx r) (vd6 pt) (xk0 pt)) ?_
 intro run' ih pt r hr
 cases pt <;> exact ua9 (spec := wt9) (wr := (mkWr [] [])) (l := xo4) (z := 25) (p := uR1) E_ok wU3.mem rfl wa7 ih (Eq.trans (by kernel_rfl) hr)
def w56 : Con E := ⟨75, _, _, (.cons (Rw.sl 103) (.cons (Rd.fn 76 (.cons (Rd.bp 0 0) (.cons (Rd.bp 1 0) (.cons (Rd.bp 2 0) .nil)))).w .nil)), (.cons (.var 22 (.cons (Rd.sl 103 false) .nil)) (.cons (.var 101 (.cons Rd.nl .nil)) (.cons (.var 101 (.cons Rd.nl .nil)) .nil))), 3, xW8, fun a b => uq8 (.start a.1 b.1.1), uR1.av, uR1.bx⟩
theorem wI2 : w56.Ok := fun a b r h => ub4 (fn := Tryz.f75) (code := vy4) E_ok (by kernel_rfl) (by kernel_rfl) (by kernel_rfl) (Nat.le_of_ble_eq_true rfl) (xD0 (.start a.1 b.1.1) r h)
inductive wE0 where
 | start (l0 : (List ua2))
def vN1 : wE0 → List Bool
 | .start .. => []
def xR2 : wE0 → St E.S
 | .start l0 => st0 14 [.sl 103 l0 false] []
abbrev xW9 : Type := ((Int × (Int × Unit)) × Unit)
def vg8 : Res E (Int × (Int × Unit)) Unit := { rows := [], flat := [], keep := 0, done := [0, 1], rl := (.cons (Rd.int .i64) (.cons (Rd.int .i64) .nil)), rb := .nil }
def uT0 : wE0 → Option xW9
 | .start l0 =>
  if (decide ((List.length l0 : Int) > (20 : Int))) = true then
   some (((0 : Int), ((8 : Int), ())), ())
  else
   (uq8 (.start l0 l0)) >>= fun t1 =>
   some ((t1.1.1, (t1.1.2.1, ())), ())
def xo5 : List (Plc E wE0) := []
theorem wU4 : All (ub8 14 0 vN1 xR2) xo5 := trivial
def wl5 : Code := Tryz.f23.body.getD .skip
def wu0 : Spec E.S := (Con.add w56 ub1)
theorem wa8 : ub0 E wu0 := (Con.add_ok wI2 ua7)
theorem xD1 : ∀ pt r, uT0 pt = some r → Good E Tryz.f23 wl5 0 (vg8.av r) (vg8.bx r) (vN1 pt) (xR2 pt) := by
 intro pt r hr
 cases pt <;> exact ua9 (spec := wu0) (wr := (mkWr [] [])) (l := xo5) (z := 14) (p := vg8) (run' := fun _ => none) E_ok wU4.mem rfl wa8 (fun _ _ h => by cases h) (Eq.trans (by kernel_rfl) hr)
def w57 : Con E := ⟨23, _, _, (.cons (Rw.sl 103) .nil), .nil, 0, xW9, fun a b => uT0 (.start a.1), vg8.av, vg8.bx⟩
theorem wI3 : w57.Ok := fun a b r h => ub4 (fn := Tryz.f23) (code := wl5) E_ok (by kernel_rfl) (by kernel_rfl) (by kernel_rfl) (Nat.le_of_ble_eq_true rfl) (xD1 (.start a.1) r h)
inductive vn7 where
 | start (t0_0 : Int) (t0_1 : Int) (t0_2 : ByteArray) (t0_3 : (List ua0)) (params1 : (List ByteArray)) (args2 : (List ua0))
 | p27 (params1 : (List ByteArray)) (args2 : (List ua0)) (i7 : Int) (s21 : Bool) (C0 : Int) (C1 : Int) (C2 : ByteArray) (C3 : (List ua0)) (D0 : Int) (D1 : Int) (D2 : ByteArray)
 | p500 (params1 : (List ByteArray)) (args2 : (List ua0)) (s30 : (List ua0)) (s31 : Int) (s32 : Int) (C0 : Int) (C1 : Int) (C2 : ByteArray) (D0 : Int) (D1 : Int) (D2 : ByteArray) (B2 : (List ua0))
def uH3 : vn7 → List Bool
 | .start .. => []
 | .p27 .. => [true, true, false, true]
 | .p500 .. => [false, false, true, false, true, true, true, true]
def vT9 : vn7 → St E.S
 | .start t0_0 t0_1 t0_2 t0_3 params1 args2 => st0 47 [.agg [.v (.int .i64 t0_0), .v (.int .i64 t0_1), .v (.string t0_2), .sl 25 t0_3 false], .sl 9 params1 false, .sl 25 args2 false] []
 | .p27 params1 args2 i7 s21 C0 C1 C2 C3 D0 D1 D2 => mkSt 47 [1, 2, 3, 6, 7, 21] [.sl 9 params1 false, .sl 25 args2 false, .bp 0 0, .bp 1 0, .v (.int .i64 i7), .v (.bool s21)] [.var 25 [.v (.int .i64 C0), .v (.int .i64 C1), .v (.string C2), .sl 25 C3 false], .var 25 [.v (.int .i64 D0), .v (.int .i64 D1), .v (.string D2), .nl]]
 | .p500 params1 args2 s30 s31 s32 C0 C1 C2 D0 D1 D2 B2 => mkSt 47 [1, 2, 6, 8, 30, 31, 32] [.sl 9 params1 false, .sl 25 args2 false, .bp 0 0, .bp 1 0, .sl 25 s30 false, .v (.int .i64 s31), .v (.int .i64 s32)] [.var 25 [.v (.int .i64 C0), .v (.int .i64 C1), .v (.string C2), .nl], .var 25 [.v (.int .i64 D0), .v (.int .i64 D1), .v (.string D2), .rw 2], .row 25 B2 false]
abbrev vG6 : Type := (((Int × (Int × (ByteArray × ((List ua0) × Unit)))) × Unit) × Unit)
def up2 : Res E ((Int × (Int × (ByteArray × ((List ua0) × Unit)))) × Unit) Unit := { rows := [], flat := [], keep := 0, deep := [(false, 0, 3, 25)], done := [0], rl := (.cons (Rd.agg (.cons (Rd.int .i64) (.cons (Rd.int .i64) (.cons Rd.str (.cons (Rd.sl 25 false) .nil))))) .nil), rb := .nil }
def uf3 : vn7 → Option vG6
 | .start t0_0 t0_1 t0_2 t0_3 params1 args2 =>
  (uw5 (.start params1 t0_2)) >>= fun t1 =>
  if (t0_0 == (0 : Int)) = true then
   uf3 (.p27 params1 args2 t1.1.1 (decide (t1.1.1 ≥ (0 : Int))) t0_0 t0_1 t0_2 t0_3 (0 : Int) (0 : Int) (⟨#[]⟩ : ByteArray))
  else
   uf3 (.p27 params1 args2 t1.1.1 false t0_0 t0_1 t0_2 t0_3 (0 : Int) (0 : Int) (⟨#[]⟩ : ByteArray))
 | .p27 params1 args2 i7 s21 C0 C1 C2 C3 D0 D1 D2 =>
  if s21 = true then
   (idx args2 i7) >>= fun t1 =>
   (uf3 (.start t1.Kind t1.Value t1.Name t1.Parts ([]) ([]))) >>= fun t2 =>
   some (((t2.1.1.1, (t2.1.1.2.1, (t2.1.1.2.2.1, (t2.1.1.2.2.2.1, ())))), ()), ())
  else
   uf3 (.p500 params1 args2 C3 (List.length C3 : Int) (0 : Int) D0 D1 D2 C0 C1 C2 ([] : List ua0))
 | .p500 params1 args2 s30 s31 s32 C0 C1 C2 D0 D1 D2 B2 =>
  if (decide (s32 < s31)) = true then
   (idx s30 s32) >>= fun t1 =>
   (uf3 (.start t1.Kind t1.Value t1.Name t1.Parts params1 args2)) >>= fun t2 =>
   if (fits (List.length B2) (List.length ([(⟨t2.1.1.1, t2.1.1.2.1, t2.1.1.2.2.1, t2.1.1.2.2.2.1⟩ : ua0)] : List ua0)) 56) = true then
    uf3 (.p500 params1 args2 s30 s31 (IntKind.wrap .i64 (s32 + (1 : Int))) C0 C1 C2 D0 D1 D2 (B2 ++ ([(⟨t2.1.1.1, t2.1.1.2.1, t2.1.1.2.2.1, t2.1.1.2.2.2.1⟩ : ua0)] : List ua0)))
   else none
  else
   some (((D0, (D1, (D2, (B2, ())))), ()), ())
 partial_fixpoint
def xo6 : List (Plc E vn7) := [⟨27, [true, true, false, true], { slots := [1, 2, 3, 6, 7, 21], rows := [], flat := [], keep := 0 }, _, _, (.cons (Rd.sl 9 false) (.cons (Rd.sl 25 false) (.cons (Rd.bp 0 0) (.cons (Rd.bp 1 0) (.cons (Rd.int .i64) (.cons Rd.bool .nil)))))), (.cons (.var 25 (.cons (Rd.int .i64) (.cons (Rd.int .i64) (.cons Rd.str (.cons (Rd.sl 25 false) .nil))))) (.cons (.var 25 (.cons (Rd.int .i64) (.cons (Rd.int .i64) (.cons Rd.str (.cons Rd.nl .nil))))) .nil)), fun a b => .p27 a.1 a.2.1 a.2.2.2.2.1 a.2.2.2.2.2.1 b.1.1 b.1.2.1 b.1.2.2.1 b.1.2.2.2.1 b.2.1.1 b.2.1.2.1 b.2.1.2.2.1⟩,
 ⟨500, [false, false, true, false, true, true, true, true], { slots := [1, 2, 6, 8, 30, 31, 32], rows := [], flat := [], keep := 0, up := [(true, 8, 3, 25)] }, _, _, (.cons (Rd.sl 9 false) (.cons (Rd.sl 25 false) (.cons (Rd.bp 0 0) (.cons (Rd.bp 1 0) (.cons (Rd.sl 25 false) (.cons (Rd.int .i64) (.cons (Rd.int .i64) .nil))))))), (.cons (.var 25 (.cons (Rd.int .i64) (.cons (Rd.int .i64) (.cons Rd.str (.cons Rd.nl .nil))))) (.cons (.var 25 (.cons (Rd.int .i64) (.cons (Rd.int .i64) (.cons Rd.str (.cons (Rd.rw 2) .nil))))) (.cons (.row 25 false) .nil))), fun a b => .p500 a.1 a.2.1 a.2.2.2.2.1 a.2.2.2.2.2.1 a.2.2.2.2.2.2.1 b.1.1 b.1.2.1 b.1.2.2.1 b.2.1.1 b.2.1.2.1 b.2.1.2.2.1 b.2.2.1⟩]
theorem wU5 : All (ub8 47 0 uH3 vT9) xo6 := ⟨⟨rfl, rfl, fun _ _ => rfl, fun _ _ => rfl⟩, ⟨⟨rfl, rfl, fun _ _ => rfl, fun _ _ => rfl⟩, trivial⟩⟩
def uK2 : Code := Tryz.f162.body.getD .skip
def xe5 (run' : vn7 → Option vG6) : Con E := ⟨162, ((Int × (Int × (ByteArray × ((List ua0) × Unit)))) × ((List ByteArray) × ((List ua0) × Unit))), Unit, (RwL.cons (Rw.agg (RwL.cons (Rd.int .i64).w (RwL.cons (Rd.int .i64).w (RwL.cons Rd.str.w (RwL.cons (Rw.sl 25) RwL.nil))))) (RwL.cons (Rw.sl 9) (RwL.cons (Rw.sl 25) RwL.nil))), RdBL.nil, 0, vG6, fun a b => run' (.start a.1.1 a.1.2.1 a.1.2.2.1 a.1.2.2.2.1 a.2.1 a.2.2.1), up2.av, up2.bx⟩
theorem wO4 {run' : vn7 → Option vG6} (ih : ∀ pt r, run' pt = some r → Good E Tryz.f162 uK2 0 (up2.av r) (up2.bx r) (uH3 pt) (vT9 pt)) : (xe5 run').Ok := fun a b r h => ub4 (fn := Tryz.f162) (code := uK2) E_ok (by kernel_rfl) (by kernel_rfl) (by kernel_rfl) (Nat.le_of_ble_eq_true rfl) (ih (.start a.1.1 a.1.2.1 a.1.2.2.1 a.1.2.2.2.1 a.2.1 a.2.2.1) r h)
def wu1 (run' : vn7 → Option vG6) : Spec E.S := (Con.add (xe5 run') (Con.add w92 ub1))
theorem wa9 {run' : vn7 → Option vG6} (ih : ∀ pt r, run' pt = some r → Good E Tryz.f162 uK2 0 (up2.av r) (up2.bx r) (uH3 pt) (vT9 pt)) : ub0 E (wu1 run') := (Con.add_ok (wO4 ih) (Con.add_ok vJ7 ua7))
theorem xD2 : ∀ pt r, uf3 pt = some r → Good E Tryz.f162 uK2 0 (up2.av r) (up2.bx r) (uH3 pt) (vT9 pt) := by
 refine uf3.partial_correctness (fun pt r => Good E Tryz.f162 uK2 0 (up2.av r) (up2.bx r) (uH3 pt) (vT9 pt)) ?_
 intro run' ih pt r hr
 cases pt <;> exact ua9 (spec := (wu1 run')) (wr := (mkWr [] [])) (l := xo6) (z := 47) (p := up2) E_ok wU5.mem rfl (wa9 ih) ih (Eq.trans (by kernel_rfl) hr)
def w58 : Con E := ⟨162, _, _, (.cons (Rw.agg (.cons (Rd.int .i64).w (.cons (Rd.int .i64).w (.cons Rd.str.w (.cons (Rw.sl 25) .nil))))) (.cons (Rw.sl 9) (.cons (Rw.sl 25) .nil))), .nil, 0, vG6, fun a b => uf3 (.start a.1.1 a.1.2.1 a.1.2.2.1 a.1.2.2.2.1 a.2.1 a.2.2.1), up2.av, up2.bx⟩
theorem wI4 : w58.Ok := fun a b r h => ub4 (fn := Tryz.f162) (code := uK2) E_ok (by kernel_rfl) (by kernel_rfl) (by kernel_rfl) (Nat.le_of_ble_eq_true rfl) (xD2 (.start a.1.1 a.1.2.1 a.1.2.2.1 a.1.2.2.2.1 a.2.1 a.2.2.1) r h)
inductive wE1 where
 | start (s0_0 : (List ua2)) (s0_1 : (List ByteArray)) (t1_0 : Int) (t1_1 : Int) (t1_2 : ByteArray) (t1_3 : (List ua0))
 | p500 (s26 : (List ua1)) (s27 : Int) (s28 : Int) (C0 : Int) (C1 : Int) (C2 : ByteArray) (C3 : (List ua0)) (D0 : ByteArray) (D1 : (List ByteArray)) (D2 : (List ua1)) (B2 : (List data_variant))
 | p512820 (s26 : (List ua1)) (s27 : Int) (s28 : Int) (s36 : (List ua6)) (s37 : Int) (s38 : Int) (C0 : Int) (C1 : Int) (C2 : ByteArray) (C3 : (List ua0)) (D0 : ByteArray) (D1 : (List ByteArray)) (D2 : (List ua1)) (B2 : (List data_variant)) (B3 : ByteArray) (B4 : (List ua6))
def vd7 : wE1 → List Bool
 | .start .. => []
 | .p500 .. => [false, false, true, false, true, true, true, true]
 | .p512820 .. => [false, false, true, false, true, true, false, false, true, true, false, false, true, false, true, true, true, true]
def xk1 : wE1 → St E.S
 | .start s0_0 s0_1 t1_0 t1_1 t1_2 t1_3 => st0 64 [.agg [.sl 103 s0_0 false, .sl 9 s0_1 false], .agg [.v (.int .i64 t1_0), .v (.int .i64 t1_1), .v (.string t1_2), .sl 25 t1_3 false]] []
 | .p500 s26 s27 s28 C0 C1 C2 C3 D0 D1 D2 B2 => mkSt 64 [3, 5, 7, 26, 27, 28] [.bp 0 0, .bp 1 0, .rw 2, .sl 56 s26 false, .v (.int .i64 s27), .v (.int .i64 s28)] [.var 25 [.v (.int .i64 C0), .v (.int .i64 C1), .v (.string C2), .sl 25 C3 false], .var 103 [.v (.string D0), .sl 9 D1 false, .sl 56 D2 false], .row 125 B2 false]
 | .p512820 s26 s27 s28 s36 s37 s38 C0 C1 C2 C3 D0 D1 D2 B2 B3 B4 => mkSt 64 [3, 5, 7, 10, 26, 27, 28, 36, 37, 38] [.bp 0 0, .bp 1 0, .rw 2, .bp 3 0, .sl 56 s26 false, .v (.int .i64 s27), .v (.int .i64 s28), .sl 58 s36 false, .v (.int .i64 s37), .v (.int .i64 s38)] [.var 25 [.v (.int .i64 C0), .v (.int .i64 C1), .v (.string C2), .sl 25 C3 false], .var 103 [.v (.string D0), .sl 9 D1 false, .sl 56 D2 false], .row 125 B2 false, .var 125 [.v (.string B3), .rw 4, .nl], .row 58 B4 false]
abbrev xX0 : Type := ((Unit × Unit) × ((List data_variant) × Unit))
def uR2 : Res E (Unit × Unit) ((List data_variant) × Unit) := { rows := [(0, 125)], flat := [], keep := 0, rl := (.cons (Rd.rw 0) .nil), rb := (.cons (.row 125 false) .nil) }
def uh1 : wE1 → Option xX0
 | .start s0_0 s0_1 t1_0 t1_1 t1_2 t1_3 =>
  (uJ1 (.start s0_0 s0_1 t1_2)) >>= fun t1 =>
  if (!t1.1.2.1) = true then
   some (((), ()), (([(⟨(⟨#[70, 97, 108, 115, 101]⟩ : ByteArray), [], none⟩ : data_variant), (⟨(⟨#[84, 114, 117, 101]⟩ : ByteArray), [], none⟩ : data_variant)] : List data_variant), ()))
  else
   uh1 (.p500 t1.1.1.2.2.1 (List.length t1.1.1.2.2.1 : Int) (0 : Int) t1_0 t1_1 t1_2 t1_3 t1.1.1.1 t1.1.1.2.1 t1.1.1.2.2.1 ([] : List data_variant))
 | .p500 s26 s27 s28 C0 C1 C2 C3 D0 D1 D2 B2 =>
  if (decide (s28 < s27)) = true then
   (idx s26 s28) >>= fun t1 =>
   uh1 (.p512820 s26 s27 s28 t1.Fields (List.length t1.Fields : Int) (0 : Int) C0 C1 C2 C3 D0 D1 D2 B2 t1.Name ([] : List ua6))
  else
   some (((), ()), (B2, ()))
 | .p512820 s26 s27 s28 s36 s37 s38 C0 C1 C2 C3 D0 D1 D2 B2 B3 B4 =>
  if (decide (s38 < s37)) = true then
   (idx s36 s38) >>= fun t1 =>
   (uf3 (.start t1.Type_.Kind t1.Type_.Value t1.Type_.Name t1.Type_.Parts D1 C3)) >>= fun t2 =>
   if (fits (List.length B4) (List.length ([(⟨t1.Name, (⟨t2.1.1.1, t2.1.1.2.1, t2.1.1.2.2.1, t2.1.1.2.2.2.1⟩ : ua0)⟩ : ua6)] : List ua6)) 72) = true then
    uh1 (.p512820 s26 s27 s28 s36 s37 (IntKind.wrap .i64 (s38 + (1 : Int))) C0 C1 C2 C3 D0 D1 D2 B2 B3 (B4 ++ ([(⟨t1.Name, (⟨t2.1.1.1, t2.1.1.2.1, t2.1.1.2.2.1, t2.1.1.2.2.2.1⟩ : ua0)⟩ : ua6)] : List ua6)))
   else none
  else
   if (fits (List.length B2) (List.length ([(⟨B3, B4, none⟩ : data_variant)] : List data_variant)) 64) = true then
    uh1 (.p500 s26 s27 (IntKind.wrap .i64 (s28 + (1 : Int))) C0 C1 C2 C3 D0 D1 D2 (B2 ++ ([(⟨B3, B4, none⟩ : data_variant)] : List data_variant)))
   else none
 partial_fixpoint
def xo7 : List (Plc E wE1) := [⟨500, [false, false, true, false, true, true, true, true], { slots := [3, 5, 7, 26, 27, 28], rows := [(7, 125)], flat := [], keep := 0 }, _, _, (.cons (Rd.bp 0 0) (.cons (Rd.bp 1 0) (.cons (Rd.rw 2) (.cons (Rd.sl 56 false) (.cons (Rd.int .i64) (.cons (Rd.int .i64) .nil)))))), (.cons (.var 25 (.cons (Rd.int .i64) (.cons (Rd.int .i64) (.cons Rd.str (.cons (Rd.sl 25 false) .nil))))) (.cons (.var 103 (.cons Rd.str (.cons (Rd.sl 9 false) (.cons (Rd.sl 56 false) .nil)))) (.cons (.row 125 false) .nil))), fun a b => .p500 a.2.2.2.1 a.2.2.2.2.1 a.2.2.2.2.2.1 b.1.1 b.1.2.1 b.1.2.2.1 b.1.2.2.2.1 b.2.1.1 b.2.1.2.1 b.2.1.2.2.1 b.2.2.1⟩,
 ⟨512820, [false, false, true, false, true, true, false, false, true, true, false, false, true, false, true, true, true, true], { slots := [3, 5, 7, 10, 26, 27, 28, 36, 37, 38], rows := [], flat := [], keep := 0, up := [(true, 10, 1, 58)] }, _, _, (.cons (Rd.bp 0 0) (.cons (Rd.bp 1 0) (.cons (Rd.rw 2) (.cons (Rd.bp 3 0) (.cons (Rd.sl 56 false) (.cons (Rd.int .i64) (.cons (Rd.int .i64) (.cons (Rd.sl 58 false) (.cons (Rd.int .i64) (.cons (Rd.int .i64) .nil)))))))))), (.cons (.var 25 (.cons (Rd.int .i64) (.cons (Rd.int .i64) (.cons Rd.str (.cons (Rd.sl 25 false) .nil))))) (.cons (.var 103 (.cons Rd.str (.cons (Rd.sl 9 false) (.cons (Rd.sl 56 false) .nil)))) (.cons (.row 125 false) (.cons (.var 125 (.cons Rd.str (.cons (Rd.rw 4) (.cons Rd.nl .nil)))) (.cons (.row 58 false) .nil))))), fun a b => .p512820 a.2.2.2.2.1 a.2.2.2.2.2.1 a.2.2.2.2.2.2.1 a.2.2.2.2.2.2.2.1 a.2.2.2.2.2.2.2.2.1 a.2.2.2.2.2.2.2.2.2.1 b.1.1 b.1.2.1 b.1.2.2.1 b.1.2.2.2.1 b.2.1.1 b.2.1.2.1 b.2.1.2.2.1 b.2.2.1 b.2.2.2.1.1 b.2.2.2.2.1⟩]
theorem wU6 : All (ub8 64 0 vd7 xk1) xo7 := ⟨⟨rfl, rfl, fun _ _ => rfl, fun _ _ => rfl⟩, ⟨⟨rfl, rfl, fun _ _ => rfl, fun _ _ => rfl⟩, trivial⟩⟩
def vy5 : Code := Tryz.f142.body.getD .skip
def wu2 : Spec E.S := (Con.add w58 (Con.add vX9 ub1))
theorem wb0 : ub0 E wu2 := (Con.add_ok wI4 (Con.add_ok vq9 ua7))
theorem xD3 : ∀ pt r, uh1 pt = some r → Good E Tryz.f142 vy5 0 (uR2.av r) (uR2.bx r) (vd7 pt) (xk1 pt) := by
 refine uh1.partial_correctness (fun pt r => Good E Tryz.f142 vy5 0 (uR2.av r) (uR2.bx r) (vd7 pt) (xk1 pt)) ?_
 intro run' ih pt r hr
 cases pt <;> exact ua9 (spec := wu2) (wr := (mkWr [4, 7, 24, 58, 61, 63] [(64103, [10])])) (l := xo7) (z := 64) (p := uR2) E_ok wU6.mem rfl wb0 ih (Eq.trans (by kernel_rfl) hr)
def w59 : Con E := ⟨142, _, _, (.cons (Rw.agg (.cons (Rw.sl 103) (.cons (Rw.sl 9) .nil))) (.cons (Rw.agg (.cons (Rd.int .i64).w (.cons (Rd.int .i64).w (.cons Rd.str.w (.cons (Rw.sl 25) .nil))))) .nil)), .nil, 0, xX0, fun a b => uh1 (.start a.1.1 a.1.2.1 a.2.1.1 a.2.1.2.1 a.2.1.2.2.1 a.2.1.2.2.2.1), uR2.av, uR2.bx⟩
theorem wI5 : w59.Ok := fun a b r h => ub4 (fn := Tryz.f142) (code := vy5) E_ok (by kernel_rfl) (by kernel_rfl) (by kernel_rfl) (Nat.le_of_ble_eq_true rfl) (xD3 (.start a.1.1 a.1.2.1 a.2.1.1 a.2.1.2.1 a.2.1.2.2.1 a.2.1.2.2.2.1) r h)
inductive vn8 where
 | start (s0_0 : (List ua2)) (s0_1 : (List ByteArray)) (t1_0 : Int) (t1_1 : Int) (t1_2 : ByteArray) (t1_3 : (List ua0)) (deep3 : Int) (B0 : Int)
 | p31 (deep3 : Int) (few11 : Int) (B0 : Int) (D0 : (List ua2)) (D1 : (List ByteArray)) (G0 : Int) (G1 : Int) (G2 : ByteArray) (G3 : (List ua0))
 | p8180 (deep3 : Int) (s76 : Int) (s77 : Int) (B0 : Int) (D0 : (List ua2)) (D1 : (List ByteArray)) (B2 : Int) (B3 : (List data_variant))
 | p4188572 (deep3 : Int) (v15 : Int) (s76 : Int) (s77 : Int) (s89 : (List ua6)) (s90 : Int) (s91 : Int) (B0 : Int) (D0 : (List ua2)) (D1 : (List ByteArray)) (B2 : Int) (B3 : ((List data_variant) × Nat)) (B4 : (List (Option ua4)))
def uH4 : vn8 → List Bool
 | .start .. => []
 | .p31 .. => [true, true, true, true]
 | .p8180 .. => [false, false, true, false, true, true, true, true, true, true, true, true]
 | .p4188572 .. => [false, false, true, true, true, false, false, true, true, false, false, true, false, true, true, true, true, true, true, true, true]
def vU0 : vn8 → St E.S
 | .start s0_0 s0_1 t1_0 t1_1 t1_2 t1_3 deep3 B0 => st0 121 [.agg [.sl 103 s0_0 false, .sl 9 s0_1 false], .agg [.v (.int .i64 t1_0), .v (.int .i64 t1_1), .v (.string t1_2), .sl 25 t1_3 false], .bp 0 0, .v (.int .i64 deep3)] [.var 3 [.v (.int .i64 B0)]]
 | .p31 deep3 few11 B0 D0 D1 G0 G1 G2 G3 => mkSt 121 [2, 3, 4, 5, 11] [.bp 0 0, .v (.int .i64 deep3), .bp 1 0, .bp 2 0, .v (.int .i64 few11)] [.var 3 [.v (.int .i64 B0)], .var 107 [.sl 103 D0 false, .sl 9 D1 false], .var 25 [.v (.int .i64 G0), .v (.int .i64 G1), .v (.string G2), .sl 25 G3 false]]
 | .p8180 deep3 s76 s77 B0 D0 D1 B2 B3 => mkSt 121 [2, 3, 4, 13, 76, 77] [.bp 0 0, .v (.int .i64 deep3), .bp 1 0, .bp 2 0, .v (.int .i64 s76), .v (.int .i64 s77)] [.var 3 [.v (.int .i64 B0)], .var 107 [.sl 103 D0 false, .sl 9 D1 false], .var 128 [.v (.int .i64 B2), .rw 3], .row 125 B3 false]
 | .p4188572 deep3 v15 s76 s77 s89 s90 s91 B0 D0 D1 B2 B3 B4 => mkSt 121 [2, 3, 4, 13, 15, 76, 77, 89, 90, 91] [.bp 0 0, .v (.int .i64 deep3), .bp 1 0, .bp 2 0, .rp 3 125 v15 0, .v (.int .i64 s76), .v (.int .i64 s77), .sl 58 s89 false, .v (.int .i64 s90), .v (.int .i64 s91)] [.var 3 [.v (.int .i64 B0)], .var 107 [.sl 103 D0 false, .sl 9 D1 false], .var 128 [.v (.int .i64 B2), .rw 3], .lk 125 B3.1 B3.2 2 (.rw 4), .row 105 B4 false]
abbrev vG7 : Type := (((Option ua4) × (Int × Unit)) × ((Int × Unit) × Unit))
def up3 : Res E ((Option ua4) × (Int × Unit)) ((Int × Unit) × Unit) := { rows := [], flat := [], keep := 1, done := [0, 1], ptrs := [(0, 128)], rl := (.cons (Rd.op 128) (.cons (Rd.int .i64) .nil)), rb := (.cons (.var 3 (.cons (Rd.int .i64) .nil)) .nil) }
def uc9 : vn8 → Option vG7
 | .start s0_0 s0_1 t1_0 t1_1 t1_2 t1_3 deep3 B0 =>
  (uJ0 (.start t1_0 t1_1 t1_2 t1_3)) >>= fun t1 =>
  if (t1.1.1 != (0 : Int)) = true then
   some ((none, (t1.1.1, ())), ((B0, ()), ()))
  else
   if (decide ((IntKind.wrap .i64 (B0 + (1 : Int))) ≤ (200 : Int))) = true then
    (uc7 (.start (decide (deep3 ≤ (40 : Int))) (8 : Int))) >>= fun t2 =>
    uc9 (.p31 deep3 t2.1.1 (IntKind.wrap .i64 (B0 + (1 : Int))) s0_0 s0_1 t1_0 t1_1 t1_2 t1_3)
   else
    (uc7 (.start false (8 : Int))) >>= fun t3 =>
    uc9 (.p31 deep3 t3.1.1 (IntKind.wrap .i64 (B0 + (1 : Int))) s0_0 s0_1 t1_0 t1_1 t1_2 t1_3)
 | .p31 deep3 few11 B0 D0 D1 G0 G1 G2 G3 =>
  if (G0 == (2 : Int)) = true then
   some ((none, ((26 : Int), ())), ((B0, ()), ()))
  else
   if (seq G2 (⟨#[66, 105, 116]⟩ : ByteArray)) = true then
    (idx G3 (0 : Int)) >>= fun t1 =>
    (uc7 (.start (t1.Kind == (2 : Int)) (26 : Int))) >>= fun t2 =>
    (uk8 (.start t1.Value (1 : Int) (16 : Int))) >>= fun t3 =>
    (uc7 (.start t3.1.1 (25 : Int))) >>= fun t4 =>
    (ud1 (.start ([t2.1.1, t4.1.1, few11] : List Int))) >>= fun t5 =>
    some ((some (⟨t1.Value, none⟩ : ua4), (t5.1.1, ())), ((B0, ()), ()))
   else
    if (few11 != (0 : Int)) = true then
     some ((none, (few11, ())), ((B0, ()), ()))
    else
     (uh1 (.start D0 D1 G0 G1 G2 G3)) >>= fun t6 =>
     uc9 (.p8180 deep3 (List.length t6.2.1 : Int) (0 : Int) B0 D0 D1 (0 : Int) t6.2.1)
 | .p8180 deep3 s76 s77 B0 D0 D1 B2 B3 =>
  if (decide (s77 < s76)) = true then
   if (decide ((0 : Int) ≤ s77) && decide (s77 < (List.length B3 : Int))) = true then
    (idx B3 s77) >>= fun t1 =>
    if (Option.isNone t1.parts) = true then
     (if s77 = (Int.toNat s77 : Int) then B3[Int.toNat s77]? else none) >>= fun t2 =>
     uc9 (.p4188572 deep3 s77 s76 s77 t2.fields (List.length t2.fields : Int) (0 : Int) B0 D0 D1 B2 (B3, Int.toNat s77) ([] : List (Option ua4)))
    else none
   else none
  else
   some ((some (⟨B2, (some B3)⟩ : ua4), ((0 : Int), ())), ((B0, ()), ()))
 | .p4188572 deep3 v15 s76 s77 s89 s90 s91 B0 D0 D1 B2 B3 B4 =>
  if (decide (s91 < s90)) = true then
   (idx s89 s91) >>= fun t1 =>
   (uc9 (.start D0 D1 t1.Type_.Kind t1.Type_.Value t1.Type_.Name t1.Type_.Parts (IntKind.wrap .i64 (deep3 + (1 : Int))) B0)) >>= fun t2 =>
   if (t2.1.2.1 != (0 : Int)) = true then
    some ((none, (t2.1.2.1, ())), ((t2.2.1.1, ()), ()))
   else
    (if v15 = (B3.2 : Int) then B3.1[B3.2]? else none) >>= fun t3 =>
    if (fits (List.length B4) (List.length ([t2.1.1] : List (Option ua4))) 8) = true then
     if v15 = (B3.2 : Int) then
      uc9 (.p4188572 deep3 v15 s76 s77 s89 s90 (IntKind.wrap .i64 (s91 + (1 : Int))) t2.2.1.1 D0 D1 B2 (B3.1, B3.2) (B4 ++ ([t2.1.1] : List (Option ua4))))
     else none
    else none
  else
   uc9 (.p8180 deep3 s76 (IntKind.wrap .i64 (s77 + (1 : Int))) B0 D0 D1 B2 (List.modify B3.1 B3.2 (fun y => (⟨y.name, y.fields, (some B4)⟩ : data_variant))))
 partial_fixpoint
def xo8 : List (Plc E vn8) := [⟨31, [true, true, true, true], { slots := [2, 3, 4, 5, 11], rows := [], flat := [], keep := 1 }, _, _, (.cons (Rd.bp 0 0) (.cons (Rd.int .i64) (.cons (Rd.bp 1 0) (.cons (Rd.bp 2 0) (.cons (Rd.int .i64) .nil))))), (.cons (.var 3 (.cons (Rd.int .i64) .nil)) (.cons (.var 107 (.cons (Rd.sl 103 false) (.cons (Rd.sl 9 false) .nil))) (.cons (.var 25 (.cons (Rd.int .i64) (.cons (Rd.int .i64) (.cons Rd.str (.cons (Rd.sl 25 false) .nil))))) .nil))), fun a b => .p31 a.2.1 a.2.2.2.2.1 b.1.1 b.2.1.1 b.2.1.2.1 b.2.2.1.1 b.2.2.1.2.1 b.2.2.1.2.2.1 b.2.2.1.2.2.2.1⟩,
 ⟨8180, [false, false, true, false, true, true, true, true, true, true, true, true], { slots := [2, 3, 4, 13, 76, 77], rows := [], flat := [], keep := 1, close := [13] }, _, _, (.cons (Rd.bp 0 0) (.cons (Rd.int .i64) (.cons (Rd.bp 1 0) (.cons (Rd.bp 2 0) (.cons (Rd.int .i64) (.cons (Rd.int .i64) .nil)))))), (.cons (.var 3 (.cons (Rd.int .i64) .nil)) (.cons (.var 107 (.cons (Rd.sl 103 false) (.cons (Rd.sl 9 false) .nil))) (.cons (.var 128 (.cons (Rd.int .i64) (.cons (Rd.rw 3) .nil))) (.cons (.row 125 false) .nil)))), fun a b => .p8180 a.2.1 a.2.2.2.2.1 a.2.2.2.2.2.1 b.1.1 b.2.1.1 b.2.1.2.1 b.2.2.1.1 b.2.2.2.1⟩,
 ⟨4188572, [false, false, true, true, true, false, false, true, true, false, false, true, false, true, true, true, true, true, true, true, true], { slots := [2, 3, 4, 13, 15, 76, 77, 89, 90, 91], rows := [], flat := [], keep := 1 }, _, _, (.cons (Rd.bp 0 0) (.cons (Rd.int .i64) (.cons (Rd.bp 1 0) (.cons (Rd.bp 2 0) (.cons (Rd.rp 3 125 0) (.cons (Rd.int .i64) (.cons (Rd.int .i64) (.cons (Rd.sl 58 false) (.cons (Rd.int .i64) (.cons (Rd.int .i64) .nil)))))))))), (.cons (.var 3 (.cons (Rd.int .i64) .nil)) (.cons (.var 107 (.cons (Rd.sl 103 false) (.cons (Rd.sl 9 false) .nil))) (.cons (.var 128 (.cons (Rd.int .i64) (.cons (Rd.rw 3) .nil))) (.cons (RdB.lk 125 2 4) (.cons (.row 105 false) .nil))))), fun a b => .p4188572 a.2.1 a.2.2.2.2.1 a.2.2.2.2.2.1 a.2.2.2.2.2.2.1 a.2.2.2.2.2.2.2.1 a.2.2.2.2.2.2.2.2.1 a.2.2.2.2.2.2.2.2.2.1 b.1.1 b.2.1.1 b.2.1.2.1 b.2.2.1.1 b.2.2.2.1 b.2.2.2.2.1⟩]
theorem wU7 : All (ub8 121 1 uH4 vU0) xo8 := ⟨⟨rfl, rfl, fun _ _ => rfl, fun _ _ => rfl⟩, ⟨⟨rfl, rfl, fun _ _ => rfl, fun _ _ => rfl⟩, ⟨⟨rfl, rfl, fun _ _ => rfl, fun _ _ => rfl⟩, trivial⟩⟩⟩
def uK3 : Code := Tryz.f106.body.getD .skip
def xe6 (run' : vn8 → Option vG7) : Con E := ⟨106, (((List ua2) × ((List ByteArray) × Unit)) × ((Int × (Int × (ByteArray × ((List ua0) × Unit)))) × (Unit × (Int × Unit)))), ((Int × Unit) × Unit), (RwL.cons (Rw.agg (RwL.cons (Rw.sl 103) (RwL.cons (Rw.sl 9) RwL.nil))) (RwL.cons (Rw.agg (RwL.cons (Rd.int .i64).w (RwL.cons (Rd.int .i64).w (RwL.cons Rd.str.w (RwL.cons (Rw.sl 25) RwL.nil))))) (RwL.cons (Rd.bp 0 0).w (RwL.cons (Rd.int .i64).w RwL.nil)))), (RdBL.cons (RdB.var 3 (RdL.cons (Rd.int .i64) RdL.nil)) RdBL.nil), 1, vG7, fun a b => run' (.start a.1.1 a.1.2.1 a.2.1.1 a.2.1.2.1 a.2.1.2.2.1 a.2.1.2.2.2.1 a.2.2.2.1 b.1.1), up3.av, up3.bx⟩
theorem wO5 {run' : vn8 → Option vG7} (ih : ∀ pt r, run' pt = some r → Good E Tryz.f106 uK3 1 (up3.av r) (up3.bx r) (uH4 pt) (vU0 pt)) : (xe6 run').Ok := fun a b r h => ub4 (fn := Tryz.f106) (code := uK3) E_ok (by kernel_rfl) (by kernel_rfl) (by kernel_rfl) (Nat.le_of_ble_eq_true rfl) (ih (.start a.1.1 a.1.2.1 a.2.1.1 a.2.1.2.1 a.2.1.2.2.1 a.2.1.2.2.2.1 a.2.2.2.1 b.1.1) r h)
def wu3 (run' : vn8 → Option vG7) : Spec E.S := (Con.add (xe6 run') (Con.add w59 (Con.add uG1 (Con.add uU8 (Con.add uU9 (Con.add vX8 ub1))))))
theorem wb1 {run' : vn8 → Option vG7} (ih : ∀ pt r, run' pt = some r → Good E Tryz.f106 uK3 1 (up3.av r) (up3.bx r) (uH4 pt) (vU0 pt)) : ub0 E (wu3 run') := (Con.add_ok (wO5 ih) (Con.add_ok wI5 (Con.add_ok uo4 (Con.add_ok ur7 (Con.add_ok ur8 (Con.add_ok vq8 ua7))))))
theorem xD4 : ∀ pt r, uc9 pt = some r → Good E Tryz.f106 uK3 1 (up3.av r) (up3.bx r) (uH4 pt) (vU0 pt) := by
 refine uc9.partial_correctness (fun pt r => Good E Tryz.f106 uK3 1 (up3.av r) (up3.bx r) (uH4 pt) (vU0 pt)) ?_
 intro run' ih pt r hr
 cases pt <;> exact ua9 (spec := (wu3 run')) (wr := (mkWr [8, 13, 15, 17, 50, 51, 52, 69, 70, 71, 72, 73, 74, 75, 80, 81, 82, 83, 85, 86, 87, 88, 89, 93, 94, 97, 98, 108, 109, 110, 111, 112, 115, 116, 117, 120] [] [] [(85, 2)])) (l := xo8) (z := 121) (p := up3) E_ok wU7.mem rfl (wb1 ih) ih (Eq.trans (by kernel_rfl) hr)
def w60 : Con E := ⟨106, _, _, (.cons (Rw.agg (.cons (Rw.sl 103) (.cons (Rw.sl 9) .nil))) (.cons (Rw.agg (.cons (Rd.int .i64).w (.cons (Rd.int .i64).w (.cons Rd.str.w (.cons (Rw.sl 25) .nil))))) (.cons (Rd.bp 0 0).w (.cons (Rd.int .i64).w .nil)))), (.cons (.var 3 (.cons (Rd.int .i64) .nil)) .nil), 1, vG7, fun a b => uc9 (.start a.1.1 a.1.2.1 a.2.1.1 a.2.1.2.1 a.2.1.2.2.1 a.2.1.2.2.2.1 a.2.2.2.1 b.1.1), up3.av, up3.bx⟩
theorem wI6 : w60.Ok := fun a b r h => ub4 (fn := Tryz.f106) (code := uK3) E_ok (by kernel_rfl) (by kernel_rfl) (by kernel_rfl) (Nat.le_of_ble_eq_true rfl) (xD4 (.start a.1.1 a.1.2.1 a.2.1.1 a.2.1.2.1 a.2.1.2.2.1 a.2.1.2.2.2.1 a.2.2.2.1 b.1.1) r h)
inductive wE2 where
 | start (x0 : (Option ua4))
def vN2 : wE2 → List Bool
 | .start .. => []
def xR3 : wE2 → St E.S
 | .start x0 => st0 8 [.op 128 x0] []
abbrev xX1 : Type := ((Bool × Unit) × Unit)
def vg9 : Res E (Bool × Unit) Unit := { rows := [], flat := [], keep := 0, done := [0], rl := (.cons Rd.bool .nil), rb := .nil }
def un8 : wE2 → Option xX1
 | .start x0 =>
  x0 >>= fun t1 =>
  (x58 t1.constructors) >>= fun t2 =>
  some ((t2, ()), ())
def xo9 : List (Plc E wE2) := []
theorem wU8 : All (ub8 8 0 vN2 xR3) xo9 := trivial
def wl6 : Code := Tryz.f88.body.getD .skip
def wu4 : Spec E.S := ub1
theorem wb2 : ub0 E wu4 := ua7
theorem xD5 : ∀ pt r, un8 pt = some r → Good E Tryz.f88 wl6 0 (vg9.av r) (vg9.bx r) (vN2 pt) (xR3 pt) := by
 intro pt r hr
 cases pt <;> exact ua9 (spec := wu4) (wr := (mkWr [] [])) (l := xo9) (z := 8) (p := vg9) (run' := fun _ => none) E_ok wU8.mem rfl wb2 (fun _ _ h => by cases h) (Eq.trans (by kernel_rfl) hr)
def uB9 : Con E := ⟨88, _, _, (.cons (Rd.op 128).w .nil), .nil, 0, xX1, fun a b => un8 (.start a.1), vg9.av, vg9.bx⟩
theorem um5 : uB9.Ok := fun a b r h => ub4 (fn := Tryz.f88) (code := wl6) E_ok (by kernel_rfl) (by kernel_rfl) (by kernel_rfl) (Nat.le_of_ble_eq_true rfl) (xD5 (.start a.1) r h)
inductive wE3 where
 | start (x0 : Int)
 | p7 (x0 : Int) (n2 : Int)
 | p15 (x0 : Int) (n2 : Int)
 | p31 (x0 : Int) (n2 : Int)
def vd8 : wE3 → List Bool
 | .start .. => []
 | .p7 .. => [true, true]
 | .p15 .. => [true, true, true]
 | .p31 .. => [true, true, true, true]
def xk2 : wE3 → St E.S
 | .start x0 => st0 25 [.v (.int .u64 x0)] []
 | .p7 x0 n2 => mkSt 25 [0, 2] [.v (.int .u64 x0), .v (.int .i64 n2)] []
 | .p15 x0 n2 => mkSt 25 [0, 2] [.v (.int .u64 x0), .v (.int .i64 n2)] []
 | .p31 x0 n2 => mkSt 25 [0, 2] [.v (.int .u64 x0), .v (.int .i64 n2)] []
abbrev xX2 : Type := ((Int × Unit) × Unit)
def uR3 : Res E (Int × Unit) Unit := { rows := [], flat := [], keep := 0, done := [0], rl := (.cons (Rd.int .i64) .nil), rb := .nil }
def uk2 : wE3 → Option xX2
 | .start x0 =>
  if (decide (x0 ≥ (4294967296 : Int))) = true then
   if (decide ((0 : Int) ≤ (32 : Int))) = true then
    uk2 (.p7 (shr .u64 x0 (32 : Int)) (32 : Int))
   else none
  else
   uk2 (.p7 x0 (0 : Int))
 | .p7 x0 n2 =>
  if (decide (x0 ≥ (65536 : Int))) = true then
   if (decide ((0 : Int) ≤ (16 : Int))) = true then
    uk2 (.p15 (shr .u64 x0 (16 : Int)) (IntKind.wrap .i64 (n2 + (16 : Int))))
   else none
  else
   uk2 (.p15 x0 n2)
 | .p15 x0 n2 =>
  if (decide (x0 ≥ (256 : Int))) = true then
   if (decide ((0 : Int) ≤ (8 : Int))) = true then
    uk2 (.p31 (shr .u64 x0 (8 : Int)) (IntKind.wrap .i64 (n2 + (8 : Int))))
   else none
  else
   uk2 (.p31 x0 n2)
 | .p31 x0 n2 =>
  (sidx (⟨#[0, 1, 2, 2, 3, 3, 3, 3, 4, 4, 4, 4, 4, 4, 4, 4, 5, 5, 5, 5, 5, 5, 5, 5, 5, 5, 5, 5, 5, 5, 5, 5, 6, 6, 6, 6, 6, 6, 6, 6, 6, 6, 6, 6, 6, 6, 6, 6, 6, 6, 6, 6, 6, 6, 6, 6, 6, 6, 6, 6, 6, 6, 6, 6, 7, 7, 7, 7, 7, 7, 7, 7, 7, 7, 7, 7, 7, 7, 7, 7, 7, 7, 7, 7, 7, 7, 7, 7, 7, 7, 7, 7, 7, 7, 7, 7, 7, 7, 7, 7, 7, 7, 7, 7, 7, 7, 7, 7, 7, 7, 7, 7, 7, 7, 7, 7, 7, 7, 7, 7, 7, 7, 7, 7, 7, 7, 7, 7, 8, 8, 8, 8, 8, 8, 8, 8, 8, 8, 8, 8, 8, 8, 8, 8, 8, 8, 8, 8, 8, 8, 8, 8, 8, 8, 8, 8, 8, 8, 8, 8, 8, 8, 8, 8, 8, 8, 8, 8, 8, 8, 8, 8, 8, 8, 8, 8, 8, 8, 8, 8, 8, 8, 8, 8, 8, 8, 8, 8, 8, 8, 8, 8, 8, 8, 8, 8, 8, 8, 8, 8, 8, 8, 8, 8, 8, 8, 8, 8, 8, 8, 8, 8, 8, 8, 8, 8, 8, 8, 8, 8, 8, 8, 8, 8, 8, 8, 8, 8, 8, 8, 8, 8, 8, 8, 8, 8, 8, 8, 8, 8, 8, 8, 8, 8, 8, 8, 8, 8, 8, 8, 8, 8, 8, 8, 8, 8]⟩ : ByteArray) (IntKind.wrap .u8 x0)) >>= fun t1 =>
  some ((IntKind.wrap .i64 (n2 + (IntKind.wrap .i64 t1)), ()), ())
 partial_fixpoint
def xp0 : List (Plc E wE3) := [⟨7, [true, true], { slots := [0, 2], rows := [], flat := [], keep := 0 }, _, _, (.cons (Rd.int .u64) (.cons (Rd.int .i64) .nil)), .nil, fun a b => .p7 a.1 a.2.1⟩,
 ⟨15, [true, true, true], { slots := [0, 2], rows := [], flat := [], keep := 0 }, _, _, (.cons (Rd.int .u64) (.cons (Rd.int .i64) .nil)), .nil, fun a b => .p15 a.1 a.2.1⟩,
 ⟨31, [true, true, true, true], { slots := [0, 2], rows := [], flat := [], keep := 0 }, _, _, (.cons (Rd.int .u64) (.cons (Rd.int .i64) .nil)), .nil, fun a b => .p31 a.1 a.2.1⟩]
theorem wU9 : All (ub8 25 0 vd8 xk2) xp0 := ⟨⟨rfl, rfl, fun _ _ => rfl, fun _ _ => rfl⟩, ⟨⟨rfl, rfl, fun _ _ => rfl, fun _ _ => rfl⟩, ⟨⟨rfl, rfl, fun _ _ => rfl, fun _ _ => rfl⟩, trivial⟩⟩⟩
def vy6 : Code := Tryz.f146.body.getD .skip
def wu5 : Spec E.S := ub1
theorem wb3 : ub0 E wu5 := ua7
theorem xD6 : ∀ pt r, uk2 pt = some r → Good E Tryz.f146 vy6 0 (uR3.av r) (uR3.bx r) (vd8 pt) (xk2 pt) := by
 refine uk2.partial_correctness (fun pt r => Good E Tryz.f146 vy6 0 (uR3.av r) (uR3.bx r) (vd8 pt) (xk2 pt)) ?_
 intro run' ih pt r hr
 cases pt <;> exact ua9 (spec := wu5) (wr := (mkWr [] [])) (l := xp0) (z := 25) (p := uR3) E_ok wU9.mem rfl wb3 ih (Eq.trans (by kernel_rfl) hr)
def w61 : Con E := ⟨146, _, _, (.cons (Rd.int .u64).w .nil), .nil, 0, xX2, fun a b => uk2 (.start a.1), uR3.av, uR3.bx⟩
theorem wI7 : w61.Ok := fun a b r h => ub4 (fn := Tryz.f146) (code := vy6) E_ok (by kernel_rfl) (by kernel_rfl) (by kernel_rfl) (Nat.le_of_ble_eq_true rfl) (xD6 (.start a.1) r h)
inductive wE4 where
 | start (x0 : Int)
def vN3 : wE4 → List Bool
 | .start .. => []
def xR4 : wE4 → St E.S
 | .start x0 => st0 8 [.v (.int .u64 x0)] []
abbrev xX3 : Type := ((Int × Unit) × Unit)
def vh0 : Res E (Int × Unit) Unit := { rows := [], flat := [], keep := 0, done := [0], rl := (.cons (Rd.int .i64) .nil), rb := .nil }
def u28 : wE4 → Option xX3
 | .start x0 =>
  (uk2 (.start x0)) >>= fun t1 =>
  some ((t1.1.1, ()), ())
def xp1 : List (Plc E wE4) := []
theorem wV0 : All (ub8 8 0 vN3 xR4) xp1 := trivial
def wl7 : Code := Tryz.f124.body.getD .skip
def wu6 : Spec E.S := (Con.add w61 ub1)
theorem wb4 : ub0 E wu6 := (Con.add_ok wI7 ua7)
theorem xD7 : ∀ pt r, u28 pt = some r → Good E Tryz.f124 wl7 0 (vh0.av r) (vh0.bx r) (vN3 pt) (xR4 pt) := by
 intro pt r hr
 cases pt <;> exact ua9 (spec := wu6) (wr := (mkWr [] [])) (l := xp1) (z := 8) (p := vh0) (run' := fun _ => none) E_ok wV0.mem rfl wb4 (fun _ _ h => by cases h) (Eq.trans (by kernel_rfl) hr)
def w62 : Con E := ⟨124, _, _, (.cons (Rd.int .u64).w .nil), .nil, 0, xX3, fun a b => u28 (.start a.1), vh0.av, vh0.bx⟩
theorem wI8 : w62.Ok := fun a b r h => ub4 (fn := Tryz.f124) (code := wl7) E_ok (by kernel_rfl) (by kernel_rfl) (by kernel_rfl) (Nat.le_of_ble_eq_true rfl) (xD7 (.start a.1) r h)
inductive wE5 where
 | start (x0 : (Option ua4))
def vN4 : wE5 → List Bool
 | .start .. => []
def xR5 : wE5 → St E.S
 | .start x0 => st0 11 [.op 128 x0] []
abbrev xX4 : Type := ((Int × Unit) × Unit)
def vh1 : Res E (Int × Unit) Unit := { rows := [], flat := [], keep := 0, done := [0], rl := (.cons (Rd.int .i64) .nil), rb := .nil }
def uJ3 : wE5 → Option xX4
 | .start x0 =>
  x0 >>= fun t1 =>
  (u28 (.start (IntKind.wrap .u64 (IntKind.wrap .i64 ((List.length (Option.getD t1.constructors []) : Int) - (1 : Int)))))) >>= fun t2 =>
  some ((t2.1.1, ()), ())
def xp2 : List (Plc E wE5) := []
theorem wV1 : All (ub8 11 0 vN4 xR5) xp2 := trivial
def wl8 : Code := Tryz.f91.body.getD .skip
def wu7 : Spec E.S := (Con.add w62 ub1)
theorem wb5 : ub0 E wu7 := (Con.add_ok wI8 ua7)
theorem xD8 : ∀ pt r, uJ3 pt = some r → Good E Tryz.f91 wl8 0 (vh1.av r) (vh1.bx r) (vN4 pt) (xR5 pt) := by
 intro pt r hr
 cases pt <;> exact ua9 (spec := wu7) (wr := (mkWr [] [])) (l := xp2) (z := 11) (p := vh1) (run' := fun _ => none) E_ok wV1.mem rfl wb5 (fun _ _ h => by cases h) (Eq.trans (by kernel_rfl) hr)
def vY2 : Con E := ⟨91, _, _, (.cons (Rd.op 128).w .nil), .nil, 0, xX4, fun a b => uJ3 (.start a.1), vh1.av, vh1.bx⟩
theorem vr2 : vY2.Ok := fun a b r h => ub4 (fn := Tryz.f91) (code := wl8) E_ok (by kernel_rfl) (by kernel_rfl) (by kernel_rfl) (Nat.le_of_ble_eq_true rfl) (xD8 (.start a.1) r h)
inductive uY8 where
 | start (v0_0 : ByteArray) (v0_1 : (List ua6)) (v0_2 : (Option (List (Option ua4))))
 | p116 (sum3 : Int) (s7 : (Option (List (Option ua4)))) (s8 : Int) (s9 : Int)
def uv4 : uY8 → List Bool
 | .start .. => []
 | .p116 .. => [false, false, true, false, true, true]
def vm1 : uY8 → St E.S
 | .start v0_0 v0_1 v0_2 => st0 19 [.agg [.v (.string v0_0), .sl 58 v0_1 false, .so 105 v0_2]] []
 | .p116 sum3 s7 s8 s9 => mkSt 19 [3, 7, 8, 9] [.v (.int .i64 sum3), .so 105 s7, .v (.int .i64 s8), .v (.int .i64 s9)] []
abbrev vo8 : Type := ((Int × Unit) × Unit)
def uj3 : Res E (Int × Unit) Unit := { rows := [], flat := [], keep := 0, done := [0], rl := (.cons (Rd.int .i64) .nil), rb := .nil }
inductive u83 where
 | start (x0 : (Option ua4))
def uA2 : u83 → List Bool
 | .start .. => []
def vw0 : u83 → St E.S
 | .start x0 => st0 14 [.op 128 x0] []
abbrev vG8 : Type := ((Int × Unit) × Unit)
def ul8 : Res E (Int × Unit) Unit := { rows := [], flat := [], keep := 0, done := [0], rl := (.cons (Rd.int .i64) .nil), rb := .nil }
inductive uY9 where
 | start (x0 : (Option ua4))
 | p116 (most3 : Int) (s9 : (Option (List data_variant))) (s10 : Int) (s11 : Int)
def uv5 : uY9 → List Bool
 | .start .. => []
 | .p116 .. => [false, false, true, false, true, true]
def vm2 : uY9 → St E.S
 | .start x0 => st0 21 [.op 128 x0] []
 | .p116 most3 s9 s10 s11 => mkSt 21 [3, 9, 10, 11] [.v (.int .i64 most3), .so 125 s9, .v (.int .i64 s10), .v (.int .i64 s11)] []
abbrev vo9 : Type := ((Int × Unit) × Unit)
def uj4 : Res E (Int × Unit) Unit := { rows := [], flat := [], keep := 0, done := [0], rl := (.cons (Rd.int .i64) .nil), rb := .nil }
mutual
def ui4 : uY8 → Option vo8
 | .start v0_0 v0_1 v0_2 =>
  ui4 (.p116 (0 : Int) v0_2 (List.length (Option.getD v0_2 []) : Int) (0 : Int))
 | .p116 sum3 s7 s8 s9 =>
  if (decide (s9 < s8)) = true then
   (idx (Option.getD s7 []) s9) >>= fun t1 =>
   (run_z41 (.start t1)) >>= fun t2 =>
   ui4 (.p116 (IntKind.wrap .i64 (sum3 + t2.1.1)) s7 s8 (IntKind.wrap .i64 (s9 + (1 : Int))))
  else
   some ((sum3, ()), ())
 partial_fixpoint
def run_z41 : u83 → Option vG8
 | .start x0 =>
  (un8 (.start x0)) >>= fun t1 =>
  if t1.1.1 = true then
   x0 >>= fun t2 =>
   some ((t2.bits, ()), ())
  else
   (uJ3 (.start x0)) >>= fun t3 =>
   (run_z42 (.start x0)) >>= fun t4 =>
   some ((IntKind.wrap .i64 (t3.1.1 + t4.1.1), ()), ())
 partial_fixpoint
def run_z42 : uY9 → Option vo9
 | .start x0 =>
  x0 >>= fun t1 =>
  run_z42 (.p116 (0 : Int) t1.constructors (List.length (Option.getD t1.constructors []) : Int) (0 : Int))
 | .p116 most3 s9 s10 s11 =>
  if (decide (s11 < s10)) = true then
   (idx (Option.getD s9 []) s11) >>= fun t1 =>
   (ui4 (.start t1.name t1.fields t1.parts)) >>= fun t2 =>
   run_z42 (.p116 (if t2.1.1 > most3 then t2.1.1 else most3) s9 s10 (IntKind.wrap .i64 (s11 + (1 : Int))))
  else
   some ((most3, ()), ())
 partial_fixpoint
end
def xp4 : List (Plc E uY8) := [⟨116, [false, false, true, false, true, true], { slots := [3, 7, 8, 9], rows := [], flat := [], keep := 0 }, _, _, (.cons (Rd.int .i64) (.cons (Rd.so 105) (.cons (Rd.int .i64) (.cons (Rd.int .i64) .nil)))), .nil, fun a b => .p116 a.1 a.2.1 a.2.2.1 a.2.2.2.1⟩]
theorem wV2 : All (ub8 19 0 uv4 vm1) xp4 := ⟨⟨rfl, rfl, fun _ _ => rfl, fun _ _ => rfl⟩, trivial⟩
def ux4 : Code := Tryz.f89.body.getD .skip
def v14 (run' : uY8 → Option vo8) : Con E := ⟨89, ((ByteArray × ((List ua6) × ((Option (List (Option ua4))) × Unit))) × Unit), Unit, (RwL.cons (Rw.agg (RwL.cons Rd.str.w (RwL.cons (Rw.sl 58) (RwL.cons (Rd.so 105).w RwL.nil)))) RwL.nil), RdBL.nil, 0, vo8, fun a b => run' (.start a.1.1 a.1.2.1 a.1.2.2.1), uj3.av, uj3.bx⟩
theorem vu2 {run' : uY8 → Option vo8} (ih : ∀ pt r, run' pt = some r → Good E Tryz.f89 ux4 0 (uj3.av r) (uj3.bx r) (uv4 pt) (vm1 pt)) : (v14 run').Ok := fun a b r h => ub4 (fn := Tryz.f89) (code := ux4) E_ok (by kernel_rfl) (by kernel_rfl) (by kernel_rfl) (Nat.le_of_ble_eq_true rfl) (ih (.start a.1.1 a.1.2.1 a.1.2.2.1) r h)
def xp5 : List (Plc E u83) := []
theorem wV3 : All (ub8 14 0 uA2 vw0) xp5 := trivial
def uB5 : Code := Tryz.f65.body.getD .skip
def xe7 (run' : u83 → Option vG8) : Con E := ⟨65, ((Option ua4) × Unit), Unit, (RwL.cons (Rd.op 128).w RwL.nil), RdBL.nil, 0, vG8, fun a b => run' (.start a.1), ul8.av, ul8.bx⟩
theorem wO6 {run' : u83 → Option vG8} (ih : ∀ pt r, run' pt = some r → Good E Tryz.f65 uB5 0 (ul8.av r) (ul8.bx r) (uA2 pt) (vw0 pt)) : (xe7 run').Ok := fun a b r h => ub4 (fn := Tryz.f65) (code := uB5) E_ok (by kernel_rfl) (by kernel_rfl) (by kernel_rfl) (Nat.le_of_ble_eq_true rfl) (ih (.start a.1) r h)
def xp6 : List (Plc E uY9) := [⟨116, [false, false, true, false, true, true], { slots := [3, 9, 10, 11], rows := [], flat := [], keep := 0 }, _, _, (.cons (Rd.int .i64) (.cons (Rd.so 125) (.cons (Rd.int .i64) (.cons (Rd.int .i64) .nil)))), .nil, fun a b => .p116 a.1 a.2.1 a.2.2.1 a.2.2.2.1⟩]
theorem wV4 : All (ub8 21 0 uv5 vm2) xp6 := ⟨⟨rfl, rfl, fun _ _ => rfl, fun _ _ => rfl⟩, trivial⟩
def ux5 : Code := Tryz.f90.body.getD .skip
def v16 (run' : uY9 → Option vo9) : Con E := ⟨90, ((Option ua4) × Unit), Unit, (RwL.cons (Rd.op 128).w RwL.nil), RdBL.nil, 0, vo9, fun a b => run' (.start a.1), uj4.av, uj4.bx⟩
theorem vu3 {run' : uY9 → Option vo9} (ih : ∀ pt r, run' pt = some r → Good E Tryz.f90 ux5 0 (uj4.av r) (uj4.bx r) (uv5 pt) (vm2 pt)) : (v16 run').Ok := fun a b r h => ub4 (fn := Tryz.f90) (code := ux5) E_ok (by kernel_rfl) (by kernel_rfl) (by kernel_rfl) (Nat.le_of_ble_eq_true rfl) (ih (.start a.1) r h)
def wu8 (r_z40 : uY8 → Option vo8) (r_z41 : u83 → Option vG8) : Spec E.S := (Con.add (xe7 r_z41) (Con.add (v14 r_z40) ub1))
theorem wb6 {r_z40 : uY8 → Option vo8} (h_z40 : ∀ pt r, r_z40 pt = some r → Good E Tryz.f89 ux4 0 (uj3.av r) (uj3.bx r) (uv4 pt) (vm1 pt)) {r_z41 : u83 → Option vG8} (h_z41 : ∀ pt r, r_z41 pt = some r → Good E Tryz.f65 uB5 0 (ul8.av r) (ul8.bx r) (uA2 pt) (vw0 pt)) : ub0 E (wu8 r_z40 r_z41) := (Con.add_ok (wO6 h_z41) (Con.add_ok (vu2 h_z40) ua7))
def wu9 (r_z42 : uY9 → Option vo9) : Spec E.S := (Con.add (v16 r_z42) (Con.add vY2 (Con.add uB9 ub1)))
theorem wb7 {r_z42 : uY9 → Option vo9} (h_z42 : ∀ pt r, r_z42 pt = some r → Good E Tryz.f90 ux5 0 (uj4.av r) (uj4.bx r) (uv5 pt) (vm2 pt)) : ub0 E (wu9 r_z42) := (Con.add_ok (vu3 h_z42) (Con.add_ok vr2 (Con.add_ok um5 ua7)))
def wv0 (r_z40 : uY8 → Option vo8) (r_z42 : uY9 → Option vo9) : Spec E.S := (Con.add (v16 r_z42) (Con.add (v14 r_z40) ub1))
theorem wb8 {r_z40 : uY8 → Option vo8} (h_z40 : ∀ pt r, r_z40 pt = some r → Good E Tryz.f89 ux4 0 (uj3.av r) (uj3.bx r) (uv4 pt) (vm1 pt)) {r_z42 : uY9 → Option vo9} (h_z42 : ∀ pt r, r_z42 pt = some r → Good E Tryz.f90 ux5 0 (uj4.av r) (uj4.bx r) (uv5 pt) (vm2 pt)) : ub0 E (wv0 r_z40 r_z42) := (Con.add_ok (vu3 h_z42) (Con.add_ok (vu2 h_z40) ua7))
theorem vb2 : (∀ pt r, ui4 pt = some r → Good E Tryz.f89 ux4 0 (uj3.av r) (uj3.bx r) (uv4 pt) (vm1 pt)) ∧ (∀ pt r, run_z41 pt = some r → Good E Tryz.f65 uB5 0 (ul8.av r) (ul8.bx r) (uA2 pt) (vw0 pt)) ∧ (∀ pt r, run_z42 pt = some r → Good E Tryz.f90 ux5 0 (uj4.av r) (uj4.bx r) (uv5 pt) (vm2 pt)) := by
  refine ui4.mutual_partial_correctness (fun pt r => Good E Tryz.f89 ux4 0 (uj3.av r) (uj3.bx r) (uv4 pt) (vm1 pt)) (fun pt r => Good E Tryz.f65 uB5 0 (ul8.av r) (ul8.bx r) (uA2 pt) (vw0 pt)) (fun pt r => Good E Tryz.f90 ux5 0 (uj4.av r) (uj4.bx r) (uv5 pt) (vm2 pt)) ?_ ?_ ?_
  · intro r_z40 r_z41 h_z40 h_z41 pt r hr
    cases pt <;> exact ua9 (spec := (wu8 r_z40 r_z41)) (wr := (mkWr [] [])) (l := xp4) (z := 19) (p := uj3) E_ok wV2.mem rfl (wb6 h_z40 h_z41) h_z40 (Eq.trans (by kernel_rfl) hr)
  · intro r_z42 h_z42 pt r hr
    cases pt <;> exact ua9 (spec := (wu9 r_z42)) (wr := (mkWr [] [])) (l := xp5) (z := 14) (p := ul8) (run' := fun _ => none) E_ok wV3.mem rfl (wb7 h_z42) (fun _ _ h => by cases h) (Eq.trans (by kernel_rfl) hr)
  · intro r_z40 r_z42 h_z40 h_z42 pt r hr
    cases pt <;> exact ua9 (spec := (wv0 r_z40 r_z42)) (wr := (mkWr [] [])) (l := xp6) (z := 21) (p := uj4) E_ok wV4.mem rfl (wb8 h_z40 h_z42) h_z42 (Eq.trans (by kernel_rfl) hr)
theorem xD9 : ∀ pt r, ui4 pt = some r → Good E Tryz.f89 ux4 0 (uj3.av r) (uj3.bx r) (uv4 pt) (vm1 pt) := vb2.1
theorem xE0 : ∀ pt r, run_z41 pt = some r → Good E Tryz.f65 uB5 0 (ul8.av r) (ul8.bx r) (uA2 pt) (vw0 pt) := vb2.2.1
theorem xE1 : ∀ pt r, run_z42 pt = some r → Good E Tryz.f90 ux5 0 (uj4.av r) (uj4.bx r) (uv5 pt) (vm2 pt) := vb2.2.2
def vY3 : Con E := ⟨89, _, _, (.cons (Rw.agg (.cons Rd.str.w (.cons (Rw.sl 58) (.cons (Rd.so 105).w .nil)))) .nil), .nil, 0, vo8, fun a b => ui4 (.start a.1.1 a.1.2.1 a.1.2.2.1), uj3.av, uj3.bx⟩
theorem vr3 : vY3.Ok := fun a b r h => ub4 (fn := Tryz.f89) (code := ux4) E_ok (by kernel_rfl) (by kernel_rfl) (by kernel_rfl) (Nat.le_of_ble_eq_true rfl) (xD9 (.start a.1.1 a.1.2.1 a.1.2.2.1) r h)
def uP2 : Con E := ⟨65, _, _, (.cons (Rd.op 128).w .nil), .nil, 0, vG8, fun a b => run_z41 (.start a.1), ul8.av, ul8.bx⟩
theorem uu1 : uP2.Ok := fun a b r h => ub4 (fn := Tryz.f65) (code := uB5) E_ok (by kernel_rfl) (by kernel_rfl) (by kernel_rfl) (Nat.le_of_ble_eq_true rfl) (xE0 (.start a.1) r h)
def vA4 : Con E := ⟨90, _, _, (.cons (Rd.op 128).w .nil), .nil, 0, vo9, fun a b => run_z42 (.start a.1), uj4.av, uj4.bx⟩
theorem uZ9 : vA4.Ok := fun a b r h => ub4 (fn := Tryz.f90) (code := ux5) E_ok (by kernel_rfl) (by kernel_rfl) (by kernel_rfl) (Nat.le_of_ble_eq_true rfl) (xE1 (.start a.1) r h)
inductive wE6 where
 | start (l0 : (List ua2)) (t1_0 : Int) (t1_1 : Int) (t1_2 : ByteArray) (t1_3 : (List ua0))
def vN5 : wE6 → List Bool
 | .start .. => []
def xR6 : wE6 → St E.S
 | .start l0 t1_0 t1_1 t1_2 t1_3 => st0 49 [.sl 103 l0 false, .agg [.v (.int .i64 t1_0), .v (.int .i64 t1_1), .v (.string t1_2), .sl 25 t1_3 false]] []
abbrev xX5 : Type := (((Option ua4) × (((List ua2) × (Unit × Unit)) × (Int × Unit))) × Unit)
def vh2 : Res E ((Option ua4) × (((List ua2) × (Unit × Unit)) × (Int × Unit))) Unit := { rows := [], flat := [], keep := 0, done := [0, 1, 2], ptrs := [(0, 128)], rl := (.cons (Rd.op 128) (.cons (Rd.agg (.cons (Rd.sl 103 false) (.cons Rd.nl .nil))) (.cons (Rd.int .i64) .nil))), rb := .nil }
def uq9 : wE6 → Option xX5
 | .start l0 t1_0 t1_1 t1_2 t1_3 =>
  (uT0 (.start l0)) >>= fun t1 =>
  if (t1.1.2.1 != (0 : Int)) = true then
   some ((none, ((l0, ((), ())), (t1.1.2.1, ()))), ())
  else
   (uJ2 (.start l0 ([]) t1_0 t1_1 t1_2 t1_3)) >>= fun t2 =>
   if (t2.1.1 != (0 : Int)) = true then
    some ((none, ((l0, ((), ())), (t2.1.1, ()))), ())
   else
    (uc9 (.start l0 ([]) t1_0 t1_1 t1_2 t1_3 (1 : Int) (0 : Int))) >>= fun t3 =>
    if (t3.1.2.1 == (0 : Int)) = true then
     (run_z41 (.start t3.1.1)) >>= fun t4 =>
     (uk8 (.start t4.1.1 (1 : Int) (16 : Int))) >>= fun t5 =>
     if (!t5.1.1) = true then
      some ((t3.1.1, ((l0, ((), ())), ((25 : Int), ()))), ())
     else
      some ((t3.1.1, ((l0, ((), ())), (t3.1.2.1, ()))), ())
    else
     some ((t3.1.1, ((l0, ((), ())), (t3.1.2.1, ()))), ())
def xp7 : List (Plc E wE6) := []
theorem wV5 : All (ub8 49 0 vN5 xR6) xp7 := trivial
def wl9 : Code := Tryz.f64.body.getD .skip
def wv1 : Spec E.S := (Con.add uU8 (Con.add uP2 (Con.add w60 (Con.add vY0 (Con.add w57 ub1)))))
theorem wb9 : ub0 E wv1 := (Con.add_ok ur7 (Con.add_ok uu1 (Con.add_ok wI6 (Con.add_ok vr0 (Con.add_ok wI3 ua7)))))
theorem xE2 : ∀ pt r, uq9 pt = some r → Good E Tryz.f64 wl9 0 (vh2.av r) (vh2.bx r) (vN5 pt) (xR6 pt) := by
 intro pt r hr
 cases pt <;> exact ua9 (spec := wv1) (wr := (mkWr [] [])) (l := xp7) (z := 49) (p := vh2) (run' := fun _ => none) E_ok wV5.mem rfl wb9 (fun _ _ h => by cases h) (Eq.trans (by kernel_rfl) hr)
def uG2 : Con E := ⟨64, _, _, (.cons (Rw.sl 103) (.cons (Rw.agg (.cons (Rd.int .i64).w (.cons (Rd.int .i64).w (.cons Rd.str.w (.cons (Rw.sl 25) .nil))))) .nil)), .nil, 0, xX5, fun a b => uq9 (.start a.1 a.2.1.1 a.2.1.2.1 a.2.1.2.2.1 a.2.1.2.2.2.1), vh2.av, vh2.bx⟩
theorem uo5 : uG2.Ok := fun a b r h => ub4 (fn := Tryz.f64) (code := wl9) E_ok (by kernel_rfl) (by kernel_rfl) (by kernel_rfl) (Nat.le_of_ble_eq_true rfl) (xE2 (.start a.1 a.2.1.1 a.2.1.2.1 a.2.1.2.2.1 a.2.1.2.2.2.1) r h)
inductive wE7 where
 | start (l0 : (List ua2)) (t1_0 : Int) (t1_1 : Int) (t1_2 : ByteArray) (t1_3 : (List ua0))
def vN6 : wE7 → List Bool
 | .start .. => []
def xR7 : wE7 → St E.S
 | .start l0 t1_0 t1_1 t1_2 t1_3 => st0 21 [.sl 103 l0 false, .agg [.v (.int .i64 t1_0), .v (.int .i64 t1_1), .v (.string t1_2), .sl 25 t1_3 false]] []
abbrev xX6 : Type := ((Int × (Int × Unit)) × Unit)
def vh3 : Res E (Int × (Int × Unit)) Unit := { rows := [], flat := [], keep := 0, done := [0, 1], rl := (.cons (Rd.int .i64) (.cons (Rd.int .i64) .nil)), rb := .nil }
def uJ4 : wE7 → Option xX6
 | .start l0 t1_0 t1_1 t1_2 t1_3 =>
  (uq9 (.start l0 t1_0 t1_1 t1_2 t1_3)) >>= fun t1 =>
  if (t1.1.2.2.1 != (0 : Int)) = true then
   some (((0 : Int), (t1.1.2.2.1, ())), ())
  else
   (run_z41 (.start t1.1.1)) >>= fun t2 =>
   some ((t2.1.1, ((0 : Int), ())), ())
def xp8 : List (Plc E wE7) := []
theorem wV6 : All (ub8 21 0 vN6 xR7) xp8 := trivial
def wm0 : Code := Tryz.f14.body.getD .skip
def wv2 : Spec E.S := (Con.add uP2 (Con.add uG2 ub1))
theorem wc0 : ub0 E wv2 := (Con.add_ok uu1 (Con.add_ok uo5 ua7))
theorem xE3 : ∀ pt r, uJ4 pt = some r → Good E Tryz.f14 wm0 0 (vh3.av r) (vh3.bx r) (vN6 pt) (xR7 pt) := by
 intro pt r hr
 cases pt <;> exact ua9 (spec := wv2) (wr := (mkWr [] [])) (l := xp8) (z := 21) (p := vh3) (run' := fun _ => none) E_ok wV6.mem rfl wc0 (fun _ _ h => by cases h) (Eq.trans (by kernel_rfl) hr)
def vY4 : Con E := ⟨14, _, _, (.cons (Rw.sl 103) (.cons (Rw.agg (.cons (Rd.int .i64).w (.cons (Rd.int .i64).w (.cons Rd.str.w (.cons (Rw.sl 25) .nil))))) .nil)), .nil, 0, xX6, fun a b => uJ4 (.start a.1 a.2.1.1 a.2.1.2.1 a.2.1.2.2.1 a.2.1.2.2.2.1), vh3.av, vh3.bx⟩
theorem vr4 : vY4.Ok := fun a b r h => ub4 (fn := Tryz.f14) (code := wm0) E_ok (by kernel_rfl) (by kernel_rfl) (by kernel_rfl) (Nat.le_of_ble_eq_true rfl) (xE3 (.start a.1 a.2.1.1 a.2.1.2.1 a.2.1.2.2.1 a.2.1.2.2.2.1) r h)
inductive wE8 where
 | start (name0 : ByteArray) (parts1 : (List ua5))
def vN7 : wE8 → List Bool
 | .start .. => []
def xR8 : wE8 → St E.S
 | .start name0 parts1 => st0 8 [.v (.string name0), .sl 37 parts1 false] []
abbrev xX7 : Type := (((ByteArray × (Int × ((List ua5) × Unit))) × Unit) × Unit)
def vh4 : Res E ((ByteArray × (Int × ((List ua5) × Unit))) × Unit) Unit := { rows := [], flat := [], keep := 0, done := [0], rl := (.cons (Rd.agg (.cons Rd.str (.cons (Rd.int .i64) (.cons (Rd.sl 37 false) .nil)))) .nil), rb := .nil }
def uw3 : wE8 → Option xX7
 | .start name0 parts1 =>
  some (((name0, ((0 : Int), (parts1, ()))), ()), ())
def xp9 : List (Plc E wE8) := []
theorem wV7 : All (ub8 8 0 vN7 xR8) xp9 := trivial
def wm1 : Code := Tryz.f60.body.getD .skip
def wv3 : Spec E.S := ub1
theorem wc1 : ub0 E wv3 := ua7
theorem xE4 : ∀ pt r, uw3 pt = some r → Good E Tryz.f60 wm1 0 (vh4.av r) (vh4.bx r) (vN7 pt) (xR8 pt) := by
 intro pt r hr
 cases pt <;> exact ua9 (spec := wv3) (wr := (mkWr [] [])) (l := xp9) (z := 8) (p := vh4) (run' := fun _ => none) E_ok wV7.mem rfl wc1 (fun _ _ h => by cases h) (Eq.trans (by kernel_rfl) hr)
def w65 : Con E := ⟨60, _, _, (.cons Rd.str.w (.cons (Rw.sl 37) .nil)), .nil, 0, xX7, fun a b => uw3 (.start a.1 a.2.1), vh4.av, vh4.bx⟩
theorem wI9 : w65.Ok := fun a b r h => ub4 (fn := Tryz.f60) (code := wm1) E_ok (by kernel_rfl) (by kernel_rfl) (by kernel_rfl) (Nat.le_of_ble_eq_true rfl) (xE4 (.start a.1 a.2.1) r h)
inductive wE9 where
 | start (v0_0 : ByteArray) (v0_1 : Int) (v0_2 : (List ua5))
def vN8 : wE9 → List Bool
 | .start .. => []
def xR9 : wE9 → St E.S
 | .start v0_0 v0_1 v0_2 => st0 5 [.agg [.v (.string v0_0), .v (.int .i64 v0_1), .sl 37 v0_2 false]] []
abbrev xX8 : Type := (((List ua5) × Unit) × Unit)
def vh5 : Res E ((List ua5) × Unit) Unit := { rows := [], flat := [], keep := 0, done := [0], rl := (.cons (Rd.sl 37 false) .nil), rb := .nil }
def vk6 : wE9 → Option xX8
 | .start v0_0 v0_1 v0_2 =>
  some ((v0_2, ()), ())
def xq0 : List (Plc E wE9) := []
theorem wV8 : All (ub8 5 0 vN8 xR9) xq0 := trivial
def wm2 : Code := Tryz.f95.body.getD .skip
def wv4 : Spec E.S := ub1
theorem wc2 : ub0 E wv4 := ua7
theorem xE5 : ∀ pt r, vk6 pt = some r → Good E Tryz.f95 wm2 0 (vh5.av r) (vh5.bx r) (vN8 pt) (xR9 pt) := by
 intro pt r hr
 cases pt <;> exact ua9 (spec := wv4) (wr := (mkWr [] [])) (l := xq0) (z := 5) (p := vh5) (run' := fun _ => none) E_ok wV8.mem rfl wc2 (fun _ _ h => by cases h) (Eq.trans (by kernel_rfl) hr)
def w66 : Con E := ⟨95, _, _, (.cons (Rw.agg (.cons Rd.str.w (.cons (Rd.int .i64).w (.cons (Rw.sl 37) .nil)))) .nil), .nil, 0, xX8, fun a b => vk6 (.start a.1.1 a.1.2.1 a.1.2.2.1), vh5.av, vh5.bx⟩
theorem wJ0 : w66.Ok := fun a b r h => ub4 (fn := Tryz.f95) (code := wm2) E_ok (by kernel_rfl) (by kernel_rfl) (by kernel_rfl) (Nat.le_of_ble_eq_true rfl) (xE5 (.start a.1.1 a.1.2.1 a.1.2.2.1) r h)
inductive vn9 where
 | start (x0_0 : ByteArray) (x0_1 : Int) (x0_2 : (List ua5)) (depth1 : Int) (B0 : Int)
 | p15 (depth1 : Int) (B0 : Int) (H0 : ByteArray) (H1 : Int) (H2 : (List ua5))
 | p244 (depth1 : Int) (s20 : (List ua5)) (s21 : Int) (s22 : Int) (B0 : Int)
def uH5 : vn9 → List Bool
 | .start .. => []
 | .p15 .. => [true, true, true]
 | .p244 .. => [false, false, true, false, true, true, true]
def vU1 : vn9 → St E.S
 | .start x0_0 x0_1 x0_2 depth1 B0 => st0 33 [.agg [.v (.string x0_0), .v (.int .i64 x0_1), .sl 37 x0_2 false], .v (.int .i64 depth1), .bp 0 0, .bp 1 0, .bp 2 0] [.var 3 [.v (.int .i64 B0)], .var 136 [.fn 95 []], .var 173 [.fn 131 [.bp 0 0, .bp 1 0, .bp 2 0]]]
 | .p15 depth1 B0 H0 H1 H2 => mkSt 33 [1, 3, 4, 5] [.v (.int .i64 depth1), .bp 1 0, .bp 2 0, .bp 3 0] [.var 3 [.v (.int .i64 B0)], .var 136 [.fn 95 []], .var 173 [.fn 131 [.bp 0 0, .bp 1 0, .bp 2 0]], .var 37 [.v (.string H0), .v (.int .i64 H1), .sl 37 H2 false]]
 | .p244 depth1 s20 s21 s22 B0 => mkSt 33 [1, 4, 20, 21, 22] [.v (.int .i64 depth1), .bp 2 0, .sl 37 s20 false, .v (.int .i64 s21), .v (.int .i64 s22)] [.var 3 [.v (.int .i64 B0)], .var 136 [.fn 95 []], .var 173 [.fn 131 [.bp 0 0, .bp 1 0, .bp 2 0]]]
abbrev vG9 : Type := ((Bool × Unit) × ((Int × Unit) × ((Unit × Unit) × (((Unit × (Unit × (Unit × Unit))) × Unit) × Unit))))
def up4 : Res E (Bool × Unit) ((Int × Unit) × ((Unit × Unit) × (((Unit × (Unit × (Unit × Unit))) × Unit) × Unit))) := { rows := [], flat := [], keep := 3, done := [0], rl := (.cons Rd.bool .nil), rb := (.cons (.var 3 (.cons (Rd.int .i64) .nil)) (.cons (.var 136 (.cons (Rd.fn 95 .nil) .nil)) (.cons (.var 173 (.cons (Rd.fn 131 (.cons (Rd.bp 0 0) (.cons (Rd.bp 1 0) (.cons (Rd.bp 2 0) .nil)))) .nil)) .nil))) }
def uz3 : vn9 → Option vG9
 | .start x0_0 x0_1 x0_2 depth1 B0 =>
  if (decide ((IntKind.wrap .i64 (B0 + (1 : Int))) > (200 : Int))) = true then
   some ((false, ()), ((IntKind.wrap .i64 (B0 + (1 : Int)), ()), (((), ()), ((((), ((), ((), ()))), ()), ()))))
  else
   if (decide (depth1 > (40 : Int))) = true then
    some ((false, ()), ((IntKind.wrap .i64 (B0 + (1 : Int)), ()), (((), ()), ((((), ((), ((), ()))), ()), ()))))
   else
    uz3 (.p15 depth1 (IntKind.wrap .i64 (B0 + (1 : Int))) x0_0 x0_1 x0_2)
 | .p15 depth1 B0 H0 H1 H2 =>
  (vk6 (.start H0 H1 H2)) >>= fun t1 =>
  uz3 (.p244 depth1 t1.1.1 (List.length t1.1.1 : Int) (0 : Int) B0)
 | .p244 depth1 s20 s21 s22 B0 =>
  if (decide (s22 < s21)) = true then
   (idx s20 s22) >>= fun t1 =>
   (uz3 (.start t1.Name t1.Number t1.Parts (IntKind.wrap .i64 (depth1 + (1 : Int))) B0)) >>= fun t2 =>
   if (!t2.1.1) = true then
    some ((false, ()), ((t2.2.1.1, ()), (((), ()), ((((), ((), ((), ()))), ()), ()))))
   else
    uz3 (.p244 depth1 s20 s21 (IntKind.wrap .i64 (s22 + (1 : Int))) t2.2.1.1)
  else
   some ((true, ()), ((B0, ()), (((), ()), ((((), ((), ((), ()))), ()), ()))))
 partial_fixpoint
def xq1 : List (Plc E vn9) := [⟨15, [true, true, true], { slots := [1, 3, 4, 5], rows := [], flat := [], keep := 3 }, _, _, (.cons (Rd.int .i64) (.cons (Rd.bp 1 0) (.cons (Rd.bp 2 0) (.cons (Rd.bp 3 0) .nil)))), (.cons (.var 3 (.cons (Rd.int .i64) .nil)) (.cons (.var 136 (.cons (Rd.fn 95 .nil) .nil)) (.cons (.var 173 (.cons (Rd.fn 131 (.cons (Rd.bp 0 0) (.cons (Rd.bp 1 0) (.cons (Rd.bp 2 0) .nil)))) .nil)) (.cons (.var 37 (.cons Rd.str (.cons (Rd.int .i64) (.cons (Rd.sl 37 false) .nil)))) .nil)))), fun a b => .p15 a.1 b.1.1 b.2.2.2.1.1 b.2.2.2.1.2.1 b.2.2.2.1.2.2.1⟩,
 ⟨244, [false, false, true, false, true, true, true], { slots := [1, 4, 20, 21, 22], rows := [], flat := [], keep := 3 }, _, _, (.cons (Rd.int .i64) (.cons (Rd.bp 2 0) (.cons (Rd.sl 37 false) (.cons (Rd.int .i64) (.cons (Rd.int .i64) .nil))))), (.cons (.var 3 (.cons (Rd.int .i64) .nil)) (.cons (.var 136 (.cons (Rd.fn 95 .nil) .nil)) (.cons (.var 173 (.cons (Rd.fn 131 (.cons (Rd.bp 0 0) (.cons (Rd.bp 1 0) (.cons (Rd.bp 2 0) .nil)))) .nil)) .nil))), fun a b => .p244 a.1 a.2.2.1 a.2.2.2.1 a.2.2.2.2.1 b.1.1⟩]
theorem wV9 : All (ub8 33 3 uH5 vU1) xq1 := ⟨⟨rfl, rfl, fun _ _ => rfl, fun _ _ => rfl⟩, ⟨⟨rfl, rfl, fun _ _ => rfl, fun _ _ => rfl⟩, trivial⟩⟩
def uK4 : Code := Tryz.f131.body.getD .skip
def xe8 (run' : vn9 → Option vG9) : Con E := ⟨131, ((ByteArray × (Int × ((List ua5) × Unit))) × (Int × (Unit × (Unit × (Unit × Unit))))), ((Int × Unit) × ((Unit × Unit) × (((Unit × (Unit × (Unit × Unit))) × Unit) × Unit))), (RwL.cons (Rw.agg (RwL.cons Rd.str.w (RwL.cons (Rd.int .i64).w (RwL.cons (Rw.sl 37) RwL.nil)))) (RwL.cons (Rd.int .i64).w (RwL.cons (Rd.bp 0 0).w (RwL.cons (Rd.bp 1 0).w (RwL.cons (Rd.bp 2 0).w RwL.nil))))), (RdBL.cons (RdB.var 3 (RdL.cons (Rd.int .i64) RdL.nil)) (RdBL.cons (RdB.var 136 (RdL.cons (Rd.fn 95 RdL.nil) RdL.nil)) (RdBL.cons (RdB.var 173 (RdL.cons (Rd.fn 131 (RdL.cons (Rd.bp 0 0) (RdL.cons (Rd.bp 1 0) (RdL.cons (Rd.bp 2 0) RdL.nil)))) RdL.nil)) RdBL.nil))), 3, vG9, fun a b => run' (.start a.1.1 a.1.2.1 a.1.2.2.1 a.2.1 b.1.1), up4.av, up4.bx⟩
theorem wO7 {run' : vn9 → Option vG9} (ih : ∀ pt r, run' pt = some r → Good E Tryz.f131 uK4 3 (up4.av r) (up4.bx r) (uH5 pt) (vU1 pt)) : (xe8 run').Ok := fun a b r h => ub4 (fn := Tryz.f131) (code := uK4) E_ok (by kernel_rfl) (by kernel_rfl) (by kernel_rfl) (Nat.le_of_ble_eq_true rfl) (ih (.start a.1.1 a.1.2.1 a.1.2.2.1 a.2.1 b.1.1) r h)
def wv5 (run' : vn9 → Option vG9) : Spec E.S := (Con.add (xe8 run') (Con.add w66 ub1))
theorem wc3 {run' : vn9 → Option vG9} (ih : ∀ pt r, run' pt = some r → Good E Tryz.f131 uK4 3 (up4.av r) (up4.bx r) (uH5 pt) (vU1 pt)) : ub0 E (wv5 run') := (Con.add_ok (wO7 ih) (Con.add_ok wJ0 ua7))
theorem xE6 : ∀ pt r, uz3 pt = some r → Good E Tryz.f131 uK4 3 (up4.av r) (up4.bx r) (uH5 pt) (vU1 pt) := by
 refine uz3.partial_correctness (fun pt r => Good E Tryz.f131 uK4 3 (up4.av r) (up4.bx r) (uH5 pt) (vU1 pt)) ?_
 intro run' ih pt r hr
 cases pt <;> exact ua9 (spec := (wv5 run')) (wr := (mkWr [] [])) (l := xq1) (z := 33) (p := up4) E_ok wV9.mem rfl (wc3 ih) ih (Eq.trans (by kernel_rfl) hr)
def w67 : Con E := ⟨131, _, _, (.cons (Rw.agg (.cons Rd.str.w (.cons (Rd.int .i64).w (.cons (Rw.sl 37) .nil)))) (.cons (Rd.int .i64).w (.cons (Rd.bp 0 0).w (.cons (Rd.bp 1 0).w (.cons (Rd.bp 2 0).w .nil))))), (.cons (.var 3 (.cons (Rd.int .i64) .nil)) (.cons (.var 136 (.cons (Rd.fn 95 .nil) .nil)) (.cons (.var 173 (.cons (Rd.fn 131 (.cons (Rd.bp 0 0) (.cons (Rd.bp 1 0) (.cons (Rd.bp 2 0) .nil)))) .nil)) .nil))), 3, vG9, fun a b => uz3 (.start a.1.1 a.1.2.1 a.1.2.2.1 a.2.1 b.1.1), up4.av, up4.bx⟩
theorem wJ1 : w67.Ok := fun a b r h => ub4 (fn := Tryz.f131) (code := uK4) E_ok (by kernel_rfl) (by kernel_rfl) (by kernel_rfl) (Nat.le_of_ble_eq_true rfl) (xE6 (.start a.1.1 a.1.2.1 a.1.2.2.1 a.2.1 b.1.1) r h)
inductive wF0 where
 | start (root0_0 : ByteArray) (root0_1 : Int) (root0_2 : (List ua5))
def vN9 : wF0 → List Bool
 | .start .. => []
def xS0 : wF0 → St E.S
 | .start root0_0 root0_1 root0_2 => st0 12 [.agg [.v (.string root0_0), .v (.int .i64 root0_1), .sl 37 root0_2 false], .fn 95 []] []
abbrev xX9 : Type := ((Int × Unit) × Unit)
def vh6 : Res E (Int × Unit) Unit := { rows := [], flat := [], keep := 0, done := [0], rl := (.cons (Rd.int .i64) .nil), rb := .nil }
def u29 : wF0 → Option xX9
 | .start root0_0 root0_1 root0_2 =>
  (uz3 (.start root0_0 root0_1 root0_2 (1 : Int) (0 : Int))) >>= fun t1 =>
  (uc7 (.start t1.1.1 (8 : Int))) >>= fun t2 =>
  some ((t2.1.1, ()), ())
def xq2 : List (Plc E wF0) := []
theorem wW0 : All (ub8 12 0 vN9 xS0) xq2 := trivial
def wm3 : Code := Tryz.f94.body.getD .skip
def wv6 : Spec E.S := (Con.add uU9 (Con.add w67 ub1))
theorem wc4 : ub0 E wv6 := (Con.add_ok ur8 (Con.add_ok wJ1 ua7))
theorem xE7 : ∀ pt r, u29 pt = some r → Good E Tryz.f94 wm3 0 (vh6.av r) (vh6.bx r) (vN9 pt) (xS0 pt) := by
 intro pt r hr
 cases pt <;> exact ua9 (spec := wv6) (wr := (mkWr [] [])) (l := xq2) (z := 12) (p := vh6) (run' := fun _ => none) E_ok wW0.mem rfl wc4 (fun _ _ h => by cases h) (Eq.trans (by kernel_rfl) hr)
def vY5 : Con E := ⟨94, _, _, (.cons (Rw.agg (.cons Rd.str.w (.cons (Rd.int .i64).w (.cons (Rw.sl 37) .nil)))) (.cons (Rd.fn 95 .nil).w .nil)), .nil, 0, xX9, fun a b => u29 (.start a.1.1 a.1.2.1 a.1.2.2.1), vh6.av, vh6.bx⟩
theorem vr5 : vY5.Ok := fun a b r h => ub4 (fn := Tryz.f94) (code := wm3) E_ok (by kernel_rfl) (by kernel_rfl) (by kernel_rfl) (Nat.le_of_ble_eq_true rfl) (xE7 (.start a.1.1 a.1.2.1 a.1.2.2.1) r h)
inductive wF1 where
 | start (v0_0 : ByteArray) (v0_1 : (List ua6)) (v0_2 : (Option (List (Option ua4)))) (s1 : ByteArray)
def vO0 : wF1 → List Bool
 | .start .. => []
def xS1 : wF1 → St E.S
 | .start v0_0 v0_1 v0_2 s1 => st0 8 [.agg [.v (.string v0_0), .sl 58 v0_1 false, .so 105 v0_2], .el 9 s1 0] []
abbrev xY0 : Type := ((Bool × Unit) × Unit)
def vh7 : Res E (Bool × Unit) Unit := { rows := [], flat := [], keep := 0, done := [0], rl := (.cons Rd.bool .nil), rb := .nil }
def u30 : wF1 → Option xY0
 | .start v0_0 v0_1 v0_2 s1 =>
  some ((seq v0_0 s1, ()), ())
def xq3 : List (Plc E wF1) := []
theorem wW1 : All (ub8 8 0 vO0 xS1) xq3 := trivial
def wm4 : Code := Tryz.f123.body.getD .skip
def wv7 : Spec E.S := ub1
theorem wc5 : ub0 E wv7 := ua7
theorem xE8 : ∀ pt r, u30 pt = some r → Good E Tryz.f123 wm4 0 (vh7.av r) (vh7.bx r) (vO0 pt) (xS1 pt) := by
 intro pt r hr
 cases pt <;> exact ua9 (spec := wv7) (wr := (mkWr [] [])) (l := xq3) (z := 8) (p := vh7) (run' := fun _ => none) E_ok wW1.mem rfl wc5 (fun _ _ h => by cases h) (Eq.trans (by kernel_rfl) hr)
def w68 : Con E := ⟨123, _, _, (.cons (Rw.agg (.cons Rd.str.w (.cons (Rw.sl 58) (.cons (Rd.so 105).w .nil)))) (.cons (Rd.el 9 0).w .nil)), .nil, 0, xY0, fun a b => u30 (.start a.1.1 a.1.2.1 a.1.2.2.1 a.2.1), vh7.av, vh7.bx⟩
theorem wJ2 : w68.Ok := fun a b r h => ub4 (fn := Tryz.f123) (code := wm4) E_ok (by kernel_rfl) (by kernel_rfl) (by kernel_rfl) (Nat.le_of_ble_eq_true rfl) (xE8 (.start a.1.1 a.1.2.1 a.1.2.2.1 a.2.1) r h)
inductive wF2 where
 | start (s0 : (Option (List data_variant))) (B0 : ByteArray)
 | p52 (s0 : (Option (List data_variant))) (s7 : Int) (s8 : Int) (B0 : ByteArray)
def vd9 : wF2 → List Bool
 | .start .. => []
 | .p52 .. => [false, false, true, false, true]
def xk3 : wF2 → St E.S
 | .start s0 B0 => st0 19 [.so 125 s0, .fn 123 [.bp 0 0]] [.var 9 [.v (.string B0)]]
 | .p52 s0 s7 s8 B0 => mkSt 19 [0, 1, 7, 8] [.so 125 s0, .fn 123 [.bp 0 0], .v (.int .i64 s7), .v (.int .i64 s8)] [.var 9 [.v (.string B0)]]
abbrev xY1 : Type := ((Int × Unit) × ((ByteArray × Unit) × Unit))
def uR4 : Res E (Int × Unit) ((ByteArray × Unit) × Unit) := { rows := [], flat := [], keep := 1, done := [0], rl := (.cons (Rd.int .i64) .nil), rb := (.cons (.var 9 (.cons Rd.str .nil)) .nil) }
def un9 : wF2 → Option xY1
 | .start s0 B0 =>
  un9 (.p52 s0 (List.length (Option.getD s0 []) : Int) (0 : Int) B0)
 | .p52 s0 s7 s8 B0 =>
  if (decide (s8 < s7)) = true then
   (idx (Option.getD s0 []) s8) >>= fun t1 =>
   (u30 (.start t1.name t1.fields t1.parts B0)) >>= fun t2 =>
   if t2.1.1 = true then
    some ((s8, ()), ((B0, ()), ()))
   else
    un9 (.p52 s0 s7 (IntKind.wrap .i64 (s8 + (1 : Int))) B0)
  else
   some (((-1 : Int), ()), ((B0, ()), ()))
 partial_fixpoint
def xq5 : List (Plc E wF2) := [⟨52, [false, false, true, false, true], { slots := [0, 1, 7, 8], rows := [], flat := [], keep := 1 }, _, _, (.cons (Rd.so 125) (.cons (Rd.fn 123 (.cons (Rd.bp 0 0) .nil)) (.cons (Rd.int .i64) (.cons (Rd.int .i64) .nil)))), (.cons (.var 9 (.cons Rd.str .nil)) .nil), fun a b => .p52 a.1 a.2.2.1 a.2.2.2.1 b.1.1⟩]
theorem wW2 : All (ub8 19 1 vd9 xk3) xq5 := ⟨⟨rfl, rfl, fun _ _ => rfl, fun _ _ => rfl⟩, trivial⟩
def vy7 : Code := Tryz.f122.body.getD .skip
def wv8 : Spec E.S := (Con.add w68 ub1)
theorem wc6 : ub0 E wv8 := (Con.add_ok wJ2 ua7)
theorem xE9 : ∀ pt r, un9 pt = some r → Good E Tryz.f122 vy7 1 (uR4.av r) (uR4.bx r) (vd9 pt) (xk3 pt) := by
 refine un9.partial_correctness (fun pt r => Good E Tryz.f122 vy7 1 (uR4.av r) (uR4.bx r) (vd9 pt) (xk3 pt)) ?_
 intro run' ih pt r hr
 cases pt <;> exact ua9 (spec := wv8) (wr := (mkWr [] [])) (l := xq5) (z := 19) (p := uR4) E_ok wW2.mem rfl wc6 ih (Eq.trans (by kernel_rfl) hr)
def w69 : Con E := ⟨122, _, _, (.cons (Rd.so 125).w (.cons (Rd.fn 123 (.cons (Rd.bp 0 0) .nil)).w .nil)), (.cons (.var 9 (.cons Rd.str .nil)) .nil), 1, xY1, fun a b => un9 (.start a.1 b.1.1), uR4.av, uR4.bx⟩
theorem wJ3 : w69.Ok := fun a b r h => ub4 (fn := Tryz.f122) (code := vy7) E_ok (by kernel_rfl) (by kernel_rfl) (by kernel_rfl) (Nat.le_of_ble_eq_true rfl) (xE9 (.start a.1 b.1.1) r h)
inductive wF3 where
 | start (x0 : (Option ua4)) (name1 : ByteArray)
def vO1 : wF3 → List Bool
 | .start .. => []
def xS2 : wF3 → St E.S
 | .start x0 name1 => st0 11 [.op 128 x0, .v (.string name1)] []
abbrev xY2 : Type := ((Int × Unit) × Unit)
def vh8 : Res E (Int × Unit) Unit := { rows := [], flat := [], keep := 0, done := [0], rl := (.cons (Rd.int .i64) .nil), rb := .nil }
def uJ5 : wF3 → Option xY2
 | .start x0 name1 =>
  x0 >>= fun t1 =>
  (un9 (.start t1.constructors name1)) >>= fun t2 =>
  some ((t2.1.1, ()), ())
def xq6 : List (Plc E wF3) := []
theorem wW3 : All (ub8 11 0 vO1 xS2) xq6 := trivial
def wm5 : Code := Tryz.f80.body.getD .skip
def wv9 : Spec E.S := (Con.add w69 ub1)
theorem wc7 : ub0 E wv9 := (Con.add_ok wJ3 ua7)
theorem xF0 : ∀ pt r, uJ5 pt = some r → Good E Tryz.f80 wm5 0 (vh8.av r) (vh8.bx r) (vO1 pt) (xS2 pt) := by
 intro pt r hr
 cases pt <;> exact ua9 (spec := wv9) (wr := (mkWr [] [])) (l := xq6) (z := 11) (p := vh8) (run' := fun _ => none) E_ok wW3.mem rfl wc7 (fun _ _ h => by cases h) (Eq.trans (by kernel_rfl) hr)
def vY6 : Con E := ⟨80, _, _, (.cons (Rd.op 128).w (.cons Rd.str.w .nil)), .nil, 0, xY2, fun a b => uJ5 (.start a.1 a.2.1), vh8.av, vh8.bx⟩
theorem vr6 : vY6.Ok := fun a b r h => ub4 (fn := Tryz.f80) (code := wm5) E_ok (by kernel_rfl) (by kernel_rfl) (by kernel_rfl) (Nat.le_of_ble_eq_true rfl) (xF0 (.start a.1 a.2.1) r h)
end
end Go.Proofs.YtaennkkcnhfglaaGreatDoor.Ev.F
