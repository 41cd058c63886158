/- A part of the proof. -/
import Derived.Test.YtaennkkcnhfglaaGreatDoorAEvShelf
import Derived.Test.YtaennkkcnhfglaaGreatDoorAShelf
import Derived.Test.YtaennkkcnhfglaaGreatDoorAEvLib
import Derived.Test.YtaennkkcnhfglaaGreatDoorAEvRun
import Derived.Test.YtaennkkcnhfglaaGreatDoorProg
set_option linter.unusedVariables false
set_option maxRecDepth 100000
namespace Go.Proofs.YtaennkkcnhfglaaGreatDoor.Ev.F
open Go.Proofs Go.Proofs.YtaennkkcnhfglaaGreatDoor.Ev
noncomputable section
structure ua0 where
 Kind : Int
 Value : Int
 Name : ByteArray
 Parts : (List ua0)
structure ua6 where
 Name : ByteArray
 Type_ : ua0
structure ua1 where
 Name : ByteArray
 Fields : (List ua6)
structure ua2 where
 Name : ByteArray
 Params : (List ByteArray)
 Constructors : (List ua1)
structure uo0 where
 list : (List ua2)
 params : (List ByteArray)
mutual
structure ua4 where
 bits : Int
 constructors : (Option (List data_variant))
structure data_variant where
 name : ByteArray
 fields : (List ua6)
 parts : (Option (List (Option ua4)))
end
structure ua5 where
 Name : ByteArray
 Number : Int
 Parts : (List ua5)
structure uc9 where
 Name : ByteArray
 Low : Int
 Width : Int
structure ub2 where
 Name : ByteArray
 Tag : Int
 Parts : (List uc9)
def S : Nat → Type
 | 5 => Int
 | 9 => ByteArray
 | 25 => ua0
 | 29 => Int
 | 37 => ua5
 | 56 => ua1
 | 58 => ua6
 | 75 => uc9
 | 81 => ub2
 | 103 => ua2
 | 105 => (Option ua4)
 | 107 => uo0
 | 125 => data_variant
 | 128 => ua4
 | 188 => Int
 | _ => Unit
def pk (e : Nat) : Pk S (S e) :=
 if h : e = 5 then h ▸ ((Pk.int .u8) : Pk S Int) else
 if h : e = 9 then h ▸ (Pk.str : Pk S ByteArray) else
 if h : e = 25 then h ▸ ((Pk.iso (Pk.cons (Pk.int .i64) (Pk.cons (Pk.int .i64) (Pk.cons Pk.str (Pk.cons (Pk.sl 25) Pk.unit)))) (fun a => (⟨a.1, a.2.1, a.2.2.1, a.2.2.2.1⟩ : ua0)) (fun x => (x.Kind, x.Value, x.Name, x.Parts, ())) (fun x => by cases x; rfl)) : Pk S ua0) else
 if h : e = 29 then h ▸ ((Pk.int .i64) : Pk S Int) else
 if h : e = 37 then h ▸ ((Pk.iso (Pk.cons Pk.str (Pk.cons (Pk.int .i64) (Pk.cons (Pk.sl 37) Pk.unit))) (fun a => (⟨a.1, a.2.1, a.2.2.1⟩ : ua5)) (fun x => (x.Name, x.Number, x.Parts, ())) (fun x => by cases x; rfl)) : Pk S ua5) else
 if h : e = 56 then h ▸ ((Pk.iso (Pk.cons Pk.str (Pk.cons (Pk.sl 58) Pk.unit)) (fun a => (⟨a.1, a.2.1⟩ : ua1)) (fun x => (x.Name, x.Fields, ())) (fun _ => rfl)) : Pk S ua1) else
 if h : e = 58 then h ▸ ((Pk.iso (Pk.cons Pk.str (Pk.cons (Pk.iso (Pk.cons (Pk.int .i64) (Pk.cons (Pk.int .i64) (Pk.cons Pk.str (Pk.cons (Pk.sl 25) Pk.unit)))) (fun a => (⟨a.1, a.2.1, a.2.2.1, a.2.2.2.1⟩ : ua0)) (fun x => (x.Kind, x.Value, x.Name, x.Parts, ())) (fun x => by cases x; rfl)) Pk.unit)) (fun a => (⟨a.1, a.2.1⟩ : ua6)) (fun x => (x.Name, x.Type_, ())) (fun _ => rfl)) : Pk S ua6) else
 if h : e = 75 then h ▸ ((Pk.iso (Pk.cons Pk.str (Pk.cons (Pk.int .i64) (Pk.cons (Pk.int .i64) Pk.unit))) (fun a => (⟨a.1, a.2.1, a.2.2.1⟩ : uc9)) (fun x => (x.Name, x.Low, x.Width, ())) (fun _ => rfl)) : Pk S uc9) else
 if h : e = 81 then h ▸ ((Pk.iso (Pk.cons Pk.str (Pk.cons (Pk.int .i64) (Pk.cons (Pk.sl 75) Pk.unit))) (fun a => (⟨a.1, a.2.1, a.2.2.1⟩ : ub2)) (fun x => (x.Name, x.Tag, x.Parts, ())) (fun _ => rfl)) : Pk S ub2) else
 if h : e = 103 then h ▸ ((Pk.iso (Pk.cons Pk.str (Pk.cons (Pk.sl 9) (Pk.cons (Pk.sl 56) Pk.unit))) (fun a => (⟨a.1, a.2.1, a.2.2.1⟩ : ua2)) (fun x => (x.Name, x.Params, x.Constructors, ())) (fun _ => rfl)) : Pk S ua2) else
 if h : e = 105 then h ▸ ((Pk.op 128) : Pk S (Option ua4)) else
 if h : e = 107 then h ▸ ((Pk.iso (Pk.cons (Pk.sl 103) (Pk.cons (Pk.sl 9) Pk.unit)) (fun a => (⟨a.1, a.2.1⟩ : uo0)) (fun x => (x.list, x.params, ())) (fun _ => rfl)) : Pk S uo0) else
 if h : e = 125 then h ▸ ((Pk.iso (Pk.cons Pk.str (Pk.cons (Pk.sl 58) (Pk.cons (Pk.so 105) Pk.unit))) (fun a => (⟨a.1, a.2.1, a.2.2.1⟩ : data_variant)) (fun x => (x.name, x.fields, x.parts, ())) (fun x => by cases x; rfl)) : Pk S data_variant) else
 if h : e = 128 then h ▸ ((Pk.iso (Pk.cons (Pk.int .i64) (Pk.cons (Pk.so 125) Pk.unit)) (fun a => (⟨a.1, a.2.1⟩ : ua4)) (fun x => (x.bits, x.constructors, ())) (fun x => by cases x; rfl)) : Pk S ua4) else
 if h : e = 188 then h ▸ ((Pk.int .u64) : Pk S Int) else
 Pk.no (Tryz.prog.cellsOf e)
theorem x47 (e : Nat) : (pk e).len = Tryz.prog.cellsOf e := by
  unfold pk
  by_cases h : e = 5
  · subst h; kernel_rfl
  refine (congrArg Pk.len (dif_neg h)).trans ?_; clear h
  by_cases h : e = 9
  · subst h; kernel_rfl
  refine (congrArg Pk.len (dif_neg h)).trans ?_; clear h
  by_cases h : e = 25
  · subst h; kernel_rfl
  refine (congrArg Pk.len (dif_neg h)).trans ?_; clear h
  by_cases h : e = 29
  · subst h; kernel_rfl
  refine (congrArg Pk.len (dif_neg h)).trans ?_; clear h
  by_cases h : e = 37
  · subst h; kernel_rfl
  refine (congrArg Pk.len (dif_neg h)).trans ?_; clear h
  by_cases h : e = 56
  · subst h; kernel_rfl
  refine (congrArg Pk.len (dif_neg h)).trans ?_; clear h
  by_cases h : e = 58
  · subst h; kernel_rfl
  refine (congrArg Pk.len (dif_neg h)).trans ?_; clear h
  by_cases h : e = 75
  · subst h; kernel_rfl
  refine (congrArg Pk.len (dif_neg h)).trans ?_; clear h
  by_cases h : e = 81
  · subst h; kernel_rfl
  refine (congrArg Pk.len (dif_neg h)).trans ?_; clear h
  by_cases h : e = 103
  · subst h; kernel_rfl
  refine (congrArg Pk.len (dif_neg h)).trans ?_; clear h
  by_cases h : e = 105
  · subst h; kernel_rfl
  refine (congrArg Pk.len (dif_neg h)).trans ?_; clear h
  by_cases h : e = 107
  · subst h; kernel_rfl
  refine (congrArg Pk.len (dif_neg h)).trans ?_; clear h
  by_cases h : e = 125
  · subst h; kernel_rfl
  refine (congrArg Pk.len (dif_neg h)).trans ?_; clear h
  by_cases h : e = 128
  · subst h; kernel_rfl
  refine (congrArg Pk.len (dif_neg h)).trans ?_; clear h
  by_cases h : e = 188
  · subst h; kernel_rfl
  refine (congrArg Pk.len (dif_neg h)).trans ?_; clear h
  exact Pk.no_len _
def plain : Nat → Bool := fun t => mem t []
def byt (e : Nat) (s : ByteArray) : Option (List (S e)) := if h : e = 5 then some (h ▸ (ub9 s : List Int)) else none
theorem x22 : ∀ e s l, byt e s = some l → Tryz.prog.underlying e = some (.int .u8) ∧ Tryz.prog.cellsOf e = 1 ∧ l.length = s.size ∧ ∀ i x, l[i]? = some x → (pk e).wt x = [.v (.int .u8 ((s.data.toList.getD i 0).toNat : Int))] := by
  intro e s l h
  unfold byt at h
  split at h
  · rename_i he; subst he; obtain rfl := Option.some.inj h
    exact ⟨by kernel_rfl, by kernel_rfl, (vj4 s).1, fun i x hx => by rw [(vj4 s).2 i x hx]; kernel_rfl⟩
  cases h
def x33 : List Int := [1, 10, 100, 1000, 10000, 100000, 1000000, 10000000, 100000000, 1000000000, 10000000000, 100000000000, 1000000000000, 10000000000000, 100000000000000, 1000000000000000, 10000000000000000, 100000000000000000, 1000000000000000000, 10000000000000000000]
def x34 : List Int := [0, 1, 28, 2, 29, 14, 24, 3, 30, 22, 20, 15, 25, 17, 4, 8, 31, 27, 13, 23, 21, 19, 16, 7, 26, 12, 18, 6, 11, 5, 10, 9]
def x35 : List Int := [0, 1, 56, 2, 57, 49, 28, 3, 61, 58, 42, 50, 38, 29, 17, 4, 62, 47, 59, 36, 45, 43, 51, 22, 53, 39, 33, 30, 24, 18, 12, 5, 63, 55, 48, 27, 60, 41, 37, 16, 46, 35, 44, 21, 52, 32, 23, 11, 54, 26, 40, 15, 34, 20, 31, 10, 25, 14, 19, 9, 13, 8, 7, 6]
def w50 : Nat → Option (AV S)
 | 3 => some (.ar 188 x33)
 | 4 => some (.ar 5 x34)
 | 5 => some (.ar 5 x35)
 | _ => none
theorem xt4 : ∀ g x, w50 g = some x → idsV x = [] := by
 intro g x h
 unfold w50 at h
 split at h <;> first | (cases h; done) | (obtain rfl := Option.some.inj h; rfl)
def nums : (e : Nat) → List (S e) → Option (List Int)
 | 5, l => some l
 | _, _ => none
theorem xU9 : ∀ e l xs, nums e l = some xs → Tryz.prog.underlying e = some (.int .u8) ∧ xs.length = l.length ∧ ∀ (i : Nat) x n, l[i]? = some x → xs[i]? = some n → (pk e).wt x = [.v (.int .u8 n)] := by
  intro e l xs h
  unfold nums at h
  split at h
  · obtain rfl := Option.some.inj h
    exact ⟨by kernel_rfl, rfl, fun i x n hx hn => by obtain rfl : x = n := Option.some.inj (hx.symm.trans hn); kernel_rfl⟩
  · cases h
def held : Nat → Option (String × Array Value)
 | 3 => some ("internal/strconv.uint64pow10", (Go.Lib.pow10Tab.map fun z => Value.int .u64 z).toArray)
 | _ => none
def ro : Nat → Bool := fun f => mem f [113, 123, 161, 178]
def rc : Nat → List Nat
 | _ => []
def fr : Nat → Bool := fun f => mem f []
def flat : Nat → Bool := fun e => mem e []
def lk : Nat → Nat → Option Nat
 | 125, 2 => some 105
 | 128, 1 => some 125
 | _, _ => none
theorem x90 : ∀ e j e1, lk e j = some e1 → ∀ y l, ((pk e).rd (((pk e).wt y).set j (.sl e1 l false))).isSome = true := by
  intro e j e1 h
  unfold lk at h
  split at h
  · obtain rfl := Option.some.inj h; exact fun y l => by kernel_rfl
  · obtain rfl := Option.some.inj h; exact fun y l => by kernel_rfl
  · cases h
noncomputable abbrev E : Env := x39 Tryz.prog S pk w50 plain byt nums held ro rc fr flat lk
theorem E_ok : E.Ok := xD1 x47 (by kernel_rfl) xt4 (fun t h => by cases h) x22 xU9 (fun e h => by cases h) x90
def ur2 : Con E := wX4 E 128
theorem ut8 : ur2.Ok := wA2 (fn := Tryz.f128) (by kernel_rfl) (by kernel_rfl) (by kernel_rfl) (g := 3) rfl (fun n w h0 h1 ht => Tryz.strconv_Itoa n h0 h1 w ht)
def ur3 : Con E := wX5 E 136 9 uN9
theorem ut9 : ur3.Ok := wA3 (fn := Tryz.f136) (by kernel_rfl) (by kernel_rfl) (by kernel_rfl) (fun x => x) (fun _ => rfl) (by kernel_rfl) (fun p u => congrArg (fun l => uN9 (l, p.2) u) (List.map_id' p.1).symm) (fun a c sep w => Tryz.strings_Join_none a c sep w) (fun bk o c xs sep w => Tryz.strings_Join bk o c xs sep w)
def ue9 : Con E := ux3 E 189
theorem ui4 : ue9.Ok := uE8 189 (fn := Tryz.f189) (by kernel_rfl) (by kernel_rfl) (by kernel_rfl) (by kernel_rfl) (by kernel_rfl)
def base : Spec E.S := (Con.add ue9 (Con.add ur3 (Con.add ur2 ub0)))
theorem x88 : ua9 E base := (Con.add_ok ui4 (Con.add_ok ut9 (Con.add_ok ut8 ua7)))
inductive P_z0 where
 | start
def wj9 : P_z0 → List Bool
 | .start => []
def x67 : P_z0 → St E.S
 | .start => st0 24 [] []
abbrev R_z0 : Type := (((List ua2) × Unit) × Unit)
def vM7 : Res E ((List ua2) × Unit) Unit := { rows := [], flat := [], keep := 0, done := [0], rl := (.cons (Rd.sl 103 true) .nil), rb := .nil }
def u22 : P_z0 → Option R_z0
 | .start =>
  some ((([(⟨(⟨#[77, 97, 121, 98, 101]⟩ : ByteArray), ([(⟨#[97]⟩ : ByteArray)] : List ByteArray), ([(⟨(⟨#[78, 111, 110, 101]⟩ : ByteArray), []⟩ : ua1), (⟨(⟨#[83, 111, 109, 101]⟩ : ByteArray), ([(⟨(⟨#[118, 97, 108, 117, 101]⟩ : ByteArray), (⟨(0 : Int), (0 : Int), (⟨#[97]⟩ : ByteArray), []⟩ : ua0)⟩ : ua6)] : List ua6)⟩ : ua1)] : List ua1)⟩ : ua2), (⟨(⟨#[80, 97, 105, 114]⟩ : ByteArray), ([(⟨#[97]⟩ : ByteArray), (⟨#[98]⟩ : ByteArray)] : List ByteArray), ([(⟨(⟨#[80, 97, 105, 114]⟩ : ByteArray), ([(⟨(⟨#[108, 101, 102, 116]⟩ : ByteArray), (⟨(0 : Int), (0 : Int), (⟨#[97]⟩ : ByteArray), []⟩ : ua0)⟩ : ua6), (⟨(⟨#[114, 105, 103, 104, 116]⟩ : ByteArray), (⟨(0 : Int), (0 : Int), (⟨#[98]⟩ : ByteArray), []⟩ : ua0)⟩ : ua6)] : List ua6)⟩ : ua1)] : List ua1)⟩ : ua2), (⟨(⟨#[67, 111, 108, 111, 114]⟩ : ByteArray), [], ([(⟨(⟨#[82, 101, 100]⟩ : ByteArray), []⟩ : ua1), (⟨(⟨#[71, 114, 101, 101, 110]⟩ : ByteArray), []⟩ : ua1), (⟨(⟨#[66, 108, 117, 101]⟩ : ByteArray), []⟩ : ua1)] : List ua1)⟩ : ua2)] : List ua2), ()), ())
def xL9 : List (Plc E P_z0) := []
theorem xe8 : All (ub8 24 0 wj9 x67) xL9 := trivial
def wW6 : Code := Tryz.f57.body.getD .skip
def xb1 : Spec E.S := ub0
theorem wK6 : ua9 E xb1 := ua7
theorem xT0 : ∀ pt r, u22 pt = some r → Good E Tryz.f57 wW6 0 (vM7.av r) (vM7.bx r) (wj9 pt) (x67 pt) := by
 intro pt r hr
 cases pt <;> exact ua8 (spec := xb1) (wr := (mkWr [] [])) (l := xL9) (z := 24) (p := vM7) (run' := fun _ => none) E_ok xe8.mem rfl wK6 (fun _ _ h => by cases h) (Eq.trans (by kernel_rfl) hr)
def xG7 : Con E := ⟨57, _, _, .nil, .nil, 0, R_z0, fun a b => u22 (.start), vM7.av, vM7.bx⟩
theorem wX7 : xG7.Ok := fun a b r h => ub3 (fn := Tryz.f57) (code := wW6) E_ok (by kernel_rfl) (by kernel_rfl) (by kernel_rfl) (Nat.le_of_ble_eq_true rfl) (xT0 (.start) r h)
inductive P_z1 where
 | start (n0 : Int)
def wk0 : P_z1 → List Bool
 | .start .. => []
def x68 : P_z1 → St E.S
 | .start n0 => st0 5 [.v (.int .i64 n0)] []
abbrev R_z1 : Type := (((Int × (Int × (ByteArray × (Unit × Unit)))) × Unit) × Unit)
def vM8 : Res E ((Int × (Int × (ByteArray × (Unit × Unit)))) × Unit) Unit := { rows := [], flat := [], keep := 0, done := [0], rl := (.cons (Rd.agg (.cons (Rd.int .i64) (.cons (Rd.int .i64) (.cons Rd.str (.cons Rd.nl .nil))))) .nil), rb := .nil }
def vN6 : P_z1 → Option R_z1
 | .start n0 =>
  some ((((2 : Int), (n0, ((⟨#[]⟩ : ByteArray), ((), ())))), ()), ())
def xM0 : List (Plc E P_z1) := []
theorem xf9 : All (ub8 5 0 wk0 x68) xM0 := trivial
def wW7 : Code := Tryz.f101.body.getD .skip
def xb2 : Spec E.S := ub0
theorem wK7 : ua9 E xb2 := ua7
theorem xT1 : ∀ pt r, vN6 pt = some r → Good E Tryz.f101 wW7 0 (vM8.av r) (vM8.bx r) (wk0 pt) (x68 pt) := by
 intro pt r hr
 cases pt <;> exact ua8 (spec := xb2) (wr := (mkWr [] [])) (l := xM0) (z := 5) (p := vM8) (run' := fun _ => none) E_ok xf9.mem rfl wK7 (fun _ _ h => by cases h) (Eq.trans (by kernel_rfl) hr)
def xG8 : Con E := ⟨101, _, _, (.cons (Rd.int .i64).w .nil), .nil, 0, R_z1, fun a b => vN6 (.start a.1), vM8.av, vM8.bx⟩
theorem wY4 : xG8.Ok := fun a b r h => ub3 (fn := Tryz.f101) (code := wW7) E_ok (by kernel_rfl) (by kernel_rfl) (by kernel_rfl) (Nat.le_of_ble_eq_true rfl) (xT1 (.start a.1) r h)
inductive P_z2 where
 | start (name0 : ByteArray) (parts1 : (List ua0))
def wk1 : P_z2 → List Bool
 | .start .. => []
def x69 : P_z2 → St E.S
 | .start name0 parts1 => st0 8 [.v (.string name0), .sl 25 parts1 false] []
abbrev R_z2 : Type := (((Int × (Int × (ByteArray × ((List ua0) × Unit)))) × Unit) × Unit)
def vM9 : Res E ((Int × (Int × (ByteArray × ((List ua0) × Unit)))) × Unit) Unit := { rows := [], flat := [], keep := 0, done := [0], rl := (.cons (Rd.agg (.cons (Rd.int .i64) (.cons (Rd.int .i64) (.cons Rd.str (.cons (Rd.sl 25 false) .nil))))) .nil), rb := .nil }
def uE3 : P_z2 → Option R_z2
 | .start name0 parts1 =>
  some ((((1 : Int), ((0 : Int), (name0, (parts1, ())))), ()), ())
def xM1 : List (Plc E P_z2) := []
theorem xh0 : All (ub8 8 0 wk1 x69) xM1 := trivial
def wW8 : Code := Tryz.f58.body.getD .skip
def xb3 : Spec E.S := ub0
theorem wK8 : ua9 E xb3 := ua7
theorem xT2 : ∀ pt r, uE3 pt = some r → Good E Tryz.f58 wW8 0 (vM9.av r) (vM9.bx r) (wk1 pt) (x69 pt) := by
 intro pt r hr
 cases pt <;> exact ua8 (spec := xb3) (wr := (mkWr [] [])) (l := xM1) (z := 8) (p := vM9) (run' := fun _ => none) E_ok xh0.mem rfl wK8 (fun _ _ h => by cases h) (Eq.trans (by kernel_rfl) hr)
def wY5 : Con E := ⟨58, _, _, (.cons Rd.str.w (.cons (Rw.sl 25) .nil)), .nil, 0, R_z2, fun a b => uE3 (.start a.1 a.2.1), vM9.av, vM9.bx⟩
theorem vG2 : wY5.Ok := fun a b r h => ub3 (fn := Tryz.f58) (code := wW8) E_ok (by kernel_rfl) (by kernel_rfl) (by kernel_rfl) (Nat.le_of_ble_eq_true rfl) (xT2 (.start a.1 a.2.1) r h)
inductive P_z3 where
 | start (n0 : Int)
def wk2 : P_z3 → List Bool
 | .start .. => []
def x70 : P_z3 → St E.S
 | .start n0 => st0 7 [.v (.int .i64 n0)] []
abbrev R_z3 : Type := (((Int × (Int × (ByteArray × ((List ua0) × Unit)))) × Unit) × Unit)
def vN0 : Res E ((Int × (Int × (ByteArray × ((List ua0) × Unit)))) × Unit) Unit := { rows := [], flat := [], keep := 0, done := [0], rl := (.cons (Rd.agg (.cons (Rd.int .i64) (.cons (Rd.int .i64) (.cons Rd.str (.cons (Rd.sl 25 false) .nil))))) .nil), rb := .nil }
def vg8 : P_z3 → Option R_z3
 | .start n0 =>
  (vN6 (.start n0)) >>= fun t1 =>
  (uE3 (.start (⟨#[66, 105, 116]⟩ : ByteArray) ([(⟨t1.1.1.1, t1.1.1.2.1, t1.1.1.2.2.1, []⟩ : ua0)] : List ua0))) >>= fun t2 =>
  some (((t2.1.1.1, (t2.1.1.2.1, (t2.1.1.2.2.1, (t2.1.1.2.2.2.1, ())))), ()), ())
def xM2 : List (Plc E P_z3) := []
theorem xi1 : All (ub8 7 0 wk2 x70) xM2 := trivial
def wW9 : Code := Tryz.f59.body.getD .skip
def xb4 : Spec E.S := (Con.add wY5 (Con.add xG8 ub0))
theorem wK9 : ua9 E xb4 := (Con.add_ok vG2 (Con.add_ok wY4 ua7))
theorem xT3 : ∀ pt r, vg8 pt = some r → Good E Tryz.f59 wW9 0 (vN0.av r) (vN0.bx r) (wk2 pt) (x70 pt) := by
 intro pt r hr
 cases pt <;> exact ua8 (spec := xb4) (wr := (mkWr [] [])) (l := xM2) (z := 7) (p := vN0) (run' := fun _ => none) E_ok xi1.mem rfl wK9 (fun _ _ h => by cases h) (Eq.trans (by kernel_rfl) hr)
def xG9 : Con E := ⟨59, _, _, (.cons (Rd.int .i64).w .nil), .nil, 0, R_z3, fun a b => vg8 (.start a.1), vN0.av, vN0.bx⟩
theorem wZ9 : xG9.Ok := fun a b r h => ub3 (fn := Tryz.f59) (code := wW9) E_ok (by kernel_rfl) (by kernel_rfl) (by kernel_rfl) (Nat.le_of_ble_eq_true rfl) (xT3 (.start a.1) r h)
inductive P_z4 where
 | start (s0 : (List ByteArray))
def wk3 : P_z4 → List Bool
 | .start .. => []
def x71 : P_z4 → St E.S
 | .start s0 => st0 9 [.sl 9 s0 false] []
abbrev R_z4 : Type := (((List ByteArray) × Unit) × Unit)
def vN1 : Res E ((List ByteArray) × Unit) Unit := { rows := [], flat := [], keep := 0, done := [0], rl := (.cons (Rd.sl 9 true) .nil), rb := .nil }
def uM8 : P_z4 → Option R_z4
 | .start s0 =>
  (bif decide ((List.length s0 : Int) = (List.length s0 : Int)) then span (List.length s0) (0 : Int) (List.length s0 : Int) else none) >>= fun t1 =>
  some ((cut s0 t1, ()), ())
def xM3 : List (Plc E P_z4) := []
theorem xj2 : All (ub8 9 0 wk3 x71) xM3 := trivial
def wX0 : Code := Tryz.f78.body.getD .skip
def xb5 : Spec E.S := ub0
theorem wL0 : ua9 E xb5 := ua7
theorem xT4 : ∀ pt r, uM8 pt = some r → Good E Tryz.f78 wX0 0 (vN1.av r) (vN1.bx r) (wk3 pt) (x71 pt) := by
 intro pt r hr
 cases pt <;> exact ua8 (spec := xb5) (wr := (mkWr [] [])) (l := xM3) (z := 9) (p := vN1) (run' := fun _ => none) E_ok xj2.mem rfl wL0 (fun _ _ h => by cases h) (Eq.trans (by kernel_rfl) hr)
def w00 : Con E := ⟨78, _, _, (.cons (Rw.sl 9) .nil), .nil, 0, R_z4, fun a b => uM8 (.start a.1), vN1.av, vN1.bx⟩
theorem vG3 : w00.Ok := fun a b r h => ub3 (fn := Tryz.f78) (code := wX0) E_ok (by kernel_rfl) (by kernel_rfl) (by kernel_rfl) (Nat.le_of_ble_eq_true rfl) (xT4 (.start a.1) r h)
inductive P_z5 where
 | start (n0 : Int) (lo1 : Int) (hi2 : Int)
def wk4 : P_z5 → List Bool
 | .start .. => []
def x72 : P_z5 → St E.S
 | .start n0 lo1 hi2 => st0 15 [.v (.int .i64 n0), .v (.int .i64 lo1), .v (.int .i64 hi2)] []
abbrev R_z5 : Type := ((Bool × Unit) × Unit)
def vN2 : Res E (Bool × Unit) Unit := { rows := [], flat := [], keep := 0, done := [0], rl := (.cons Rd.bool .nil), rb := .nil }
def uk2 : P_z5 → Option R_z5
 | .start n0 lo1 hi2 =>
  if (decide (lo1 ≤ n0)) = true then
   some ((decide (n0 ≤ hi2), ()), ())
  else
   some ((false, ()), ())
def xM4 : List (Plc E P_z5) := []
theorem xk3 : All (ub8 15 0 wk4 x72) xM4 := trivial
def wX1 : Code := Tryz.f70.body.getD .skip
def xb6 : Spec E.S := ub0
theorem wL1 : ua9 E xb6 := ua7
theorem xT5 : ∀ pt r, uk2 pt = some r → Good E Tryz.f70 wX1 0 (vN2.av r) (vN2.bx r) (wk4 pt) (x72 pt) := by
 intro pt r hr
 cases pt <;> exact ua8 (spec := xb6) (wr := (mkWr [] [])) (l := xM4) (z := 15) (p := vN2) (run' := fun _ => none) E_ok xk3.mem rfl wL1 (fun _ _ h => by cases h) (Eq.trans (by kernel_rfl) hr)
def uS2 : Con E := ⟨70, _, _, (.cons (Rd.int .i64).w (.cons (Rd.int .i64).w (.cons (Rd.int .i64).w .nil))), .nil, 0, R_z5, fun a b => uk2 (.start a.1 a.2.1 a.2.2.1), vN2.av, vN2.bx⟩
theorem uq5 : uS2.Ok := fun a b r h => ub3 (fn := Tryz.f70) (code := wX1) E_ok (by kernel_rfl) (by kernel_rfl) (by kernel_rfl) (Nat.le_of_ble_eq_true rfl) (xT5 (.start a.1 a.2.1 a.2.2.1) r h)
inductive P_z6 where
 | start (s0 : ByteArray)
 | p52 (s0 : ByteArray) (s7 : (List Int)) (s8 : Int) (s9 : Int)
 | p3379 (s0 : ByteArray) (i3 : Int) (c4 : Int) (letter5 : Bool) (s7 : (List Int)) (s8 : Int) (s9 : Int)
def vy9 : P_z6 → List Bool
 | .start .. => []
 | .p52 .. => [false, false, true, false, true]
 | .p3379 .. => [true, true, false, false, true, true, false, false, true, false, true]
def xX9 : P_z6 → St E.S
 | .start s0 => st0 50 [.v (.string s0)] []
 | .p52 s0 s7 s8 s9 => mkSt 50 [0, 7, 8, 9] [.v (.string s0), .sl 5 s7 false, .v (.int .i64 s8), .v (.int .i64 s9)] []
 | .p3379 s0 i3 c4 letter5 s7 s8 s9 => mkSt 50 [0, 3, 4, 5, 7, 8, 9] [.v (.string s0), .v (.int .i64 i3), .v (.int .u8 c4), .v (.bool letter5), .sl 5 s7 false, .v (.int .i64 s8), .v (.int .i64 s9)] []
abbrev R_z6 : Type := ((Bool × Unit) × Unit)
def ve4 : Res E (Bool × Unit) Unit := { rows := [], flat := [], keep := 0, done := [0], rl := (.cons Rd.bool .nil), rb := .nil }
def ug3 : P_z6 → Option R_z6
 | .start s0 =>
  ug3 (.p52 s0 (ub9 s0) (List.length (ub9 s0) : Int) (0 : Int))
 | .p52 s0 s7 s8 s9 =>
  if (decide (s9 < s8)) = true then
   (idx s7 s9) >>= fun t1 =>
   if (decide ((97 : Int) ≤ t1)) = true then
    if (decide (t1 ≤ (122 : Int))) = true then
     ug3 (.p3379 s0 s9 t1 true s7 s8 s9)
    else
     if (decide ((65 : Int) ≤ t1)) = true then
      ug3 (.p3379 s0 s9 t1 (decide (t1 ≤ (90 : Int))) s7 s8 s9)
     else
      ug3 (.p3379 s0 s9 t1 false s7 s8 s9)
   else
    if (decide ((65 : Int) ≤ t1)) = true then
     ug3 (.p3379 s0 s9 t1 (decide (t1 ≤ (90 : Int))) s7 s8 s9)
    else
     ug3 (.p3379 s0 s9 t1 false s7 s8 s9)
  else
   (uk2 (.start (s0.size : Int) (1 : Int) (16 : Int))) >>= fun t2 =>
   some ((t2.1.1, ()), ())
 | .p3379 s0 i3 c4 letter5 s7 s8 s9 =>
  if (!letter5) = true then
   if (i3 == (0 : Int)) = true then
    some ((false, ()), ())
   else
    if (c4 != (95 : Int)) = true then
     if (decide (c4 < (48 : Int))) = true then
      some ((false, ()), ())
     else
      if (decide (c4 > (57 : Int))) = true then
       some ((false, ()), ())
      else
       ug3 (.p52 s0 s7 s8 (IntKind.wrap .i64 (s9 + (1 : Int))))
    else
     ug3 (.p52 s0 s7 s8 (IntKind.wrap .i64 (s9 + (1 : Int))))
  else
   ug3 (.p52 s0 s7 s8 (IntKind.wrap .i64 (s9 + (1 : Int))))
 partial_fixpoint
def xM5 : List (Plc E P_z6) := [⟨52, [false, false, true, false, true], { slots := [0, 7, 8, 9], rows := [], flat := [], keep := 0 }, _, _, (.cons Rd.str (.cons (Rd.sl 5 false) (.cons (Rd.int .i64) (.cons (Rd.int .i64) .nil)))), .nil, fun a b => .p52 a.1 a.2.1 a.2.2.1 a.2.2.2.1⟩,
 ⟨3379, [true, true, false, false, true, true, false, false, true, false, true], { slots := [0, 3, 4, 5, 7, 8, 9], rows := [], flat := [], keep := 0 }, _, _, (.cons Rd.str (.cons (Rd.int .i64) (.cons (Rd.int .u8) (.cons Rd.bool (.cons (Rd.sl 5 false) (.cons (Rd.int .i64) (.cons (Rd.int .i64) .nil))))))), .nil, fun a b => .p3379 a.1 a.2.1 a.2.2.1 a.2.2.2.1 a.2.2.2.2.1 a.2.2.2.2.2.1 a.2.2.2.2.2.2.1⟩]
theorem xl4 : All (ub8 50 0 vy9 xX9) xM5 := ⟨⟨rfl, rfl, fun _ _ => rfl, fun _ _ => rfl⟩, ⟨⟨rfl, rfl, fun _ _ => rfl, fun _ _ => rfl⟩, trivial⟩⟩
def vS2 : Code := Tryz.f129.body.getD .skip
def xb7 : Spec E.S := (Con.add uS2 ub0)
theorem wL2 : ua9 E xb7 := (Con.add_ok uq5 ua7)
theorem xT6 : ∀ pt r, ug3 pt = some r → Good E Tryz.f129 vS2 0 (ve4.av r) (ve4.bx r) (vy9 pt) (xX9 pt) := by
 refine ug3.partial_correctness (fun pt r => Good E Tryz.f129 vS2 0 (ve4.av r) (ve4.bx r) (vy9 pt) (xX9 pt)) ?_
 intro run' ih pt r hr
 cases pt <;> exact ua8 (spec := xb7) (wr := (mkWr [] [])) (l := xM5) (z := 50) (p := ve4) E_ok xl4.mem rfl wL2 ih (Eq.trans (by kernel_rfl) hr)
def w12 : Con E := ⟨129, _, _, (.cons Rd.str.w .nil), .nil, 0, R_z6, fun a b => ug3 (.start a.1), ve4.av, ve4.bx⟩
theorem vG4 : w12.Ok := fun a b r h => ub3 (fn := Tryz.f129) (code := vS2) E_ok (by kernel_rfl) (by kernel_rfl) (by kernel_rfl) (Nat.le_of_ble_eq_true rfl) (xT6 (.start a.1) r h)
inductive P_z7 where
 | start (is0 : Bool) (e1 : Int)
def wk5 : P_z7 → List Bool
 | .start .. => []
def x73 : P_z7 → St E.S
 | .start is0 e1 => st0 7 [.v (.bool is0), .v (.int .i64 e1)] []
abbrev R_z7 : Type := ((Int × Unit) × Unit)
def vN3 : Res E (Int × Unit) Unit := { rows := [], flat := [], keep := 0, done := [0], rl := (.cons (Rd.int .i64) .nil), rb := .nil }
def uc6 : P_z7 → Option R_z7
 | .start is0 e1 =>
  if is0 = true then
   some (((0 : Int), ()), ())
  else
   some ((e1, ()), ())
def xM6 : List (Plc E P_z7) := []
theorem xm5 : All (ub8 7 0 wk5 x73) xM6 := trivial
def wX2 : Code := Tryz.f111.body.getD .skip
def xb8 : Spec E.S := ub0
theorem wL3 : ua9 E xb8 := ua7
theorem xT7 : ∀ pt r, uc6 pt = some r → Good E Tryz.f111 wX2 0 (vN3.av r) (vN3.bx r) (wk5 pt) (x73 pt) := by
 intro pt r hr
 cases pt <;> exact ua8 (spec := xb8) (wr := (mkWr [] [])) (l := xM6) (z := 7) (p := vN3) (run' := fun _ => none) E_ok xm5.mem rfl wL3 (fun _ _ h => by cases h) (Eq.trans (by kernel_rfl) hr)
def uS3 : Con E := ⟨111, _, _, (.cons Rd.bool.w (.cons (Rd.int .i64).w .nil)), .nil, 0, R_z7, fun a b => uc6 (.start a.1 a.2.1), vN3.av, vN3.bx⟩
theorem uq6 : uS3.Ok := fun a b r h => ub3 (fn := Tryz.f111) (code := wX2) E_ok (by kernel_rfl) (by kernel_rfl) (by kernel_rfl) (Nat.le_of_ble_eq_true rfl) (xT7 (.start a.1 a.2.1) r h)
inductive P_z8 where
 | start (s0 : (List ByteArray)) (v1 : ByteArray)
 | p52 (s0 : (List ByteArray)) (v1 : ByteArray) (s7 : Int) (s8 : Int)
def vz0 : P_z8 → List Bool
 | .start .. => []
 | .p52 .. => [false, false, true, false, true]
def xY0 : P_z8 → St E.S
 | .start s0 v1 => st0 19 [.sl 9 s0 false, .v (.string v1)] []
 | .p52 s0 v1 s7 s8 => mkSt 19 [0, 1, 7, 8] [.sl 9 s0 false, .v (.string v1), .v (.int .i64 s7), .v (.int .i64 s8)] []
abbrev R_z8 : Type := ((Int × Unit) × Unit)
def vf0 : Res E (Int × Unit) Unit := { rows := [], flat := [], keep := 0, done := [0], rl := (.cons (Rd.int .i64) .nil), rb := .nil }
def uv5 : P_z8 → Option R_z8
 | .start s0 v1 =>
  uv5 (.p52 s0 v1 (List.length s0 : Int) (0 : Int))
 | .p52 s0 v1 s7 s8 =>
  if (decide (s8 < s7)) = true then
   (idx s0 s8) >>= fun t1 =>
   if (seq v1 t1) = true then
    some ((s8, ()), ())
   else
    uv5 (.p52 s0 v1 s7 (IntKind.wrap .i64 (s8 + (1 : Int))))
  else
   some (((-1 : Int), ()), ())
 partial_fixpoint
def xM7 : List (Plc E P_z8) := [⟨52, [false, false, true, false, true], { slots := [0, 1, 7, 8], rows := [], flat := [], keep := 0 }, _, _, (.cons (Rd.sl 9 false) (.cons Rd.str (.cons (Rd.int .i64) (.cons (Rd.int .i64) .nil)))), .nil, fun a b => .p52 a.1 a.2.1 a.2.2.1 a.2.2.2.1⟩]
theorem xn6 : All (ub8 19 0 vz0 xY0) xM7 := ⟨⟨rfl, rfl, fun _ _ => rfl, fun _ _ => rfl⟩, trivial⟩
def vS3 : Code := Tryz.f163.body.getD .skip
def xb9 : Spec E.S := ub0
theorem wL4 : ua9 E xb9 := ua7
theorem xT8 : ∀ pt r, uv5 pt = some r → Good E Tryz.f163 vS3 0 (vf0.av r) (vf0.bx r) (vz0 pt) (xY0 pt) := by
 refine uv5.partial_correctness (fun pt r => Good E Tryz.f163 vS3 0 (vf0.av r) (vf0.bx r) (vz0 pt) (xY0 pt)) ?_
 intro run' ih pt r hr
 cases pt <;> exact ua8 (spec := xb9) (wr := (mkWr [] [])) (l := xM7) (z := 19) (p := vf0) E_ok xn6.mem rfl wL4 ih (Eq.trans (by kernel_rfl) hr)
def w26 : Con E := ⟨163, _, _, (.cons (Rw.sl 9) (.cons Rd.str.w .nil)), .nil, 0, R_z8, fun a b => uv5 (.start a.1 a.2.1), vf0.av, vf0.bx⟩
theorem vG5 : w26.Ok := fun a b r h => ub3 (fn := Tryz.f163) (code := vS3) E_ok (by kernel_rfl) (by kernel_rfl) (by kernel_rfl) (Nat.le_of_ble_eq_true rfl) (xT8 (.start a.1 a.2.1) r h)
inductive P_z9 where
 | start (s0 : (List ByteArray)) (v1 : ByteArray)
def wk6 : P_z9 → List Bool
 | .start .. => []
def x74 : P_z9 → St E.S
 | .start s0 v1 => st0 9 [.sl 9 s0 false, .v (.string v1)] []
abbrev R_z9 : Type := ((Bool × Unit) × Unit)
def vN4 : Res E (Bool × Unit) Unit := { rows := [], flat := [], keep := 0, done := [0], rl := (.cons Rd.bool .nil), rb := .nil }
def u23 : P_z9 → Option R_z9
 | .start s0 v1 =>
  (uv5 (.start s0 v1)) >>= fun t1 =>
  some ((decide (t1.1.1 ≥ (0 : Int)), ()), ())
def xM8 : List (Plc E P_z9) := []
theorem xo7 : All (ub8 9 0 wk6 x74) xM8 := trivial
def wX3 : Code := Tryz.f144.body.getD .skip
def xc0 : Spec E.S := (Con.add w26 ub0)
theorem wL5 : ua9 E xc0 := (Con.add_ok vG5 ua7)
theorem xT9 : ∀ pt r, u23 pt = some r → Good E Tryz.f144 wX3 0 (vN4.av r) (vN4.bx r) (wk6 pt) (x74 pt) := by
 intro pt r hr
 cases pt <;> exact ua8 (spec := xc0) (wr := (mkWr [] [])) (l := xM8) (z := 9) (p := vN4) (run' := fun _ => none) E_ok xo7.mem rfl wL5 (fun _ _ h => by cases h) (Eq.trans (by kernel_rfl) hr)
def w32 : Con E := ⟨144, _, _, (.cons (Rw.sl 9) (.cons Rd.str.w .nil)), .nil, 0, R_z9, fun a b => u23 (.start a.1 a.2.1), vN4.av, vN4.bx⟩
theorem vG6 : w32.Ok := fun a b r h => ub3 (fn := Tryz.f144) (code := wX3) E_ok (by kernel_rfl) (by kernel_rfl) (by kernel_rfl) (Nat.le_of_ble_eq_true rfl) (xT9 (.start a.1 a.2.1) r h)
inductive wv6 where
 | start (l0 : (List Int))
 | p52 (s5 : (List Int)) (s6 : Int) (s7 : Int)
def u96 : wv6 → List Bool
 | .start .. => []
 | .p52 .. => [false, false, true, false, true]
def xc1 : wv6 → St E.S
 | .start l0 => st0 15 [.sl 29 l0 false] []
 | .p52 s5 s6 s7 => mkSt 15 [5, 6, 7] [.sl 29 s5 false, .v (.int .i64 s6), .v (.int .i64 s7)] []
abbrev xN3 : Type := ((Int × Unit) × Unit)
def uO5 : Res E (Int × Unit) Unit := { rows := [], flat := [], keep := 0, done := [0], rl := (.cons (Rd.int .i64) .nil), rb := .nil }
def ud1 : wv6 → Option xN3
 | .start l0 =>
  ud1 (.p52 l0 (List.length l0 : Int) (0 : Int))
 | .p52 s5 s6 s7 =>
  if (decide (s7 < s6)) = true then
   (idx s5 s7) >>= fun t1 =>
   if (t1 != (0 : Int)) = true then
    some ((t1, ()), ())
   else
    ud1 (.p52 s5 s6 (IntKind.wrap .i64 (s7 + (1 : Int))))
  else
   some (((0 : Int), ()), ())
 partial_fixpoint
def xe9 : List (Plc E wv6) := [⟨52, [false, false, true, false, true], { slots := [5, 6, 7], rows := [], flat := [], keep := 0 }, _, _, (.cons (Rd.sl 29 false) (.cons (Rd.int .i64) (.cons (Rd.int .i64) .nil))), .nil, fun a b => .p52 a.1 a.2.1 a.2.2.1⟩]
theorem wL7 : All (ub8 15 0 u96 xc1) xe9 := ⟨⟨rfl, rfl, fun _ _ => rfl, fun _ _ => rfl⟩, trivial⟩
def vu1 : Code := Tryz.f69.body.getD .skip
def wl4 : Spec E.S := ub0
theorem v23 : ua9 E wl4 := ua7
theorem xt5 : ∀ pt r, ud1 pt = some r → Good E Tryz.f69 vu1 0 (uO5.av r) (uO5.bx r) (u96 pt) (xc1 pt) := by
 refine ud1.partial_correctness (fun pt r => Good E Tryz.f69 vu1 0 (uO5.av r) (uO5.bx r) (u96 pt) (xc1 pt)) ?_
 intro run' ih pt r hr
 cases pt <;> exact ua8 (spec := wl4) (wr := (mkWr [] [])) (l := xe9) (z := 15) (p := uO5) E_ok wL7.mem rfl v23 ih (Eq.trans (by kernel_rfl) hr)
def uE9 : Con E := ⟨69, _, _, (.cons (Rw.sl 29) .nil), .nil, 0, xN3, fun a b => ud1 (.start a.1), uO5.av, uO5.bx⟩
theorem un9 : uE9.Ok := fun a b r h => ub3 (fn := Tryz.f69) (code := vu1) E_ok (by kernel_rfl) (by kernel_rfl) (by kernel_rfl) (Nat.le_of_ble_eq_true rfl) (xt5 (.start a.1) r h)
inductive wv7 where
 | start (name0 : ByteArray) (known1 : (List ByteArray))
def vI8 : wv7 → List Bool
 | .start .. => []
def xI4 : wv7 → St E.S
 | .start name0 known1 => st0 15 [.v (.string name0), .sl 9 known1 false] []
abbrev xN4 : Type := ((Int × Unit) × Unit)
def vc2 : Res E (Int × Unit) Unit := { rows := [], flat := [], keep := 0, done := [0], rl := (.cons (Rd.int .i64) .nil), rb := .nil }
def uy2 : wv7 → Option xN4
 | .start name0 known1 =>
  (ug3 (.start name0)) >>= fun t1 =>
  (uc6 (.start t1.1.1 (4 : Int))) >>= fun t2 =>
  (u23 (.start known1 name0)) >>= fun t3 =>
  (uc6 (.start (!t3.1.1) (5 : Int))) >>= fun t4 =>
  (ud1 (.start ([t2.1.1, t4.1.1] : List Int))) >>= fun t5 =>
  some ((t5.1.1, ()), ())
def xf0 : List (Plc E wv7) := []
theorem wL8 : All (ub8 15 0 vI8 xI4) xf0 := trivial
def we9 : Code := Tryz.f110.body.getD .skip
def wl5 : Spec E.S := (Con.add uE9 (Con.add w32 (Con.add uS3 (Con.add w12 ub0))))
theorem v24 : ua9 E wl5 := (Con.add_ok un9 (Con.add_ok vG6 (Con.add_ok uq6 (Con.add_ok vG4 ua7))))
theorem xt6 : ∀ pt r, uy2 pt = some r → Good E Tryz.f110 we9 0 (vc2.av r) (vc2.bx r) (vI8 pt) (xI4 pt) := by
 intro pt r hr
 cases pt <;> exact ua8 (spec := wl5) (wr := (mkWr [] [])) (l := xf0) (z := 15) (p := vc2) (run' := fun _ => none) E_ok wL8.mem rfl v24 (fun _ _ h => by cases h) (Eq.trans (by kernel_rfl) hr)
def u70 : Con E := ⟨110, _, _, (.cons Rd.str.w (.cons (Rw.sl 9) .nil)), .nil, 0, xN4, fun a b => uy2 (.start a.1 a.2.1), vc2.av, vc2.bx⟩
theorem uK2 : u70.Ok := fun a b r h => ub3 (fn := Tryz.f110) (code := we9) E_ok (by kernel_rfl) (by kernel_rfl) (by kernel_rfl) (Nat.le_of_ble_eq_true rfl) (xt6 (.start a.1 a.2.1) r h)
inductive wv8 where
 | start (i0 : Int) (p1 : ByteArray) (s2 : ua2)
def vI9 : wv8 → List Bool
 | .start .. => []
def xI5 : wv8 → St E.S
 | .start i0 p1 s2 => st0 12 [.v (.int .i64 i0), .v (.string p1), .el 103 s2 0] []
abbrev xN5 : Type := ((Int × Unit) × Unit)
def vc3 : Res E (Int × Unit) Unit := { rows := [], flat := [], keep := 0, done := [0], rl := (.cons (Rd.int .i64) .nil), rb := .nil }
def uZ9 : wv8 → Option xN5
 | .start i0 p1 s2 =>
  (span (List.length s2.Params) (0 : Int) i0) >>= fun t1 =>
  (uy2 (.start p1 (cut s2.Params t1))) >>= fun t2 =>
  some ((t2.1.1, ()), ())
def xf1 : List (Plc E wv8) := []
theorem wL9 : All (ub8 12 0 vI9 xI5) xf1 := trivial
def wf0 : Code := Tryz.f113.body.getD .skip
def wl6 : Spec E.S := (Con.add u70 ub0)
theorem v25 : ua9 E wl6 := (Con.add_ok uK2 ua7)
theorem xt7 : ∀ pt r, uZ9 pt = some r → Good E Tryz.f113 wf0 0 (vc3.av r) (vc3.bx r) (vI9 pt) (xI5 pt) := by
 intro pt r hr
 cases pt <;> exact ua8 (spec := wl6) (wr := (mkWr [] [])) (l := xf1) (z := 12) (p := vc3) (run' := fun _ => none) E_ok wL9.mem rfl v25 (fun _ _ h => by cases h) (Eq.trans (by kernel_rfl) hr)
def wX8 : Con E := ⟨113, _, _, (.cons (Rd.int .i64).w (.cons Rd.str.w (.cons (Rd.el 103 0).w .nil))), .nil, 0, xN5, fun a b => uZ9 (.start a.1 a.2.1 a.2.2.1), vc3.av, vc3.bx⟩
theorem wA4 : wX8.Ok := fun a b r h => ub3 (fn := Tryz.f113) (code := wf0) E_ok (by kernel_rfl) (by kernel_rfl) (by kernel_rfl) (Nat.le_of_ble_eq_true rfl) (xt7 (.start a.1 a.2.1 a.2.2.1) r h)
inductive wv9 where
 | start (l0 : (List ByteArray)) (C0 : ByteArray) (C1 : (List ByteArray)) (C2 : (List ua1))
 | p52 (s9 : (List ByteArray)) (s10 : Int) (s11 : Int) (C0 : ByteArray) (C1 : (List ByteArray)) (C2 : (List ua1))
def u97 : wv9 → List Bool
 | .start .. => []
 | .p52 .. => [false, false, true, false, true]
def xc3 : wv9 → St E.S
 | .start l0 C0 C1 C2 => st0 25 [.sl 9 l0 false, .fn 113 [.bp 0 0]] [.var 103 [.v (.string C0), .sl 9 C1 false, .sl 56 C2 false]]
 | .p52 s9 s10 s11 C0 C1 C2 => mkSt 25 [1, 9, 10, 11] [.fn 113 [.bp 0 0], .sl 9 s9 false, .v (.int .i64 s10), .v (.int .i64 s11)] [.var 103 [.v (.string C0), .sl 9 C1 false, .sl 56 C2 false]]
abbrev xN6 : Type := ((Int × (Int × Unit)) × ((ByteArray × ((List ByteArray) × ((List ua1) × Unit))) × Unit))
def uO6 : Res E (Int × (Int × Unit)) ((ByteArray × ((List ByteArray) × ((List ua1) × Unit))) × Unit) := { rows := [], flat := [], keep := 1, done := [0, 1], rl := (.cons (Rd.int .i64) (.cons (Rd.int .i64) .nil)), rb := (.cons (.var 103 (.cons Rd.str (.cons (Rd.sl 9 false) (.cons (Rd.sl 56 false) .nil)))) .nil) }
def um9 : wv9 → Option xN6
 | .start l0 C0 C1 C2 =>
  um9 (.p52 l0 (List.length l0 : Int) (0 : Int) C0 C1 C2)
 | .p52 s9 s10 s11 C0 C1 C2 =>
  if (decide (s11 < s10)) = true then
   (idx s9 s11) >>= fun t1 =>
   (uZ9 (.start s11 t1 (⟨C0, C1, C2⟩ : ua2))) >>= fun t2 =>
   if (t2.1.1 != (0 : Int)) = true then
    some ((s11, (t2.1.1, ())), ((C0, (C1, (C2, ()))), ()))
   else
    um9 (.p52 s9 s10 (IntKind.wrap .i64 (s11 + (1 : Int))) C0 C1 C2)
  else
   some (((0 : Int), ((0 : Int), ())), ((C0, (C1, (C2, ()))), ()))
 partial_fixpoint
def xf2 : List (Plc E wv9) := [⟨52, [false, false, true, false, true], { slots := [1, 9, 10, 11], rows := [], flat := [], keep := 1 }, _, _, (.cons (Rd.fn 113 (.cons (Rd.bp 0 0) .nil)) (.cons (Rd.sl 9 false) (.cons (Rd.int .i64) (.cons (Rd.int .i64) .nil)))), (.cons (.var 103 (.cons Rd.str (.cons (Rd.sl 9 false) (.cons (Rd.sl 56 false) .nil)))) .nil), fun a b => .p52 a.2.1 a.2.2.1 a.2.2.2.1 b.1.1 b.1.2.1 b.1.2.2.1⟩]
theorem wM0 : All (ub8 25 1 u97 xc3) xf2 := ⟨⟨rfl, rfl, fun _ _ => rfl, fun _ _ => rfl⟩, trivial⟩
def vu2 : Code := Tryz.f112.body.getD .skip
def wl7 : Spec E.S := (Con.add wX8 ub0)
theorem v26 : ua9 E wl7 := (Con.add_ok wA4 ua7)
theorem xt8 : ∀ pt r, um9 pt = some r → Good E Tryz.f112 vu2 1 (uO6.av r) (uO6.bx r) (u97 pt) (xc3 pt) := by
 refine um9.partial_correctness (fun pt r => Good E Tryz.f112 vu2 1 (uO6.av r) (uO6.bx r) (u97 pt) (xc3 pt)) ?_
 intro run' ih pt r hr
 cases pt <;> exact ua8 (spec := wl7) (wr := (mkWr [] [])) (l := xf2) (z := 25) (p := uO6) E_ok wM0.mem rfl v26 ih (Eq.trans (by kernel_rfl) hr)
def wX9 : Con E := ⟨112, _, _, (.cons (Rw.sl 9) (.cons (Rd.fn 113 (.cons (Rd.bp 0 0) .nil)).w .nil)), (.cons (.var 103 (.cons Rd.str (.cons (Rd.sl 9 false) (.cons (Rd.sl 56 false) .nil)))) .nil), 1, xN6, fun a b => um9 (.start a.1 b.1.1 b.1.2.1 b.1.2.2.1), uO6.av, uO6.bx⟩
theorem wA5 : wX9.Ok := fun a b r h => ub3 (fn := Tryz.f112) (code := vu2) E_ok (by kernel_rfl) (by kernel_rfl) (by kernel_rfl) (Nat.le_of_ble_eq_true rfl) (xt8 (.start a.1 b.1.1 b.1.2.1 b.1.2.2.1) r h)
inductive ww0 where
 | start (t0_0 : Int) (t0_1 : Int) (t0_2 : ByteArray) (t0_3 : (List ua0))
def vJ0 : ww0 → List Bool
 | .start .. => []
def xI6 : ww0 → St E.S
 | .start t0_0 t0_1 t0_2 t0_3 => st0 5 [.agg [.v (.int .i64 t0_0), .v (.int .i64 t0_1), .v (.string t0_2), .sl 25 t0_3 false]] []
abbrev xN7 : Type := (((List ua0) × Unit) × Unit)
def vc4 : Res E ((List ua0) × Unit) Unit := { rows := [], flat := [], keep := 0, done := [0], rl := (.cons (Rd.sl 25 false) .nil), rb := .nil }
def u00 : ww0 → Option xN7
 | .start t0_0 t0_1 t0_2 t0_3 =>
  some ((t0_3, ()), ())
def xf3 : List (Plc E ww0) := []
theorem wM1 : All (ub8 5 0 vJ0 xI6) xf3 := trivial
def wf1 : Code := Tryz.f140.body.getD .skip
def wl8 : Spec E.S := ub0
theorem v27 : ua9 E wl8 := ua7
theorem xt9 : ∀ pt r, u00 pt = some r → Good E Tryz.f140 wf1 0 (vc4.av r) (vc4.bx r) (vJ0 pt) (xI6 pt) := by
 intro pt r hr
 cases pt <;> exact ua8 (spec := wl8) (wr := (mkWr [] [])) (l := xf3) (z := 5) (p := vc4) (run' := fun _ => none) E_ok wM1.mem rfl v27 (fun _ _ h => by cases h) (Eq.trans (by kernel_rfl) hr)
def wY0 : Con E := ⟨140, _, _, (.cons (Rw.agg (.cons (Rd.int .i64).w (.cons (Rd.int .i64).w (.cons Rd.str.w (.cons (Rw.sl 25) .nil))))) .nil), .nil, 0, xN7, fun a b => u00 (.start a.1.1 a.1.2.1 a.1.2.2.1 a.1.2.2.2.1), vc4.av, vc4.bx⟩
theorem wA6 : wY0.Ok := fun a b r h => ub3 (fn := Tryz.f140) (code := wf1) E_ok (by kernel_rfl) (by kernel_rfl) (by kernel_rfl) (Nat.le_of_ble_eq_true rfl) (xt9 (.start a.1.1 a.1.2.1 a.1.2.2.1 a.1.2.2.2.1) r h)
inductive vk0 where
 | start (x0_0 : Int) (x0_1 : Int) (x0_2 : ByteArray) (x0_3 : (List ua0)) (depth1 : Int) (B0 : Int)
 | p15 (depth1 : Int) (B0 : Int) (H0 : Int) (H1 : Int) (H2 : ByteArray) (H3 : (List ua0))
 | p244 (depth1 : Int) (s20 : (List ua0)) (s21 : Int) (s22 : Int) (B0 : Int)
def uF8 : vk0 → List Bool
 | .start .. => []
 | .p15 .. => [true, true, true]
 | .p244 .. => [false, false, true, false, true, true, true]
def vP2 : vk0 → St E.S
 | .start x0_0 x0_1 x0_2 x0_3 depth1 B0 => st0 33 [.agg [.v (.int .i64 x0_0), .v (.int .i64 x0_1), .v (.string x0_2), .sl 25 x0_3 false], .v (.int .i64 depth1), .bp 0 0, .bp 1 0, .bp 2 0] [.var 3 [.v (.int .i64 B0)], .var 182 [.fn 140 []], .var 200 [.fn 158 [.bp 0 0, .bp 1 0, .bp 2 0]]]
 | .p15 depth1 B0 H0 H1 H2 H3 => mkSt 33 [1, 3, 4, 5] [.v (.int .i64 depth1), .bp 1 0, .bp 2 0, .bp 3 0] [.var 3 [.v (.int .i64 B0)], .var 182 [.fn 140 []], .var 200 [.fn 158 [.bp 0 0, .bp 1 0, .bp 2 0]], .var 25 [.v (.int .i64 H0), .v (.int .i64 H1), .v (.string H2), .sl 25 H3 false]]
 | .p244 depth1 s20 s21 s22 B0 => mkSt 33 [1, 4, 20, 21, 22] [.v (.int .i64 depth1), .bp 2 0, .sl 25 s20 false, .v (.int .i64 s21), .v (.int .i64 s22)] [.var 3 [.v (.int .i64 B0)], .var 182 [.fn 140 []], .var 200 [.fn 158 [.bp 0 0, .bp 1 0, .bp 2 0]]]
abbrev vD0 : Type := ((Bool × Unit) × ((Int × Unit) × ((Unit × Unit) × (((Unit × (Unit × (Unit × Unit))) × Unit) × Unit))))
def uo2 : Res E (Bool × Unit) ((Int × Unit) × ((Unit × Unit) × (((Unit × (Unit × (Unit × Unit))) × Unit) × Unit))) := { rows := [], flat := [], keep := 3, done := [0], rl := (.cons Rd.bool .nil), rb := (.cons (.var 3 (.cons (Rd.int .i64) .nil)) (.cons (.var 182 (.cons (Rd.fn 140 .nil) .nil)) (.cons (.var 200 (.cons (Rd.fn 158 (.cons (Rd.bp 0 0) (.cons (Rd.bp 1 0) (.cons (Rd.bp 2 0) .nil)))) .nil)) .nil))) }
def uj7 : vk0 → Option vD0
 | .start x0_0 x0_1 x0_2 x0_3 depth1 B0 =>
  if (decide ((IntKind.wrap .i64 (B0 + (1 : Int))) > (200 : Int))) = true then
   some ((false, ()), ((IntKind.wrap .i64 (B0 + (1 : Int)), ()), (((), ()), ((((), ((), ((), ()))), ()), ()))))
  else
   if (decide (depth1 > (40 : Int))) = true then
    some ((false, ()), ((IntKind.wrap .i64 (B0 + (1 : Int)), ()), (((), ()), ((((), ((), ((), ()))), ()), ()))))
   else
    uj7 (.p15 depth1 (IntKind.wrap .i64 (B0 + (1 : Int))) x0_0 x0_1 x0_2 x0_3)
 | .p15 depth1 B0 H0 H1 H2 H3 =>
  (u00 (.start H0 H1 H2 H3)) >>= fun t1 =>
  uj7 (.p244 depth1 t1.1.1 (List.length t1.1.1 : Int) (0 : Int) B0)
 | .p244 depth1 s20 s21 s22 B0 =>
  if (decide (s22 < s21)) = true then
   (idx s20 s22) >>= fun t1 =>
   (uj7 (.start t1.Kind t1.Value t1.Name t1.Parts (IntKind.wrap .i64 (depth1 + (1 : Int))) B0)) >>= fun t2 =>
   if (!t2.1.1) = true then
    some ((false, ()), ((t2.2.1.1, ()), (((), ()), ((((), ((), ((), ()))), ()), ()))))
   else
    uj7 (.p244 depth1 s20 s21 (IntKind.wrap .i64 (s22 + (1 : Int))) t2.2.1.1)
  else
   some ((true, ()), ((B0, ()), (((), ()), ((((), ((), ((), ()))), ()), ()))))
 partial_fixpoint
def xf4 : List (Plc E vk0) := [⟨15, [true, true, true], { slots := [1, 3, 4, 5], rows := [], flat := [], keep := 3 }, _, _, (.cons (Rd.int .i64) (.cons (Rd.bp 1 0) (.cons (Rd.bp 2 0) (.cons (Rd.bp 3 0) .nil)))), (.cons (.var 3 (.cons (Rd.int .i64) .nil)) (.cons (.var 182 (.cons (Rd.fn 140 .nil) .nil)) (.cons (.var 200 (.cons (Rd.fn 158 (.cons (Rd.bp 0 0) (.cons (Rd.bp 1 0) (.cons (Rd.bp 2 0) .nil)))) .nil)) (.cons (.var 25 (.cons (Rd.int .i64) (.cons (Rd.int .i64) (.cons Rd.str (.cons (Rd.sl 25 false) .nil))))) .nil)))), fun a b => .p15 a.1 b.1.1 b.2.2.2.1.1 b.2.2.2.1.2.1 b.2.2.2.1.2.2.1 b.2.2.2.1.2.2.2.1⟩,
 ⟨244, [false, false, true, false, true, true, true], { slots := [1, 4, 20, 21, 22], rows := [], flat := [], keep := 3 }, _, _, (.cons (Rd.int .i64) (.cons (Rd.bp 2 0) (.cons (Rd.sl 25 false) (.cons (Rd.int .i64) (.cons (Rd.int .i64) .nil))))), (.cons (.var 3 (.cons (Rd.int .i64) .nil)) (.cons (.var 182 (.cons (Rd.fn 140 .nil) .nil)) (.cons (.var 200 (.cons (Rd.fn 158 (.cons (Rd.bp 0 0) (.cons (Rd.bp 1 0) (.cons (Rd.bp 2 0) .nil)))) .nil)) .nil))), fun a b => .p244 a.1 a.2.2.1 a.2.2.2.1 a.2.2.2.2.1 b.1.1⟩]
theorem wM2 : All (ub8 33 3 uF8 vP2) xf4 := ⟨⟨rfl, rfl, fun _ _ => rfl, fun _ _ => rfl⟩, ⟨⟨rfl, rfl, fun _ _ => rfl, fun _ _ => rfl⟩, trivial⟩⟩
def uI8 : Code := Tryz.f158.body.getD .skip
def w74 (run' : vk0 → Option vD0) : Con E := ⟨158, ((Int × (Int × (ByteArray × ((List ua0) × Unit)))) × (Int × (Unit × (Unit × (Unit × Unit))))), ((Int × Unit) × ((Unit × Unit) × (((Unit × (Unit × (Unit × Unit))) × Unit) × Unit))), (RwL.cons (Rw.agg (RwL.cons (Rd.int .i64).w (RwL.cons (Rd.int .i64).w (RwL.cons Rd.str.w (RwL.cons (Rw.sl 25) RwL.nil))))) (RwL.cons (Rd.int .i64).w (RwL.cons (Rd.bp 0 0).w (RwL.cons (Rd.bp 1 0).w (RwL.cons (Rd.bp 2 0).w RwL.nil))))), (RdBL.cons (RdB.var 3 (RdL.cons (Rd.int .i64) RdL.nil)) (RdBL.cons (RdB.var 182 (RdL.cons (Rd.fn 140 RdL.nil) RdL.nil)) (RdBL.cons (RdB.var 200 (RdL.cons (Rd.fn 158 (RdL.cons (Rd.bp 0 0) (RdL.cons (Rd.bp 1 0) (RdL.cons (Rd.bp 2 0) RdL.nil)))) RdL.nil)) RdBL.nil))), 3, vD0, fun a b => run' (.start a.1.1 a.1.2.1 a.1.2.2.1 a.1.2.2.2.1 a.2.1 b.1.1), uo2.av, uo2.bx⟩
theorem wH6 {run' : vk0 → Option vD0} (ih : ∀ pt r, run' pt = some r → Good E Tryz.f158 uI8 3 (uo2.av r) (uo2.bx r) (uF8 pt) (vP2 pt)) : (w74 run').Ok := fun a b r h => ub3 (fn := Tryz.f158) (code := uI8) E_ok (by kernel_rfl) (by kernel_rfl) (by kernel_rfl) (Nat.le_of_ble_eq_true rfl) (ih (.start a.1.1 a.1.2.1 a.1.2.2.1 a.1.2.2.2.1 a.2.1 b.1.1) r h)
def wl9 (run' : vk0 → Option vD0) : Spec E.S := (Con.add (w74 run') (Con.add wY0 ub0))
theorem v28 {run' : vk0 → Option vD0} (ih : ∀ pt r, run' pt = some r → Good E Tryz.f158 uI8 3 (uo2.av r) (uo2.bx r) (uF8 pt) (vP2 pt)) : ua9 E (wl9 run') := (Con.add_ok (wH6 ih) (Con.add_ok wA6 ua7))
theorem xu0 : ∀ pt r, uj7 pt = some r → Good E Tryz.f158 uI8 3 (uo2.av r) (uo2.bx r) (uF8 pt) (vP2 pt) := by
 refine uj7.partial_correctness (fun pt r => Good E Tryz.f158 uI8 3 (uo2.av r) (uo2.bx r) (uF8 pt) (vP2 pt)) ?_
 intro run' ih pt r hr
 cases pt <;> exact ua8 (spec := (wl9 run')) (wr := (mkWr [] [])) (l := xf4) (z := 33) (p := uo2) E_ok wM2.mem rfl (v28 ih) ih (Eq.trans (by kernel_rfl) hr)
def wY1 : Con E := ⟨158, _, _, (.cons (Rw.agg (.cons (Rd.int .i64).w (.cons (Rd.int .i64).w (.cons Rd.str.w (.cons (Rw.sl 25) .nil))))) (.cons (Rd.int .i64).w (.cons (Rd.bp 0 0).w (.cons (Rd.bp 1 0).w (.cons (Rd.bp 2 0).w .nil))))), (.cons (.var 3 (.cons (Rd.int .i64) .nil)) (.cons (.var 182 (.cons (Rd.fn 140 .nil) .nil)) (.cons (.var 200 (.cons (Rd.fn 158 (.cons (Rd.bp 0 0) (.cons (Rd.bp 1 0) (.cons (Rd.bp 2 0) .nil)))) .nil)) .nil))), 3, vD0, fun a b => uj7 (.start a.1.1 a.1.2.1 a.1.2.2.1 a.1.2.2.2.1 a.2.1 b.1.1), uo2.av, uo2.bx⟩
theorem wA7 : wY1.Ok := fun a b r h => ub3 (fn := Tryz.f158) (code := uI8) E_ok (by kernel_rfl) (by kernel_rfl) (by kernel_rfl) (Nat.le_of_ble_eq_true rfl) (xu0 (.start a.1.1 a.1.2.1 a.1.2.2.1 a.1.2.2.2.1 a.2.1 b.1.1) r h)
inductive ww1 where
 | start (root0_0 : Int) (root0_1 : Int) (root0_2 : ByteArray) (root0_3 : (List ua0))
def vJ1 : ww1 → List Bool
 | .start .. => []
def xI7 : ww1 → St E.S
 | .start root0_0 root0_1 root0_2 root0_3 => st0 12 [.agg [.v (.int .i64 root0_0), .v (.int .i64 root0_1), .v (.string root0_2), .sl 25 root0_3 false], .fn 140 []] []
abbrev xN8 : Type := ((Int × Unit) × Unit)
def vc5 : Res E (Int × Unit) Unit := { rows := [], flat := [], keep := 0, done := [0], rl := (.cons (Rd.int .i64) .nil), rb := .nil }
def uH7 : ww1 → Option xN8
 | .start root0_0 root0_1 root0_2 root0_3 =>
  (uj7 (.start root0_0 root0_1 root0_2 root0_3 (1 : Int) (0 : Int))) >>= fun t1 =>
  (uc6 (.start t1.1.1 (8 : Int))) >>= fun t2 =>
  some ((t2.1.1, ()), ())
def xf5 : List (Plc E ww1) := []
theorem wM3 : All (ub8 12 0 vJ1 xI7) xf5 := trivial
def wf2 : Code := Tryz.f139.body.getD .skip
def wm0 : Spec E.S := (Con.add uS3 (Con.add wY1 ub0))
theorem v29 : ua9 E wm0 := (Con.add_ok uq6 (Con.add_ok wA7 ua7))
theorem xu1 : ∀ pt r, uH7 pt = some r → Good E Tryz.f139 wf2 0 (vc5.av r) (vc5.bx r) (vJ1 pt) (xI7 pt) := by
 intro pt r hr
 cases pt <;> exact ua8 (spec := wm0) (wr := (mkWr [] [])) (l := xf5) (z := 12) (p := vc5) (run' := fun _ => none) E_ok wM3.mem rfl v29 (fun _ _ h => by cases h) (Eq.trans (by kernel_rfl) hr)
def vS8 : Con E := ⟨139, _, _, (.cons (Rw.agg (.cons (Rd.int .i64).w (.cons (Rd.int .i64).w (.cons Rd.str.w (.cons (Rw.sl 25) .nil))))) (.cons (Rd.fn 140 .nil).w .nil)), .nil, 0, xN8, fun a b => uH7 (.start a.1.1 a.1.2.1 a.1.2.2.1 a.1.2.2.2.1), vc5.av, vc5.bx⟩
theorem vn5 : vS8.Ok := fun a b r h => ub3 (fn := Tryz.f139) (code := wf2) E_ok (by kernel_rfl) (by kernel_rfl) (by kernel_rfl) (Nat.le_of_ble_eq_true rfl) (xu1 (.start a.1.1 a.1.2.1 a.1.2.2.1 a.1.2.2.2.1) r h)
inductive ww2 where
 | start (d0_0 : ByteArray) (d0_1 : (List ByteArray)) (d0_2 : (List ua1)) (s1 : ByteArray)
def vJ2 : ww2 → List Bool
 | .start .. => []
def xI8 : ww2 → St E.S
 | .start d0_0 d0_1 d0_2 s1 => st0 8 [.agg [.v (.string d0_0), .sl 9 d0_1 false, .sl 56 d0_2 false], .el 9 s1 0] []
abbrev xN9 : Type := ((Bool × Unit) × Unit)
def vc6 : Res E (Bool × Unit) Unit := { rows := [], flat := [], keep := 0, done := [0], rl := (.cons Rd.bool .nil), rb := .nil }
def u01 : ww2 → Option xN9
 | .start d0_0 d0_1 d0_2 s1 =>
  some ((seq d0_0 s1, ()), ())
def xf6 : List (Plc E ww2) := []
theorem wM4 : All (ub8 8 0 vJ2 xI8) xf6 := trivial
def wf3 : Code := Tryz.f178.body.getD .skip
def wm1 : Spec E.S := ub0
theorem v30 : ua9 E wm1 := ua7
theorem xu2 : ∀ pt r, u01 pt = some r → Good E Tryz.f178 wf3 0 (vc6.av r) (vc6.bx r) (vJ2 pt) (xI8 pt) := by
 intro pt r hr
 cases pt <;> exact ua8 (spec := wm1) (wr := (mkWr [] [])) (l := xf6) (z := 8) (p := vc6) (run' := fun _ => none) E_ok wM4.mem rfl v30 (fun _ _ h => by cases h) (Eq.trans (by kernel_rfl) hr)
def wY2 : Con E := ⟨178, _, _, (.cons (Rw.agg (.cons Rd.str.w (.cons (Rw.sl 9) (.cons (Rw.sl 56) .nil)))) (.cons (Rd.el 9 0).w .nil)), .nil, 0, xN9, fun a b => u01 (.start a.1.1 a.1.2.1 a.1.2.2.1 a.2.1), vc6.av, vc6.bx⟩
theorem wA8 : wY2.Ok := fun a b r h => ub3 (fn := Tryz.f178) (code := wf3) E_ok (by kernel_rfl) (by kernel_rfl) (by kernel_rfl) (Nat.le_of_ble_eq_true rfl) (xu2 (.start a.1.1 a.1.2.1 a.1.2.2.1 a.2.1) r h)
inductive ww3 where
 | start (s0 : (List ua2)) (B0 : ByteArray)
 | p52 (s0 : (List ua2)) (s7 : Int) (s8 : Int) (B0 : ByteArray)
def u98 : ww3 → List Bool
 | .start .. => []
 | .p52 .. => [false, false, true, false, true]
def xc4 : ww3 → St E.S
 | .start s0 B0 => st0 19 [.sl 103 s0 false, .fn 178 [.bp 0 0]] [.var 9 [.v (.string B0)]]
 | .p52 s0 s7 s8 B0 => mkSt 19 [0, 1, 7, 8] [.sl 103 s0 false, .fn 178 [.bp 0 0], .v (.int .i64 s7), .v (.int .i64 s8)] [.var 9 [.v (.string B0)]]
abbrev xO0 : Type := ((Int × Unit) × ((ByteArray × Unit) × Unit))
def uO7 : Res E (Int × Unit) ((ByteArray × Unit) × Unit) := { rows := [], flat := [], keep := 1, done := [0], rl := (.cons (Rd.int .i64) .nil), rb := (.cons (.var 9 (.cons Rd.str .nil)) .nil) }
def un0 : ww3 → Option xO0
 | .start s0 B0 =>
  un0 (.p52 s0 (List.length s0 : Int) (0 : Int) B0)
 | .p52 s0 s7 s8 B0 =>
  if (decide (s8 < s7)) = true then
   (idx s0 s8) >>= fun t1 =>
   (u01 (.start t1.Name t1.Params t1.Constructors B0)) >>= fun t2 =>
   if t2.1.1 = true then
    some ((s8, ()), ((B0, ()), ()))
   else
    un0 (.p52 s0 s7 (IntKind.wrap .i64 (s8 + (1 : Int))) B0)
  else
   some (((-1 : Int), ()), ((B0, ()), ()))
 partial_fixpoint
def xf7 : List (Plc E ww3) := [⟨52, [false, false, true, false, true], { slots := [0, 1, 7, 8], rows := [], flat := [], keep := 1 }, _, _, (.cons (Rd.sl 103 false) (.cons (Rd.fn 178 (.cons (Rd.bp 0 0) .nil)) (.cons (Rd.int .i64) (.cons (Rd.int .i64) .nil)))), (.cons (.var 9 (.cons Rd.str .nil)) .nil), fun a b => .p52 a.1 a.2.2.1 a.2.2.2.1 b.1.1⟩]
theorem wM5 : All (ub8 19 1 u98 xc4) xf7 := ⟨⟨rfl, rfl, fun _ _ => rfl, fun _ _ => rfl⟩, trivial⟩
def vu3 : Code := Tryz.f177.body.getD .skip
def wm2 : Spec E.S := (Con.add wY2 ub0)
theorem v32 : ua9 E wm2 := (Con.add_ok wA8 ua7)
theorem xu3 : ∀ pt r, un0 pt = some r → Good E Tryz.f177 vu3 1 (uO7.av r) (uO7.bx r) (u98 pt) (xc4 pt) := by
 refine un0.partial_correctness (fun pt r => Good E Tryz.f177 vu3 1 (uO7.av r) (uO7.bx r) (u98 pt) (xc4 pt)) ?_
 intro run' ih pt r hr
 cases pt <;> exact ua8 (spec := wm2) (wr := (mkWr [] [])) (l := xf7) (z := 19) (p := uO7) E_ok wM5.mem rfl v32 ih (Eq.trans (by kernel_rfl) hr)
def wY3 : Con E := ⟨177, _, _, (.cons (Rw.sl 103) (.cons (Rd.fn 178 (.cons (Rd.bp 0 0) .nil)).w .nil)), (.cons (.var 9 (.cons Rd.str .nil)) .nil), 1, xO0, fun a b => un0 (.start a.1 b.1.1), uO7.av, uO7.bx⟩
theorem wA9 : wY3.Ok := fun a b r h => ub3 (fn := Tryz.f177) (code := vu3) E_ok (by kernel_rfl) (by kernel_rfl) (by kernel_rfl) (Nat.le_of_ble_eq_true rfl) (xu3 (.start a.1 b.1.1) r h)
inductive ww4 where
 | start (s0_0 : (List ua2)) (s0_1 : (List ByteArray)) (name1 : ByteArray)
def vJ3 : ww4 → List Bool
 | .start .. => []
def xI9 : ww4 → St E.S
 | .start s0_0 s0_1 name1 => st0 19 [.agg [.sl 103 s0_0 false, .sl 9 s0_1 false], .v (.string name1)] []
abbrev xO1 : Type := (((ByteArray × ((List ByteArray) × ((List ua1) × Unit))) × (Bool × Unit)) × Unit)
def vc7 : Res E ((ByteArray × ((List ByteArray) × ((List ua1) × Unit))) × (Bool × Unit)) Unit := { rows := [], flat := [], keep := 0, deep := [(false, 0, 1, 9), (false, 0, 2, 56)], done := [0, 1], rl := (.cons (Rd.agg (.cons Rd.str (.cons (Rd.sl 9 false) (.cons (Rd.sl 56 false) .nil)))) (.cons Rd.bool .nil)), rb := .nil }
def uH8 : ww4 → Option xO1
 | .start s0_0 s0_1 name1 =>
  (un0 (.start s0_0 name1)) >>= fun t1 =>
  if (decide (t1.1.1 < (0 : Int))) = true then
   some ((((⟨#[]⟩ : ByteArray), ([], ([], ()))), (false, ())), ())
  else
   (idx s0_0 t1.1.1) >>= fun t2 =>
   some (((t2.Name, (t2.Params, (t2.Constructors, ()))), (true, ())), ())
def xf8 : List (Plc E ww4) := []
theorem wM6 : All (ub8 19 0 vJ3 xI9) xf8 := trivial
def wf4 : Code := Tryz.f159.body.getD .skip
def wm3 : Spec E.S := (Con.add wY3 ub0)
theorem v33 : ua9 E wm3 := (Con.add_ok wA9 ua7)
theorem xu4 : ∀ pt r, uH8 pt = some r → Good E Tryz.f159 wf4 0 (vc7.av r) (vc7.bx r) (vJ3 pt) (xI9 pt) := by
 intro pt r hr
 cases pt <;> exact ua8 (spec := wm3) (wr := (mkWr [] [])) (l := xf8) (z := 19) (p := vc7) (run' := fun _ => none) E_ok wM6.mem rfl v33 (fun _ _ h => by cases h) (Eq.trans (by kernel_rfl) hr)
def vS9 : Con E := ⟨159, _, _, (.cons (Rw.agg (.cons (Rw.sl 103) (.cons (Rw.sl 9) .nil))) (.cons Rd.str.w .nil)), .nil, 0, xO1, fun a b => uH8 (.start a.1.1 a.1.2.1 a.2.1), vc7.av, vc7.bx⟩
theorem vn6 : vS9.Ok := fun a b r h => ub3 (fn := Tryz.f159) (code := wf4) E_ok (by kernel_rfl) (by kernel_rfl) (by kernel_rfl) (Nat.le_of_ble_eq_true rfl) (xu4 (.start a.1.1 a.1.2.1 a.2.1) r h)
inductive u51 where
 | start (s0 : Int) (x1_0 : Int) (x1_1 : Int) (x1_2 : ByteArray) (x1_3 : (List ua0)) (s2 : uo0)
def uz1 : u51 → List Bool
 | .start .. => []
def vs3 : u51 → St E.S
 | .start s0 x1_0 x1_1 x1_2 x1_3 s2 => st0 9 [.v (.int .i64 s0), .agg [.v (.int .i64 x1_0), .v (.int .i64 x1_1), .v (.string x1_2), .sl 25 x1_3 false], .el 107 s2 0] []
abbrev vD1 : Type := ((Int × Unit) × Unit)
def ul0 : Res E (Int × Unit) Unit := { rows := [], flat := [], keep := 0, done := [0], rl := (.cons (Rd.int .i64) .nil), rb := .nil }
inductive uV9 where
 | start (s0_0 : (List ua2)) (s0_1 : (List ByteArray)) (t1_0 : Int) (t1_1 : Int) (t1_2 : ByteArray) (t1_3 : (List ua0))
 | p15 (count5 : Int) (C0 : (List ua2)) (C1 : (List ByteArray)) (D0 : Int) (D1 : Int) (D2 : ByteArray) (D3 : (List ua0))
 | p63 (C0 : (List ua2)) (C1 : (List ByteArray)) (D0 : Int) (D1 : Int) (D2 : ByteArray) (D3 : (List ua0))
def uu1 : uV9 → List Bool
 | .start .. => []
 | .p15 .. => [true, true, true]
 | .p63 .. => [true, true, true, true, true]
def vi3 : uV9 → St E.S
 | .start s0_0 s0_1 t1_0 t1_1 t1_2 t1_3 => st0 66 [.agg [.sl 103 s0_0 false, .sl 9 s0_1 false], .agg [.v (.int .i64 t1_0), .v (.int .i64 t1_1), .v (.string t1_2), .sl 25 t1_3 false]] []
 | .p15 count5 C0 C1 D0 D1 D2 D3 => mkSt 66 [2, 3, 5] [.bp 0 0, .bp 1 0, .v (.int .i64 count5)] [.var 107 [.sl 103 C0 false, .sl 9 C1 false], .var 25 [.v (.int .i64 D0), .v (.int .i64 D1), .v (.string D2), .sl 25 D3 false]]
 | .p63 C0 C1 D0 D1 D2 D3 => mkSt 66 [2, 3] [.bp 0 0, .bp 1 0] [.var 107 [.sl 103 C0 false, .sl 9 C1 false], .var 25 [.v (.int .i64 D0), .v (.int .i64 D1), .v (.string D2), .sl 25 D3 false]]
abbrev vl1 : Type := ((Int × Unit) × Unit)
def ui6 : Res E (Int × Unit) Unit := { rows := [], flat := [], keep := 0, done := [0], rl := (.cons (Rd.int .i64) .nil), rb := .nil }
inductive uW0 where
 | start (l0 : (List ua0)) (C0 : (List ua2)) (C1 : (List ByteArray))
 | p52 (s9 : (List ua0)) (s10 : Int) (s11 : Int) (C0 : (List ua2)) (C1 : (List ByteArray))
def uu2 : uW0 → List Bool
 | .start .. => []
 | .p52 .. => [false, false, true, false, true]
def vi4 : uW0 → St E.S
 | .start l0 C0 C1 => st0 25 [.sl 25 l0 false, .fn 161 [.bp 0 0]] [.var 107 [.sl 103 C0 false, .sl 9 C1 false]]
 | .p52 s9 s10 s11 C0 C1 => mkSt 25 [1, 9, 10, 11] [.fn 161 [.bp 0 0], .sl 25 s9 false, .v (.int .i64 s10), .v (.int .i64 s11)] [.var 107 [.sl 103 C0 false, .sl 9 C1 false]]
abbrev vl2 : Type := ((Int × (Int × Unit)) × (((List ua2) × ((List ByteArray) × Unit)) × Unit))
def ui7 : Res E (Int × (Int × Unit)) (((List ua2) × ((List ByteArray) × Unit)) × Unit) := { rows := [], flat := [], keep := 1, done := [0, 1], rl := (.cons (Rd.int .i64) (.cons (Rd.int .i64) .nil)), rb := (.cons (.var 107 (.cons (Rd.sl 103 false) (.cons (Rd.sl 9 false) .nil))) .nil) }
mutual
def uD4 : u51 → Option vD1
 | .start s0 x1_0 x1_1 x1_2 x1_3 s2 =>
  (run_z21 (.start s2.list s2.params x1_0 x1_1 x1_2 x1_3)) >>= fun t1 =>
  some ((t1.1.1, ()), ())
 partial_fixpoint
def run_z21 : uV9 → Option vl1
 | .start s0_0 s0_1 t1_0 t1_1 t1_2 t1_3 =>
  if (t1_0 == (0 : Int)) = true then
   (u23 (.start s0_1 t1_2)) >>= fun t1 =>
   if (!t1.1.1) = true then
    some (((6 : Int), ()), ())
   else
    run_z21 (.p15 (0 : Int) s0_0 s0_1 t1_0 t1_1 t1_2 t1_3)
  else
   if (t1_0 == (1 : Int)) = true then
    (uH8 (.start s0_0 s0_1 t1_2)) >>= fun t2 =>
    if t2.1.2.1 = true then
     run_z21 (.p15 (List.length t2.1.1.2.1 : Int) s0_0 s0_1 t1_0 t1_1 t1_2 t1_3)
    else
     if (seq t1_2 (⟨#[66, 105, 116]⟩ : ByteArray)) = true then
      run_z21 (.p15 (1 : Int) s0_0 s0_1 t1_0 t1_1 t1_2 t1_3)
     else
      if (!(seq t1_2 (⟨#[66, 111, 111, 108]⟩ : ByteArray))) = true then
       some (((6 : Int), ()), ())
      else
       run_z21 (.p15 (0 : Int) s0_0 s0_1 t1_0 t1_1 t1_2 t1_3)
   else
    if (t1_0 == (2 : Int)) = true then
     run_z21 (.p15 (0 : Int) s0_0 s0_1 t1_0 t1_1 t1_2 t1_3)
    else
     some (((15 : Int), ()), ())
 | .p15 count5 C0 C1 D0 D1 D2 D3 =>
  if ((List.length D3 : Int) != count5) = true then
   some (((10 : Int), ()), ())
  else
   if (D0 == (2 : Int)) = true then
    (uk2 (.start D1 (0 : Int) (1000000000 : Int))) >>= fun t1 =>
    if (!t1.1.1) = true then
     some (((2 : Int), ()), ())
    else
     run_z21 (.p63 C0 C1 D0 D1 D2 D3)
   else
    run_z21 (.p63 C0 C1 D0 D1 D2 D3)
 | .p63 C0 C1 D0 D1 D2 D3 =>
  (run_z22 (.start D3 C0 C1)) >>= fun t1 =>
  some ((t1.1.2.1, ()), ())
 partial_fixpoint
def run_z22 : uW0 → Option vl2
 | .start l0 C0 C1 =>
  run_z22 (.p52 l0 (List.length l0 : Int) (0 : Int) C0 C1)
 | .p52 s9 s10 s11 C0 C1 =>
  if (decide (s11 < s10)) = true then
   (idx s9 s11) >>= fun t1 =>
   (uD4 (.start s11 t1.Kind t1.Value t1.Name t1.Parts (⟨C0, C1⟩ : uo0))) >>= fun t2 =>
   if (t2.1.1 != (0 : Int)) = true then
    some ((s11, (t2.1.1, ())), ((C0, (C1, ())), ()))
   else
    run_z22 (.p52 s9 s10 (IntKind.wrap .i64 (s11 + (1 : Int))) C0 C1)
  else
   some (((0 : Int), ((0 : Int), ())), ((C0, (C1, ())), ()))
 partial_fixpoint
end
def xg0 : List (Plc E u51) := []
theorem wM7 : All (ub8 9 0 uz1 vs3) xg0 := trivial
def uA4 : Code := Tryz.f161.body.getD .skip
def w75 (run' : u51 → Option vD1) : Con E := ⟨161, (Int × ((Int × (Int × (ByteArray × ((List ua0) × Unit)))) × (uo0 × Unit))), Unit, (RwL.cons (Rd.int .i64).w (RwL.cons (Rw.agg (RwL.cons (Rd.int .i64).w (RwL.cons (Rd.int .i64).w (RwL.cons Rd.str.w (RwL.cons (Rw.sl 25) RwL.nil))))) (RwL.cons (Rd.el 107 0).w RwL.nil))), RdBL.nil, 0, vD1, fun a b => run' (.start a.1 a.2.1.1 a.2.1.2.1 a.2.1.2.2.1 a.2.1.2.2.2.1 a.2.2.1), ul0.av, ul0.bx⟩
theorem wH7 {run' : u51 → Option vD1} (ih : ∀ pt r, run' pt = some r → Good E Tryz.f161 uA4 0 (ul0.av r) (ul0.bx r) (uz1 pt) (vs3 pt)) : (w75 run').Ok := fun a b r h => ub3 (fn := Tryz.f161) (code := uA4) E_ok (by kernel_rfl) (by kernel_rfl) (by kernel_rfl) (Nat.le_of_ble_eq_true rfl) (ih (.start a.1 a.2.1.1 a.2.1.2.1 a.2.1.2.2.1 a.2.1.2.2.2.1 a.2.2.1) r h)
def xg1 : List (Plc E uV9) := [⟨15, [true, true, true], { slots := [2, 3, 5], rows := [], flat := [], keep := 0 }, _, _, (.cons (Rd.bp 0 0) (.cons (Rd.bp 1 0) (.cons (Rd.int .i64) .nil))), (.cons (.var 107 (.cons (Rd.sl 103 false) (.cons (Rd.sl 9 false) .nil))) (.cons (.var 25 (.cons (Rd.int .i64) (.cons (Rd.int .i64) (.cons Rd.str (.cons (Rd.sl 25 false) .nil))))) .nil)), fun a b => .p15 a.2.2.1 b.1.1 b.1.2.1 b.2.1.1 b.2.1.2.1 b.2.1.2.2.1 b.2.1.2.2.2.1⟩,
 ⟨63, [true, true, true, true, true], { slots := [2, 3], rows := [], flat := [], keep := 0 }, _, _, (.cons (Rd.bp 0 0) (.cons (Rd.bp 1 0) .nil)), (.cons (.var 107 (.cons (Rd.sl 103 false) (.cons (Rd.sl 9 false) .nil))) (.cons (.var 25 (.cons (Rd.int .i64) (.cons (Rd.int .i64) (.cons Rd.str (.cons (Rd.sl 25 false) .nil))))) .nil)), fun a b => .p63 b.1.1 b.1.2.1 b.2.1.1 b.2.1.2.1 b.2.1.2.2.1 b.2.1.2.2.2.1⟩]
theorem wM8 : All (ub8 66 0 uu1 vi3) xg1 := ⟨⟨rfl, rfl, fun _ _ => rfl, fun _ _ => rfl⟩, ⟨⟨rfl, rfl, fun _ _ => rfl, fun _ _ => rfl⟩, trivial⟩⟩
def uw2 : Code := Tryz.f141.body.getD .skip
def vW0 (run' : uV9 → Option vl1) : Con E := ⟨141, (((List ua2) × ((List ByteArray) × Unit)) × ((Int × (Int × (ByteArray × ((List ua0) × Unit)))) × Unit)), Unit, (RwL.cons (Rw.agg (RwL.cons (Rw.sl 103) (RwL.cons (Rw.sl 9) RwL.nil))) (RwL.cons (Rw.agg (RwL.cons (Rd.int .i64).w (RwL.cons (Rd.int .i64).w (RwL.cons Rd.str.w (RwL.cons (Rw.sl 25) RwL.nil))))) RwL.nil)), RdBL.nil, 0, vl1, fun a b => run' (.start a.1.1 a.1.2.1 a.2.1.1 a.2.1.2.1 a.2.1.2.2.1 a.2.1.2.2.2.1), ui6.av, ui6.bx⟩
theorem vq3 {run' : uV9 → Option vl1} (ih : ∀ pt r, run' pt = some r → Good E Tryz.f141 uw2 0 (ui6.av r) (ui6.bx r) (uu1 pt) (vi3 pt)) : (vW0 run').Ok := fun a b r h => ub3 (fn := Tryz.f141) (code := uw2) E_ok (by kernel_rfl) (by kernel_rfl) (by kernel_rfl) (Nat.le_of_ble_eq_true rfl) (ih (.start a.1.1 a.1.2.1 a.2.1.1 a.2.1.2.1 a.2.1.2.2.1 a.2.1.2.2.2.1) r h)
def xg2 : List (Plc E uW0) := [⟨52, [false, false, true, false, true], { slots := [1, 9, 10, 11], rows := [], flat := [], keep := 1 }, _, _, (.cons (Rd.fn 161 (.cons (Rd.bp 0 0) .nil)) (.cons (Rd.sl 25 false) (.cons (Rd.int .i64) (.cons (Rd.int .i64) .nil)))), (.cons (.var 107 (.cons (Rd.sl 103 false) (.cons (Rd.sl 9 false) .nil))) .nil), fun a b => .p52 a.2.1 a.2.2.1 a.2.2.2.1 b.1.1 b.1.2.1⟩]
theorem wM9 : All (ub8 25 1 uu2 vi4) xg2 := ⟨⟨rfl, rfl, fun _ _ => rfl, fun _ _ => rfl⟩, trivial⟩
def uw3 : Code := Tryz.f160.body.getD .skip
def vW1 (run' : uW0 → Option vl2) : Con E := ⟨160, ((List ua0) × ((Unit × Unit) × Unit)), (((List ua2) × ((List ByteArray) × Unit)) × Unit), (RwL.cons (Rw.sl 25) (RwL.cons (Rd.fn 161 (RdL.cons (Rd.bp 0 0) RdL.nil)).w RwL.nil)), (RdBL.cons (RdB.var 107 (RdL.cons (Rd.sl 103 false) (RdL.cons (Rd.sl 9 false) RdL.nil))) RdBL.nil), 1, vl2, fun a b => run' (.start a.1 b.1.1 b.1.2.1), ui7.av, ui7.bx⟩
theorem vq4 {run' : uW0 → Option vl2} (ih : ∀ pt r, run' pt = some r → Good E Tryz.f160 uw3 1 (ui7.av r) (ui7.bx r) (uu2 pt) (vi4 pt)) : (vW1 run').Ok := fun a b r h => ub3 (fn := Tryz.f160) (code := uw3) E_ok (by kernel_rfl) (by kernel_rfl) (by kernel_rfl) (Nat.le_of_ble_eq_true rfl) (ih (.start a.1 b.1.1 b.1.2.1) r h)
def wm4 (r_z21 : uV9 → Option vl1) : Spec E.S := (Con.add (vW0 r_z21) ub0)
theorem v34 {r_z21 : uV9 → Option vl1} (h_z21 : ∀ pt r, r_z21 pt = some r → Good E Tryz.f141 uw2 0 (ui6.av r) (ui6.bx r) (uu1 pt) (vi3 pt)) : ua9 E (wm4 r_z21) := (Con.add_ok (vq3 h_z21) ua7)
def wm5 (r_z21 : uV9 → Option vl1) (r_z22 : uW0 → Option vl2) : Spec E.S := (Con.add (vW1 r_z22) (Con.add (vW0 r_z21) (Con.add uS2 (Con.add vS9 (Con.add w32 ub0)))))
theorem v35 {r_z21 : uV9 → Option vl1} (h_z21 : ∀ pt r, r_z21 pt = some r → Good E Tryz.f141 uw2 0 (ui6.av r) (ui6.bx r) (uu1 pt) (vi3 pt)) {r_z22 : uW0 → Option vl2} (h_z22 : ∀ pt r, r_z22 pt = some r → Good E Tryz.f160 uw3 1 (ui7.av r) (ui7.bx r) (uu2 pt) (vi4 pt)) : ua9 E (wm5 r_z21 r_z22) := (Con.add_ok (vq4 h_z22) (Con.add_ok (vq3 h_z21) (Con.add_ok uq5 (Con.add_ok vn6 (Con.add_ok vG6 ua7)))))
def wm6 (r_z20 : u51 → Option vD1) (r_z22 : uW0 → Option vl2) : Spec E.S := (Con.add (vW1 r_z22) (Con.add (w75 r_z20) ub0))
theorem v36 {r_z20 : u51 → Option vD1} (h_z20 : ∀ pt r, r_z20 pt = some r → Good E Tryz.f161 uA4 0 (ul0.av r) (ul0.bx r) (uz1 pt) (vs3 pt)) {r_z22 : uW0 → Option vl2} (h_z22 : ∀ pt r, r_z22 pt = some r → Good E Tryz.f160 uw3 1 (ui7.av r) (ui7.bx r) (uu2 pt) (vi4 pt)) : ua9 E (wm6 r_z20 r_z22) := (Con.add_ok (vq4 h_z22) (Con.add_ok (wH7 h_z20) ua7))
theorem u78 : (∀ pt r, uD4 pt = some r → Good E Tryz.f161 uA4 0 (ul0.av r) (ul0.bx r) (uz1 pt) (vs3 pt)) ∧ (∀ pt r, run_z21 pt = some r → Good E Tryz.f141 uw2 0 (ui6.av r) (ui6.bx r) (uu1 pt) (vi3 pt)) ∧ (∀ pt r, run_z22 pt = some r → Good E Tryz.f160 uw3 1 (ui7.av r) (ui7.bx r) (uu2 pt) (vi4 pt)) := by
  refine uD4.mutual_partial_correctness (fun pt r => Good E Tryz.f161 uA4 0 (ul0.av r) (ul0.bx r) (uz1 pt) (vs3 pt)) (fun pt r => Good E Tryz.f141 uw2 0 (ui6.av r) (ui6.bx r) (uu1 pt) (vi3 pt)) (fun pt r => Good E Tryz.f160 uw3 1 (ui7.av r) (ui7.bx r) (uu2 pt) (vi4 pt)) ?_ ?_ ?_
  · intro r_z21 h_z21 pt r hr
    cases pt <;> exact ua8 (spec := (wm4 r_z21)) (wr := (mkWr [] [])) (l := xg0) (z := 9) (p := ul0) (run' := fun _ => none) E_ok wM7.mem rfl (v34 h_z21) (fun _ _ h => by cases h) (Eq.trans (by kernel_rfl) hr)
  · intro r_z21 r_z22 h_z21 h_z22 pt r hr
    cases pt <;> exact ua8 (spec := (wm5 r_z21 r_z22)) (wr := (mkWr [] [])) (l := xg1) (z := 66) (p := ui6) E_ok wM8.mem rfl (v35 h_z21 h_z22) h_z21 (Eq.trans (by kernel_rfl) hr)
  · intro r_z20 r_z22 h_z20 h_z22 pt r hr
    cases pt <;> exact ua8 (spec := (wm6 r_z20 r_z22)) (wr := (mkWr [] [])) (l := xg2) (z := 25) (p := ui7) E_ok wM9.mem rfl (v36 h_z20 h_z22) h_z22 (Eq.trans (by kernel_rfl) hr)
theorem xu5 : ∀ pt r, uD4 pt = some r → Good E Tryz.f161 uA4 0 (ul0.av r) (ul0.bx r) (uz1 pt) (vs3 pt) := u78.1
theorem xu6 : ∀ pt r, run_z21 pt = some r → Good E Tryz.f141 uw2 0 (ui6.av r) (ui6.bx r) (uu1 pt) (vi3 pt) := u78.2.1
theorem xu7 : ∀ pt r, run_z22 pt = some r → Good E Tryz.f160 uw3 1 (ui7.av r) (ui7.bx r) (uu2 pt) (vi4 pt) := u78.2.2
def xR6 : Con E := ⟨161, _, _, (.cons (Rd.int .i64).w (.cons (Rw.agg (.cons (Rd.int .i64).w (.cons (Rd.int .i64).w (.cons Rd.str.w (.cons (Rw.sl 25) .nil))))) (.cons (Rd.el 107 0).w .nil))), .nil, 0, vD1, fun a b => uD4 (.start a.1 a.2.1.1 a.2.1.2.1 a.2.1.2.2.1 a.2.1.2.2.2.1 a.2.2.1), ul0.av, ul0.bx⟩
theorem xY5 : xR6.Ok := fun a b r h => ub3 (fn := Tryz.f161) (code := uA4) E_ok (by kernel_rfl) (by kernel_rfl) (by kernel_rfl) (Nat.le_of_ble_eq_true rfl) (xu5 (.start a.1 a.2.1.1 a.2.1.2.1 a.2.1.2.2.1 a.2.1.2.2.2.1 a.2.2.1) r h)
def wY6 : Con E := ⟨141, _, _, (.cons (Rw.agg (.cons (Rw.sl 103) (.cons (Rw.sl 9) .nil))) (.cons (Rw.agg (.cons (Rd.int .i64).w (.cons (Rd.int .i64).w (.cons Rd.str.w (.cons (Rw.sl 25) .nil))))) .nil)), .nil, 0, vl1, fun a b => run_z21 (.start a.1.1 a.1.2.1 a.2.1.1 a.2.1.2.1 a.2.1.2.2.1 a.2.1.2.2.2.1), ui6.av, ui6.bx⟩
theorem wB0 : wY6.Ok := fun a b r h => ub3 (fn := Tryz.f141) (code := uw2) E_ok (by kernel_rfl) (by kernel_rfl) (by kernel_rfl) (Nat.le_of_ble_eq_true rfl) (xu6 (.start a.1.1 a.1.2.1 a.2.1.1 a.2.1.2.1 a.2.1.2.2.1 a.2.1.2.2.2.1) r h)
def xR7 : Con E := ⟨160, _, _, (.cons (Rw.sl 25) (.cons (Rd.fn 161 (.cons (Rd.bp 0 0) .nil)).w .nil)), (.cons (.var 107 (.cons (Rd.sl 103 false) (.cons (Rd.sl 9 false) .nil))) .nil), 1, vl2, fun a b => run_z22 (.start a.1 b.1.1 b.1.2.1), ui7.av, ui7.bx⟩
theorem xY6 : xR7.Ok := fun a b r h => ub3 (fn := Tryz.f160) (code := uw3) E_ok (by kernel_rfl) (by kernel_rfl) (by kernel_rfl) (Nat.le_of_ble_eq_true rfl) (xu7 (.start a.1 b.1.1 b.1.2.1) r h)
inductive ww5 where
 | start (s0_0 : (List ua2)) (s0_1 : (List ByteArray)) (t1_0 : Int) (t1_1 : Int) (t1_2 : ByteArray) (t1_3 : (List ua0))
def vJ4 : ww5 → List Bool
 | .start .. => []
def xJ0 : ww5 → St E.S
 | .start s0_0 s0_1 t1_0 t1_1 t1_2 t1_3 => st0 14 [.agg [.sl 103 s0_0 false, .sl 9 s0_1 false], .agg [.v (.int .i64 t1_0), .v (.int .i64 t1_1), .v (.string t1_2), .sl 25 t1_3 false]] []
abbrev xO2 : Type := ((Int × Unit) × Unit)
def vc8 : Res E (Int × Unit) Unit := { rows := [], flat := [], keep := 0, done := [0], rl := (.cons (Rd.int .i64) .nil), rb := .nil }
def uH9 : ww5 → Option xO2
 | .start s0_0 s0_1 t1_0 t1_1 t1_2 t1_3 =>
  (uH7 (.start t1_0 t1_1 t1_2 t1_3)) >>= fun t1 =>
  if (t1.1.1 != (0 : Int)) = true then
   some ((t1.1.1, ()), ())
  else
   (run_z21 (.start s0_0 s0_1 t1_0 t1_1 t1_2 t1_3)) >>= fun t2 =>
   some ((t2.1.1, ()), ())
def xg3 : List (Plc E ww5) := []
theorem wN0 : All (ub8 14 0 vJ4 xJ0) xg3 := trivial
def wf5 : Code := Tryz.f105.body.getD .skip
def wm7 : Spec E.S := (Con.add wY6 (Con.add vS8 ub0))
theorem v38 : ua9 E wm7 := (Con.add_ok wB0 (Con.add_ok vn5 ua7))
theorem xu8 : ∀ pt r, uH9 pt = some r → Good E Tryz.f105 wf5 0 (vc8.av r) (vc8.bx r) (vJ4 pt) (xJ0 pt) := by
 intro pt r hr
 cases pt <;> exact ua8 (spec := wm7) (wr := (mkWr [] [])) (l := xg3) (z := 14) (p := vc8) (run' := fun _ => none) E_ok wN0.mem rfl v38 (fun _ _ h => by cases h) (Eq.trans (by kernel_rfl) hr)
def vT0 : Con E := ⟨105, _, _, (.cons (Rw.agg (.cons (Rw.sl 103) (.cons (Rw.sl 9) .nil))) (.cons (Rw.agg (.cons (Rd.int .i64).w (.cons (Rd.int .i64).w (.cons Rd.str.w (.cons (Rw.sl 25) .nil))))) .nil)), .nil, 0, xO2, fun a b => uH9 (.start a.1.1 a.1.2.1 a.2.1.1 a.2.1.2.1 a.2.1.2.2.1 a.2.1.2.2.2.1), vc8.av, vc8.bx⟩
theorem vn7 : vT0.Ok := fun a b r h => ub3 (fn := Tryz.f105) (code := wf5) E_ok (by kernel_rfl) (by kernel_rfl) (by kernel_rfl) (Nat.le_of_ble_eq_true rfl) (xu8 (.start a.1.1 a.1.2.1 a.2.1.1 a.2.1.2.1 a.2.1.2.2.1 a.2.1.2.2.2.1) r h)
inductive ww6 where
 | start (s0 : Int) (f1_0 : ByteArray) (f1_1 : Int) (f1_2 : Int) (f1_3 : ByteArray) (f1_4 : (List ua0)) (D0 : (List ua2)) (D1 : (List ByteArray)) (B2 : (List ByteArray))
def vJ5 : ww6 → List Bool
 | .start .. => []
def xJ1 : ww6 → St E.S
 | .start s0 f1_0 f1_1 f1_2 f1_3 f1_4 D0 D1 B2 => st0 24 [.v (.int .i64 s0), .agg [.v (.string f1_0), .v (.int .i64 f1_1), .v (.int .i64 f1_2), .v (.string f1_3), .sl 25 f1_4 false], .bp 0 0, .bp 1 0] [.var 101 [.rw 2], .var 107 [.sl 103 D0 false, .sl 9 D1 false], .row 9 B2 false]
abbrev xO3 : Type := ((Int × Unit) × ((Unit × Unit) × (((List ua2) × ((List ByteArray) × Unit)) × ((List ByteArray) × Unit))))
def vc9 : Res E (Int × Unit) ((Unit × Unit) × (((List ua2) × ((List ByteArray) × Unit)) × ((List ByteArray) × Unit))) := { rows := [], flat := [], keep := 2, done := [0], rl := (.cons (Rd.int .i64) .nil), rb := (.cons (.var 101 (.cons (Rd.rw 2) .nil)) (.cons (.var 107 (.cons (Rd.sl 103 false) (.cons (Rd.sl 9 false) .nil))) (.cons (.row 9 false) .nil))) }
def u02 : ww6 → Option xO3
 | .start s0 f1_0 f1_1 f1_2 f1_3 f1_4 D0 D1 B2 =>
  (uy2 (.start f1_0 B2)) >>= fun t1 =>
  if (t1.1.1 != (0 : Int)) = true then
   some ((t1.1.1, ()), (((), ()), ((D0, (D1, ())), (B2, ()))))
  else
   if (fits (List.length B2) (List.length ([f1_0] : List ByteArray)) 16) = true then
    (uH9 (.start D0 D1 f1_1 f1_2 f1_3 f1_4)) >>= fun t2 =>
    some ((t2.1.1, ()), (((), ()), ((D0, (D1, ())), (B2 ++ ([f1_0] : List ByteArray), ()))))
   else none
def xg4 : List (Plc E ww6) := []
theorem wN1 : All (ub8 24 2 vJ5 xJ1) xg4 := trivial
def wf6 : Code := Tryz.f117.body.getD .skip
def wm8 : Spec E.S := (Con.add vT0 (Con.add u70 ub0))
theorem v39 : ua9 E wm8 := (Con.add_ok vn7 (Con.add_ok uK2 ua7))
theorem xu9 : ∀ pt r, u02 pt = some r → Good E Tryz.f117 wf6 2 (vc9.av r) (vc9.bx r) (vJ5 pt) (xJ1 pt) := by
 intro pt r hr
 cases pt <;> exact ua8 (spec := wm8) (wr := (mkWr [] [])) (l := xg4) (z := 24) (p := vc9) (run' := fun _ => none) E_ok wN1.mem rfl v39 (fun _ _ h => by cases h) (Eq.trans (by kernel_rfl) hr)
def wY7 : Con E := ⟨117, _, _, (.cons (Rd.int .i64).w (.cons (Rw.agg (.cons Rd.str.w (.cons (Rd.int .i64).w (.cons (Rd.int .i64).w (.cons Rd.str.w (.cons (Rw.sl 25) .nil)))))) (.cons (Rd.bp 0 0).w (.cons (Rd.bp 1 0).w .nil)))), (.cons (.var 101 (.cons (Rd.rw 2) .nil)) (.cons (.var 107 (.cons (Rd.sl 103 false) (.cons (Rd.sl 9 false) .nil))) (.cons (.row 9 false) .nil))), 2, xO3, fun a b => u02 (.start a.1 a.2.1.1 a.2.1.2.1 a.2.1.2.2.1 a.2.1.2.2.2.1 a.2.1.2.2.2.2.1 b.2.1.1 b.2.1.2.1 b.2.2.1), vc9.av, vc9.bx⟩
theorem wB1 : wY7.Ok := fun a b r h => ub3 (fn := Tryz.f117) (code := wf6) E_ok (by kernel_rfl) (by kernel_rfl) (by kernel_rfl) (Nat.le_of_ble_eq_true rfl) (xu9 (.start a.1 a.2.1.1 a.2.1.2.1 a.2.1.2.2.1 a.2.1.2.2.2.1 a.2.1.2.2.2.2.1 b.2.1.1 b.2.1.2.1 b.2.2.1) r h)
inductive ww7 where
 | start (l0 : (List ua6)) (D0 : (List ua2)) (D1 : (List ByteArray))
 | p52 (s9 : (List ua6)) (s10 : Int) (s11 : Int) (D0 : (List ua2)) (D1 : (List ByteArray)) (B2 : (List ByteArray))
def u99 : ww7 → List Bool
 | .start .. => []
 | .p52 .. => [false, false, true, false, true]
def xc5 : ww7 → St E.S
 | .start l0 D0 D1 => st0 25 [.sl 58 l0 false, .fn 117 [.bp 0 0, .bp 1 0]] [.var 101 [.nl], .var 107 [.sl 103 D0 false, .sl 9 D1 false]]
 | .p52 s9 s10 s11 D0 D1 B2 => mkSt 25 [1, 9, 10, 11] [.fn 117 [.bp 0 0, .bp 1 0], .sl 58 s9 false, .v (.int .i64 s10), .v (.int .i64 s11)] [.var 101 [.rw 2], .var 107 [.sl 103 D0 false, .sl 9 D1 false], .row 9 B2 false]
abbrev xO4 : Type := ((Int × (Int × Unit)) × ((Unit × Unit) × (((List ua2) × ((List ByteArray) × Unit)) × ((List ByteArray) × Unit))))
def uO8 : Res E (Int × (Int × Unit)) ((Unit × Unit) × (((List ua2) × ((List ByteArray) × Unit)) × ((List ByteArray) × Unit))) := { rows := [], flat := [], keep := 2, done := [0, 1, 100000], rl := (.cons (Rd.int .i64) (.cons (Rd.int .i64) .nil)), rb := (.cons (.var 101 (.cons (Rd.rw 2) .nil)) (.cons (.var 107 (.cons (Rd.sl 103 false) (.cons (Rd.sl 9 false) .nil))) (.cons (.row 9 true) .nil))) }
def un1 : ww7 → Option xO4
 | .start l0 D0 D1 =>
  un1 (.p52 l0 (List.length l0 : Int) (0 : Int) D0 D1 ([] : List ByteArray))
 | .p52 s9 s10 s11 D0 D1 B2 =>
  if (decide (s11 < s10)) = true then
   (idx s9 s11) >>= fun t1 =>
   (u02 (.start s11 t1.Name t1.Type_.Kind t1.Type_.Value t1.Type_.Name t1.Type_.Parts D0 D1 B2)) >>= fun t2 =>
   if (t2.1.1 != (0 : Int)) = true then
    some ((s11, (t2.1.1, ())), (((), ()), ((t2.2.2.1.1, (t2.2.2.1.2.1, ())), (t2.2.2.2.1, ()))))
   else
    un1 (.p52 s9 s10 (IntKind.wrap .i64 (s11 + (1 : Int))) t2.2.2.1.1 t2.2.2.1.2.1 t2.2.2.2.1)
  else
   some (((0 : Int), ((0 : Int), ())), (((), ()), ((D0, (D1, ())), (B2, ()))))
 partial_fixpoint
def xg5 : List (Plc E ww7) := [⟨52, [false, false, true, false, true], { slots := [1, 9, 10, 11], rows := [], flat := [], keep := 2, up := [(true, 100000, 0, 9)] }, _, _, (.cons (Rd.fn 117 (.cons (Rd.bp 0 0) (.cons (Rd.bp 1 0) .nil))) (.cons (Rd.sl 58 false) (.cons (Rd.int .i64) (.cons (Rd.int .i64) .nil)))), (.cons (.var 101 (.cons (Rd.rw 2) .nil)) (.cons (.var 107 (.cons (Rd.sl 103 false) (.cons (Rd.sl 9 false) .nil))) (.cons (.row 9 false) .nil))), fun a b => .p52 a.2.1 a.2.2.1 a.2.2.2.1 b.2.1.1 b.2.1.2.1 b.2.2.1⟩]
theorem wN2 : All (ub8 25 2 u99 xc5) xg5 := ⟨⟨rfl, rfl, fun _ _ => rfl, fun _ _ => rfl⟩, trivial⟩
def vu4 : Code := Tryz.f116.body.getD .skip
def wm9 : Spec E.S := (Con.add wY7 ub0)
theorem v40 : ua9 E wm9 := (Con.add_ok wB1 ua7)
theorem xv0 : ∀ pt r, un1 pt = some r → Good E Tryz.f116 vu4 2 (uO8.av r) (uO8.bx r) (u99 pt) (xc5 pt) := by
 refine un1.partial_correctness (fun pt r => Good E Tryz.f116 vu4 2 (uO8.av r) (uO8.bx r) (u99 pt) (xc5 pt)) ?_
 intro run' ih pt r hr
 cases pt <;> exact ua8 (spec := wm9) (wr := (mkWr [] [])) (l := xg5) (z := 25) (p := uO8) E_ok wN2.mem rfl v40 ih (Eq.trans (by kernel_rfl) hr)
def wY8 : Con E := ⟨116, _, _, (.cons (Rw.sl 58) (.cons (Rd.fn 117 (.cons (Rd.bp 0 0) (.cons (Rd.bp 1 0) .nil))).w .nil)), (.cons (.var 101 (.cons Rd.nl .nil)) (.cons (.var 107 (.cons (Rd.sl 103 false) (.cons (Rd.sl 9 false) .nil))) .nil)), 2, xO4, fun a b => un1 (.start a.1 b.2.1.1 b.2.1.2.1), uO8.av, uO8.bx⟩
theorem wB2 : wY8.Ok := fun a b r h => ub3 (fn := Tryz.f116) (code := vu4) E_ok (by kernel_rfl) (by kernel_rfl) (by kernel_rfl) (Nat.le_of_ble_eq_true rfl) (xv0 (.start a.1 b.2.1.1 b.2.1.2.1) r h)
inductive ww8 where
 | start (s0 : Int) (c1_0 : ByteArray) (c1_1 : (List ua6)) (D0 : (List ua2)) (D1 : (List ByteArray)) (B2 : (List ByteArray))
def vJ6 : ww8 → List Bool
 | .start .. => []
def xJ2 : ww8 → St E.S
 | .start s0 c1_0 c1_1 D0 D1 B2 => st0 38 [.v (.int .i64 s0), .agg [.v (.string c1_0), .sl 58 c1_1 false], .bp 0 0, .bp 1 0] [.var 101 [.rw 2], .var 107 [.sl 103 D0 false, .sl 9 D1 false], .row 9 B2 true]
abbrev xO5 : Type := ((Int × Unit) × ((Unit × Unit) × (((List ua2) × ((List ByteArray) × Unit)) × ((List ByteArray) × Unit))))
def vd0 : Res E (Int × Unit) ((Unit × Unit) × (((List ua2) × ((List ByteArray) × Unit)) × ((List ByteArray) × Unit))) := { rows := [], flat := [], keep := 2, done := [0], rl := (.cons (Rd.int .i64) .nil), rb := (.cons (.var 101 (.cons (Rd.rw 2) .nil)) (.cons (.var 107 (.cons (Rd.sl 103 false) (.cons (Rd.sl 9 false) .nil))) (.cons (.row 9 true) .nil))) }
def u03 : ww8 → Option xO5
 | .start s0 c1_0 c1_1 D0 D1 B2 =>
  (uy2 (.start c1_0 B2)) >>= fun t1 =>
  (uc6 (.start (decide ((List.length c1_1 : Int) ≤ (8 : Int))) (8 : Int))) >>= fun t2 =>
  (ud1 (.start ([t1.1.1, t2.1.1] : List Int))) >>= fun t3 =>
  if (t3.1.1 != (0 : Int)) = true then
   some ((t3.1.1, ()), (((), ()), ((D0, (D1, ())), (B2, ()))))
  else
   if (fits (List.length B2) (List.length ([c1_0] : List ByteArray)) 16) = true then
    (un1 (.start c1_1 D0 D1)) >>= fun t4 =>
    some ((t4.1.2.1, ()), (((), ()), ((t4.2.2.1.1, (t4.2.2.1.2.1, ())), (B2 ++ ([c1_0] : List ByteArray), ()))))
   else none
def xg6 : List (Plc E ww8) := []
theorem wN3 : All (ub8 38 2 vJ6 xJ2) xg6 := trivial
def wf7 : Code := Tryz.f115.body.getD .skip
def wn0 : Spec E.S := (Con.add wY8 (Con.add uE9 (Con.add uS3 (Con.add u70 ub0))))
theorem v41 : ua9 E wn0 := (Con.add_ok wB2 (Con.add_ok un9 (Con.add_ok uq6 (Con.add_ok uK2 ua7))))
theorem xv1 : ∀ pt r, u03 pt = some r → Good E Tryz.f115 wf7 2 (vd0.av r) (vd0.bx r) (vJ6 pt) (xJ2 pt) := by
 intro pt r hr
 cases pt <;> exact ua8 (spec := wn0) (wr := (mkWr [] [])) (l := xg6) (z := 38) (p := vd0) (run' := fun _ => none) E_ok wN3.mem rfl v41 (fun _ _ h => by cases h) (Eq.trans (by kernel_rfl) hr)
def wY9 : Con E := ⟨115, _, _, (.cons (Rd.int .i64).w (.cons (Rw.agg (.cons Rd.str.w (.cons (Rw.sl 58) .nil))) (.cons (Rd.bp 0 0).w (.cons (Rd.bp 1 0).w .nil)))), (.cons (.var 101 (.cons (Rd.rw 2) .nil)) (.cons (.var 107 (.cons (Rd.sl 103 false) (.cons (Rd.sl 9 false) .nil))) (.cons (.row 9 true) .nil))), 2, xO5, fun a b => u03 (.start a.1 a.2.1.1 a.2.1.2.1 b.2.1.1 b.2.1.2.1 b.2.2.1), vd0.av, vd0.bx⟩
theorem wB3 : wY9.Ok := fun a b r h => ub3 (fn := Tryz.f115) (code := wf7) E_ok (by kernel_rfl) (by kernel_rfl) (by kernel_rfl) (Nat.le_of_ble_eq_true rfl) (xv1 (.start a.1 a.2.1.1 a.2.1.2.1 b.2.1.1 b.2.1.2.1 b.2.2.1) r h)
inductive ww9 where
 | start (l0 : (List ua1)) (D0 : (List ua2)) (D1 : (List ByteArray)) (B2 : (List ByteArray))
 | p52 (s9 : (List ua1)) (s10 : Int) (s11 : Int) (D0 : (List ua2)) (D1 : (List ByteArray)) (B2 : (List ByteArray))
def va0 : ww9 → List Bool
 | .start .. => []
 | .p52 .. => [false, false, true, false, true]
def xc6 : ww9 → St E.S
 | .start l0 D0 D1 B2 => st0 25 [.sl 56 l0 false, .fn 115 [.bp 0 0, .bp 1 0]] [.var 101 [.rw 2], .var 107 [.sl 103 D0 false, .sl 9 D1 false], .row 9 B2 true]
 | .p52 s9 s10 s11 D0 D1 B2 => mkSt 25 [1, 9, 10, 11] [.fn 115 [.bp 0 0, .bp 1 0], .sl 56 s9 false, .v (.int .i64 s10), .v (.int .i64 s11)] [.var 101 [.rw 2], .var 107 [.sl 103 D0 false, .sl 9 D1 false], .row 9 B2 true]
abbrev xO6 : Type := ((Int × (Int × Unit)) × ((Unit × Unit) × (((List ua2) × ((List ByteArray) × Unit)) × ((List ByteArray) × Unit))))
def uO9 : Res E (Int × (Int × Unit)) ((Unit × Unit) × (((List ua2) × ((List ByteArray) × Unit)) × ((List ByteArray) × Unit))) := { rows := [], flat := [], keep := 2, done := [0, 1], rl := (.cons (Rd.int .i64) (.cons (Rd.int .i64) .nil)), rb := (.cons (.var 101 (.cons (Rd.rw 2) .nil)) (.cons (.var 107 (.cons (Rd.sl 103 false) (.cons (Rd.sl 9 false) .nil))) (.cons (.row 9 true) .nil))) }
def un2 : ww9 → Option xO6
 | .start l0 D0 D1 B2 =>
  un2 (.p52 l0 (List.length l0 : Int) (0 : Int) D0 D1 B2)
 | .p52 s9 s10 s11 D0 D1 B2 =>
  if (decide (s11 < s10)) = true then
   (idx s9 s11) >>= fun t1 =>
   (u03 (.start s11 t1.Name t1.Fields D0 D1 B2)) >>= fun t2 =>
   if (t2.1.1 != (0 : Int)) = true then
    some ((s11, (t2.1.1, ())), (((), ()), ((t2.2.2.1.1, (t2.2.2.1.2.1, ())), (t2.2.2.2.1, ()))))
   else
    un2 (.p52 s9 s10 (IntKind.wrap .i64 (s11 + (1 : Int))) t2.2.2.1.1 t2.2.2.1.2.1 t2.2.2.2.1)
  else
   some (((0 : Int), ((0 : Int), ())), (((), ()), ((D0, (D1, ())), (B2, ()))))
 partial_fixpoint
def xg7 : List (Plc E ww9) := [⟨52, [false, false, true, false, true], { slots := [1, 9, 10, 11], rows := [], flat := [], keep := 2 }, _, _, (.cons (Rd.fn 115 (.cons (Rd.bp 0 0) (.cons (Rd.bp 1 0) .nil))) (.cons (Rd.sl 56 false) (.cons (Rd.int .i64) (.cons (Rd.int .i64) .nil)))), (.cons (.var 101 (.cons (Rd.rw 2) .nil)) (.cons (.var 107 (.cons (Rd.sl 103 false) (.cons (Rd.sl 9 false) .nil))) (.cons (.row 9 true) .nil))), fun a b => .p52 a.2.1 a.2.2.1 a.2.2.2.1 b.2.1.1 b.2.1.2.1 b.2.2.1⟩]
theorem wN4 : All (ub8 25 2 va0 xc6) xg7 := ⟨⟨rfl, rfl, fun _ _ => rfl, fun _ _ => rfl⟩, trivial⟩
def vu5 : Code := Tryz.f114.body.getD .skip
def wn1 : Spec E.S := (Con.add wY9 ub0)
theorem v42 : ua9 E wn1 := (Con.add_ok wB3 ua7)
theorem xv2 : ∀ pt r, un2 pt = some r → Good E Tryz.f114 vu5 2 (uO9.av r) (uO9.bx r) (va0 pt) (xc6 pt) := by
 refine un2.partial_correctness (fun pt r => Good E Tryz.f114 vu5 2 (uO9.av r) (uO9.bx r) (va0 pt) (xc6 pt)) ?_
 intro run' ih pt r hr
 cases pt <;> exact ua8 (spec := wn1) (wr := (mkWr [] [])) (l := xg7) (z := 25) (p := uO9) E_ok wN4.mem rfl v42 ih (Eq.trans (by kernel_rfl) hr)
def wZ0 : Con E := ⟨114, _, _, (.cons (Rw.sl 56) (.cons (Rd.fn 115 (.cons (Rd.bp 0 0) (.cons (Rd.bp 1 0) .nil))).w .nil)), (.cons (.var 101 (.cons (Rd.rw 2) .nil)) (.cons (.var 107 (.cons (Rd.sl 103 false) (.cons (Rd.sl 9 false) .nil))) (.cons (.row 9 true) .nil))), 2, xO6, fun a b => un2 (.start a.1 b.2.1.1 b.2.1.2.1 b.2.2.1), uO9.av, uO9.bx⟩
theorem wB4 : wZ0.Ok := fun a b r h => ub3 (fn := Tryz.f114) (code := vu5) E_ok (by kernel_rfl) (by kernel_rfl) (by kernel_rfl) (Nat.le_of_ble_eq_true rfl) (xv2 (.start a.1 b.2.1.1 b.2.1.2.1 b.2.2.1) r h)
inductive wx0 where
 | start (s0_0 : (List ua2)) (s0_1 : (List ByteArray)) (d1_0 : ByteArray) (d1_1 : (List ByteArray)) (d1_2 : (List ua1)) (names2 : (List ByteArray)) (constructors3 : (List ByteArray))
 | p7 (constructors3 : (List ByteArray)) (e9 : Int) (C0 : (List ua2)) (C1 : (List ByteArray)) (D0 : ByteArray) (D1 : (List ByteArray)) (D2 : (List ua1))
def va1 : wx0 → List Bool
 | .start .. => []
 | .p7 .. => [true, true]
def xc7 : wx0 → St E.S
 | .start s0_0 s0_1 d1_0 d1_1 d1_2 names2 constructors3 => st0 64 [.agg [.sl 103 s0_0 false, .sl 9 s0_1 false], .agg [.v (.string d1_0), .sl 9 d1_1 false, .sl 56 d1_2 false], .sl 9 names2 true, .sl 9 constructors3 true] []
 | .p7 constructors3 e9 C0 C1 D0 D1 D2 => mkSt 64 [3, 4, 5, 9] [.sl 9 constructors3 true, .bp 0 0, .bp 1 0, .v (.int .i64 e9)] [.var 107 [.sl 103 C0 false, .sl 9 C1 false], .var 103 [.v (.string D0), .sl 9 D1 false, .sl 56 D2 false]]
abbrev xO7 : Type := ((Int × Unit) × Unit)
def uP0 : Res E (Int × Unit) Unit := { rows := [], flat := [], keep := 0, done := [0], rl := (.cons (Rd.int .i64) .nil), rb := .nil }
def up8 : wx0 → Option xO7
 | .start s0_0 s0_1 d1_0 d1_1 d1_2 names2 constructors3 =>
  if (fits (List.length names2) (List.length ([(⟨#[66, 105, 116]⟩ : ByteArray), (⟨#[66, 111, 111, 108]⟩ : ByteArray), (⟨#[73, 110, 116, 101, 103, 101, 114]⟩ : ByteArray)] : List ByteArray)) 16) = true then
   (uy2 (.start d1_0 (names2 ++ ([(⟨#[66, 105, 116]⟩ : ByteArray), (⟨#[66, 111, 111, 108]⟩ : ByteArray), (⟨#[73, 110, 116, 101, 103, 101, 114]⟩ : ByteArray)] : List ByteArray)))) >>= fun t1 =>
   if (decide ((List.length d1_1 : Int) ≤ (4 : Int))) = true then
    (uc6 (.start (decide ((List.length d1_2 : Int) ≤ (16 : Int))) (8 : Int))) >>= fun t2 =>
    (uc6 (.start (decide ((List.length d1_2 : Int) > (0 : Int))) (10 : Int))) >>= fun t3 =>
    (ud1 (.start ([t1.1.1, t2.1.1, t3.1.1] : List Int))) >>= fun t4 =>
    up8 (.p7 constructors3 t4.1.1 s0_0 s0_1 d1_0 d1_1 d1_2)
   else
    (uc6 (.start false (8 : Int))) >>= fun t5 =>
    (uc6 (.start (decide ((List.length d1_2 : Int) > (0 : Int))) (10 : Int))) >>= fun t6 =>
    (ud1 (.start ([t1.1.1, t5.1.1, t6.1.1] : List Int))) >>= fun t7 =>
    up8 (.p7 constructors3 t7.1.1 s0_0 s0_1 d1_0 d1_1 d1_2)
  else none
 | .p7 constructors3 e9 C0 C1 D0 D1 D2 =>
  if (e9 != (0 : Int)) = true then
   some ((e9, ()), ())
  else
   (um9 (.start D1 D0 D1 D2)) >>= fun t1 =>
   if (t1.1.2.1 != (0 : Int)) = true then
    some ((t1.1.2.1, ()), ())
   else
    if (fits (List.length constructors3) (List.length ([(⟨#[70, 97, 108, 115, 101]⟩ : ByteArray), (⟨#[84, 114, 117, 101]⟩ : ByteArray)] : List ByteArray)) 16) = true then
     (un2 (.start t1.2.1.2.2.1 C0 t1.2.1.2.1 (constructors3 ++ ([(⟨#[70, 97, 108, 115, 101]⟩ : ByteArray), (⟨#[84, 114, 117, 101]⟩ : ByteArray)] : List ByteArray)))) >>= fun t2 =>
     some ((t2.1.2.1, ()), ())
    else none
 partial_fixpoint
def xg8 : List (Plc E wx0) := [⟨7, [true, true], { slots := [3, 4, 5, 9], rows := [], flat := [], keep := 0 }, _, _, (.cons (Rd.sl 9 true) (.cons (Rd.bp 0 0) (.cons (Rd.bp 1 0) (.cons (Rd.int .i64) .nil)))), (.cons (.var 107 (.cons (Rd.sl 103 false) (.cons (Rd.sl 9 false) .nil))) (.cons (.var 103 (.cons Rd.str (.cons (Rd.sl 9 false) (.cons (Rd.sl 56 false) .nil)))) .nil)), fun a b => .p7 a.1 a.2.2.2.1 b.1.1 b.1.2.1 b.2.1.1 b.2.1.2.1 b.2.1.2.2.1⟩]
theorem wN5 : All (ub8 64 0 va1 xc7) xg8 := ⟨⟨rfl, rfl, fun _ _ => rfl, fun _ _ => rfl⟩, trivial⟩
def vu6 : Code := Tryz.f77.body.getD .skip
def wn2 : Spec E.S := (Con.add wZ0 (Con.add wX9 (Con.add uE9 (Con.add uS3 (Con.add u70 ub0)))))
theorem v43 : ua9 E wn2 := (Con.add_ok wB4 (Con.add_ok wA5 (Con.add_ok un9 (Con.add_ok uq6 (Con.add_ok uK2 ua7)))))
theorem xv3 : ∀ pt r, up8 pt = some r → Good E Tryz.f77 vu6 0 (uP0.av r) (uP0.bx r) (va1 pt) (xc7 pt) := by
 refine up8.partial_correctness (fun pt r => Good E Tryz.f77 vu6 0 (uP0.av r) (uP0.bx r) (va1 pt) (xc7 pt)) ?_
 intro run' ih pt r hr
 cases pt <;> exact ua8 (spec := wn2) (wr := (mkWr [] [])) (l := xg8) (z := 64) (p := uP0) E_ok wN5.mem rfl v43 ih (Eq.trans (by kernel_rfl) hr)
def vT1 : Con E := ⟨77, _, _, (.cons (Rw.agg (.cons (Rw.sl 103) (.cons (Rw.sl 9) .nil))) (.cons (Rw.agg (.cons Rd.str.w (.cons (Rw.sl 9) (.cons (Rw.sl 56) .nil)))) (.cons (Rd.sl 9 true).w (.cons (Rd.sl 9 true).w .nil)))), .nil, 0, xO7, fun a b => up8 (.start a.1.1 a.1.2.1 a.2.1.1 a.2.1.2.1 a.2.1.2.2.1 a.2.2.1 a.2.2.2.1), uP0.av, uP0.bx⟩
theorem vn8 : vT1.Ok := fun a b r h => ub3 (fn := Tryz.f77) (code := vu6) E_ok (by kernel_rfl) (by kernel_rfl) (by kernel_rfl) (Nat.le_of_ble_eq_true rfl) (xv3 (.start a.1.1 a.1.2.1 a.2.1.1 a.2.1.2.1 a.2.1.2.2.1 a.2.2.1 a.2.2.2.1) r h)
inductive xp4 where
 | start (i0 : Int) (d1_0 : ByteArray) (d1_1 : (List ByteArray)) (d1_2 : (List ua1)) (B0 : (List ua2)) (B3 : (List ByteArray)) (B4 : (List ByteArray))
 | p244 (e8 : Int) (s27 : (List ua1)) (s28 : Int) (s29 : Int) (B0 : (List ua2)) (B3 : (List ByteArray)) (B4 : (List ByteArray))
def va2 : xp4 → List Bool
 | .start .. => []
 | .p244 .. => [false, false, true, false, true, true, true]
def xc8 : xp4 → St E.S
 | .start i0 d1_0 d1_1 d1_2 B0 B3 B4 => st0 40 [.v (.int .i64 i0), .agg [.v (.string d1_0), .sl 9 d1_1 false, .sl 56 d1_2 false], .bp 0 0, .bp 1 0, .bp 2 0] [.var 22 [.sl 103 B0 false], .var 101 [.rw 3], .var 101 [.rw 4], .row 9 B3 false, .row 9 B4 false]
 | .p244 e8 s27 s28 s29 B0 B3 B4 => mkSt 40 [4, 8, 27, 28, 29] [.bp 2 0, .v (.int .i64 e8), .sl 56 s27 false, .v (.int .i64 s28), .v (.int .i64 s29)] [.var 22 [.sl 103 B0 false], .var 101 [.rw 3], .var 101 [.rw 4], .row 9 B3 true, .row 9 B4 true]
abbrev xZ7 : Type := ((Int × Unit) × (((List ua2) × Unit) × ((Unit × Unit) × ((Unit × Unit) × ((List ByteArray) × ((List ByteArray) × Unit))))))
def uP1 : Res E (Int × Unit) (((List ua2) × Unit) × ((Unit × Unit) × ((Unit × Unit) × ((List ByteArray) × ((List ByteArray) × Unit))))) := { rows := [], flat := [], keep := 3, done := [0], rl := (.cons (Rd.int .i64) .nil), rb := (.cons (.var 22 (.cons (Rd.sl 103 false) .nil)) (.cons (.var 101 (.cons (Rd.rw 3) .nil)) (.cons (.var 101 (.cons (Rd.rw 4) .nil)) (.cons (.row 9 true) (.cons (.row 9 true) .nil))))) }
def vg7 : xp4 → Option xZ7
 | .start i0 d1_0 d1_1 d1_2 B0 B3 B4 =>
  (span (List.length B0) (0 : Int) i0) >>= fun t1 =>
  (uM8 (.start B3)) >>= fun t2 =>
  (uM8 (.start B4)) >>= fun t3 =>
  (up8 (.start (cut B0 t1) ([]) d1_0 d1_1 d1_2 t2.1.1 t3.1.1)) >>= fun t4 =>
  if (fits (List.length B3) (List.length ([d1_0] : List ByteArray)) 16) = true then
   vg7 (.p244 t4.1.1 d1_2 (List.length d1_2 : Int) (0 : Int) B0 (B3 ++ ([d1_0] : List ByteArray)) B4)
  else none
 | .p244 e8 s27 s28 s29 B0 B3 B4 =>
  if (decide (s29 < s28)) = true then
   (idx s27 s29) >>= fun t1 =>
   if (fits (List.length B4) (List.length ([t1.Name] : List ByteArray)) 16) = true then
    vg7 (.p244 e8 s27 s28 (IntKind.wrap .i64 (s29 + (1 : Int))) B0 B3 (B4 ++ ([t1.Name] : List ByteArray)))
   else none
  else
   some ((e8, ()), ((B0, ()), (((), ()), (((), ()), (B3, (B4, ()))))))
 partial_fixpoint
def xg9 : List (Plc E xp4) := [⟨244, [false, false, true, false, true, true, true], { slots := [4, 8, 27, 28, 29], rows := [], flat := [], keep := 3 }, _, _, (.cons (Rd.bp 2 0) (.cons (Rd.int .i64) (.cons (Rd.sl 56 false) (.cons (Rd.int .i64) (.cons (Rd.int .i64) .nil))))), (.cons (.var 22 (.cons (Rd.sl 103 false) .nil)) (.cons (.var 101 (.cons (Rd.rw 3) .nil)) (.cons (.var 101 (.cons (Rd.rw 4) .nil)) (.cons (.row 9 true) (.cons (.row 9 true) .nil))))), fun a b => .p244 a.2.1 a.2.2.1 a.2.2.2.1 a.2.2.2.2.1 b.1.1 b.2.2.2.1 b.2.2.2.2.1⟩]
theorem wN6 : All (ub8 40 3 va2 xc8) xg9 := ⟨⟨rfl, rfl, fun _ _ => rfl, fun _ _ => rfl⟩, trivial⟩
def vu7 : Code := Tryz.f76.body.getD .skip
def wn3 : Spec E.S := (Con.add vT1 (Con.add w00 ub0))
theorem v44 : ua9 E wn3 := (Con.add_ok vn8 (Con.add_ok vG3 ua7))
theorem xv4 : ∀ pt r, vg7 pt = some r → Good E Tryz.f76 vu7 3 (uP1.av r) (uP1.bx r) (va2 pt) (xc8 pt) := by
 refine vg7.partial_correctness (fun pt r => Good E Tryz.f76 vu7 3 (uP1.av r) (uP1.bx r) (va2 pt) (xc8 pt)) ?_
 intro run' ih pt r hr
 cases pt <;> exact ua8 (spec := wn3) (wr := (mkWr [] [(6, [3, 4])])) (l := xg9) (z := 40) (p := uP1) E_ok wN6.mem rfl v44 ih (Eq.trans (by kernel_rfl) hr)
def xR8 : Con E := ⟨76, _, _, (.cons (Rd.int .i64).w (.cons (Rw.agg (.cons Rd.str.w (.cons (Rw.sl 9) (.cons (Rw.sl 56) .nil)))) (.cons (Rd.bp 0 0).w (.cons (Rd.bp 1 0).w (.cons (Rd.bp 2 0).w .nil))))), (.cons (.var 22 (.cons (Rd.sl 103 false) .nil)) (.cons (.var 101 (.cons (Rd.rw 3) .nil)) (.cons (.var 101 (.cons (Rd.rw 4) .nil)) (.cons (.row 9 false) (.cons (.row 9 false) .nil))))), 3, xZ7, fun a b => vg7 (.start a.1 a.2.1.1 a.2.1.2.1 a.2.1.2.2.1 b.1.1 b.2.2.2.1 b.2.2.2.2.1), uP1.av, uP1.bx⟩
theorem xY7 : xR8.Ok := fun a b r h => ub3 (fn := Tryz.f76) (code := vu7) E_ok (by kernel_rfl) (by kernel_rfl) (by kernel_rfl) (Nat.le_of_ble_eq_true rfl) (xv4 (.start a.1 a.2.1.1 a.2.1.2.1 a.2.1.2.2.1 b.1.1 b.2.2.2.1 b.2.2.2.2.1) r h)
inductive wx1 where
 | start (i0 : Int) (d1_0 : ByteArray) (d1_1 : (List ByteArray)) (d1_2 : (List ua1)) (B0 : (List ua2)) (B3 : (List ByteArray)) (B4 : (List ByteArray))
 | p244 (e8 : Int) (s27 : (List ua1)) (s28 : Int) (s29 : Int) (B0 : (List ua2)) (B3 : (List ByteArray)) (B4 : (List ByteArray))
def va3 : wx1 → List Bool
 | .start .. => []
 | .p244 .. => [false, false, true, false, true, true, true]
def xc9 : wx1 → St E.S
 | .start i0 d1_0 d1_1 d1_2 B0 B3 B4 => st0 40 [.v (.int .i64 i0), .agg [.v (.string d1_0), .sl 9 d1_1 false, .sl 56 d1_2 false], .bp 0 0, .bp 1 0, .bp 2 0] [.var 22 [.sl 103 B0 false], .var 101 [.rw 3], .var 101 [.rw 4], .row 9 B3 true, .row 9 B4 true]
 | .p244 e8 s27 s28 s29 B0 B3 B4 => mkSt 40 [4, 8, 27, 28, 29] [.bp 2 0, .v (.int .i64 e8), .sl 56 s27 false, .v (.int .i64 s28), .v (.int .i64 s29)] [.var 22 [.sl 103 B0 false], .var 101 [.rw 3], .var 101 [.rw 4], .row 9 B3 true, .row 9 B4 true]
abbrev xO8 : Type := ((Int × Unit) × (((List ua2) × Unit) × ((Unit × Unit) × ((Unit × Unit) × ((List ByteArray) × ((List ByteArray) × Unit))))))
def uP2 : Res E (Int × Unit) (((List ua2) × Unit) × ((Unit × Unit) × ((Unit × Unit) × ((List ByteArray) × ((List ByteArray) × Unit))))) := { rows := [], flat := [], keep := 3, done := [0], rl := (.cons (Rd.int .i64) .nil), rb := (.cons (.var 22 (.cons (Rd.sl 103 false) .nil)) (.cons (.var 101 (.cons (Rd.rw 3) .nil)) (.cons (.var 101 (.cons (Rd.rw 4) .nil)) (.cons (.row 9 true) (.cons (.row 9 true) .nil))))) }
def un3 : wx1 → Option xO8
 | .start i0 d1_0 d1_1 d1_2 B0 B3 B4 =>
  (span (List.length B0) (0 : Int) i0) >>= fun t1 =>
  (uM8 (.start B3)) >>= fun t2 =>
  (uM8 (.start B4)) >>= fun t3 =>
  (up8 (.start (cut B0 t1) ([]) d1_0 d1_1 d1_2 t2.1.1 t3.1.1)) >>= fun t4 =>
  if (fits (List.length B3) (List.length ([d1_0] : List ByteArray)) 16) = true then
   un3 (.p244 t4.1.1 d1_2 (List.length d1_2 : Int) (0 : Int) B0 (B3 ++ ([d1_0] : List ByteArray)) B4)
  else none
 | .p244 e8 s27 s28 s29 B0 B3 B4 =>
  if (decide (s29 < s28)) = true then
   (idx s27 s29) >>= fun t1 =>
   if (fits (List.length B4) (List.length ([t1.Name] : List ByteArray)) 16) = true then
    un3 (.p244 e8 s27 s28 (IntKind.wrap .i64 (s29 + (1 : Int))) B0 B3 (B4 ++ ([t1.Name] : List ByteArray)))
   else none
  else
   some ((e8, ()), ((B0, ()), (((), ()), (((), ()), (B3, (B4, ()))))))
 partial_fixpoint
def xh1 : List (Plc E wx1) := [⟨244, [false, false, true, false, true, true, true], { slots := [4, 8, 27, 28, 29], rows := [], flat := [], keep := 3 }, _, _, (.cons (Rd.bp 2 0) (.cons (Rd.int .i64) (.cons (Rd.sl 56 false) (.cons (Rd.int .i64) (.cons (Rd.int .i64) .nil))))), (.cons (.var 22 (.cons (Rd.sl 103 false) .nil)) (.cons (.var 101 (.cons (Rd.rw 3) .nil)) (.cons (.var 101 (.cons (Rd.rw 4) .nil)) (.cons (.row 9 true) (.cons (.row 9 true) .nil))))), fun a b => .p244 a.2.1 a.2.2.1 a.2.2.2.1 a.2.2.2.2.1 b.1.1 b.2.2.2.1 b.2.2.2.2.1⟩]
theorem wN7 : All (ub8 40 3 va3 xc9) xh1 := ⟨⟨rfl, rfl, fun _ _ => rfl, fun _ _ => rfl⟩, trivial⟩
def vu8 : Code := Tryz.f76.body.getD .skip
def wn4 : Spec E.S := (Con.add vT1 (Con.add w00 ub0))
theorem v45 : ua9 E wn4 := (Con.add_ok vn8 (Con.add_ok vG3 ua7))
theorem xv5 : ∀ pt r, un3 pt = some r → Good E Tryz.f76 vu8 3 (uP2.av r) (uP2.bx r) (va3 pt) (xc9 pt) := by
 refine un3.partial_correctness (fun pt r => Good E Tryz.f76 vu8 3 (uP2.av r) (uP2.bx r) (va3 pt) (xc9 pt)) ?_
 intro run' ih pt r hr
 cases pt <;> exact ua8 (spec := wn4) (wr := (mkWr [] [])) (l := xh1) (z := 40) (p := uP2) E_ok wN7.mem rfl v45 ih (Eq.trans (by kernel_rfl) hr)
def wZ1 : Con E := ⟨76, _, _, (.cons (Rd.int .i64).w (.cons (Rw.agg (.cons Rd.str.w (.cons (Rw.sl 9) (.cons (Rw.sl 56) .nil)))) (.cons (Rd.bp 0 0).w (.cons (Rd.bp 1 0).w (.cons (Rd.bp 2 0).w .nil))))), (.cons (.var 22 (.cons (Rd.sl 103 false) .nil)) (.cons (.var 101 (.cons (Rd.rw 3) .nil)) (.cons (.var 101 (.cons (Rd.rw 4) .nil)) (.cons (.row 9 true) (.cons (.row 9 true) .nil))))), 3, xO8, fun a b => un3 (.start a.1 a.2.1.1 a.2.1.2.1 a.2.1.2.2.1 b.1.1 b.2.2.2.1 b.2.2.2.2.1), uP2.av, uP2.bx⟩
theorem wB5 : wZ1.Ok := fun a b r h => ub3 (fn := Tryz.f76) (code := vu8) E_ok (by kernel_rfl) (by kernel_rfl) (by kernel_rfl) (Nat.le_of_ble_eq_true rfl) (xv5 (.start a.1 a.2.1.1 a.2.1.2.1 a.2.1.2.2.1 b.1.1 b.2.2.2.1 b.2.2.2.2.1) r h)
inductive wx2 where
 | start (l0 : (List ua2)) (B0 : (List ua2))
 | p52 (s9 : (List ua2)) (s10 : Int) (s11 : Int) (B0 : (List ua2)) (B3 : (List ByteArray)) (B4 : (List ByteArray))
def va4 : wx2 → List Bool
 | .start .. => []
 | .p52 .. => [false, false, true, false, true]
def xd0 : wx2 → St E.S
 | .start l0 B0 => st0 25 [.sl 103 l0 false, .fn 76 [.bp 0 0, .bp 1 0, .bp 2 0]] [.var 22 [.sl 103 B0 false], .var 101 [.nl], .var 101 [.nl]]
 | .p52 s9 s10 s11 B0 B3 B4 => mkSt 25 [1, 9, 10, 11] [.fn 76 [.bp 0 0, .bp 1 0, .bp 2 0], .sl 103 s9 false, .v (.int .i64 s10), .v (.int .i64 s11)] [.var 22 [.sl 103 B0 false], .var 101 [.rw 3], .var 101 [.rw 4], .row 9 B3 true, .row 9 B4 true]
abbrev xO9 : Type := ((Int × (Int × Unit)) × (((List ua2) × Unit) × ((Unit × Unit) × ((Unit × Unit) × ((List ByteArray) × ((List ByteArray) × Unit))))))
def uP3 : Res E (Int × (Int × Unit)) (((List ua2) × Unit) × ((Unit × Unit) × ((Unit × Unit) × ((List ByteArray) × ((List ByteArray) × Unit))))) := { rows := [], flat := [], keep := 3, done := [0, 1, 100002], rl := (.cons (Rd.int .i64) (.cons (Rd.int .i64) .nil)), rb := (.cons (.var 22 (.cons (Rd.sl 103 false) .nil)) (.cons (.var 101 (.cons (Rd.rw 3) .nil)) (.cons (.var 101 (.cons (Rd.rw 4) .nil)) (.cons (.row 9 true) (.cons (.row 9 true) .nil))))) }
def up9 : wx2 → Option xO9
 | .start l0 B0 =>
  up9 (.p52 l0 (List.length l0 : Int) (0 : Int) B0 ([] : List ByteArray) ([] : List ByteArray))
 | .p52 s9 s10 s11 B0 B3 B4 =>
  if (decide (s11 < s10)) = true then
   (idx s9 s11) >>= fun t1 =>
   (un3 (.start s11 t1.Name t1.Params t1.Constructors B0 B3 B4)) >>= fun t2 =>
   if (t2.1.1 != (0 : Int)) = true then
    some ((s11, (t2.1.1, ())), ((t2.2.1.1, ()), (((), ()), (((), ()), (t2.2.2.2.2.1, (t2.2.2.2.2.2.1, ()))))))
   else
    up9 (.p52 s9 s10 (IntKind.wrap .i64 (s11 + (1 : Int))) t2.2.1.1 t2.2.2.2.2.1 t2.2.2.2.2.2.1)
  else
   some (((0 : Int), ((0 : Int), ())), ((B0, ()), (((), ()), (((), ()), (B3, (B4, ()))))))
 partial_fixpoint
def xh2 : List (Plc E wx2) := [⟨52, [false, false, true, false, true], { slots := [1, 9, 10, 11], rows := [], flat := [], keep := 3, up := [(true, 100001, 0, 9), (true, 100002, 0, 9)], done := [1] }, _, _, (.cons (Rd.fn 76 (.cons (Rd.bp 0 0) (.cons (Rd.bp 1 0) (.cons (Rd.bp 2 0) .nil)))) (.cons (Rd.sl 103 false) (.cons (Rd.int .i64) (.cons (Rd.int .i64) .nil)))), (.cons (.var 22 (.cons (Rd.sl 103 false) .nil)) (.cons (.var 101 (.cons (Rd.rw 3) .nil)) (.cons (.var 101 (.cons (Rd.rw 4) .nil)) (.cons (.row 9 true) (.cons (.row 9 true) .nil))))), fun a b => .p52 a.2.1 a.2.2.1 a.2.2.2.1 b.1.1 b.2.2.2.1 b.2.2.2.2.1⟩]
theorem wN8 : All (ub8 25 3 va4 xd0) xh2 := ⟨⟨rfl, rfl, fun _ _ => rfl, fun _ _ => rfl⟩, trivial⟩
def vu9 : Code := Tryz.f75.body.getD .skip
def wn5 : Spec E.S := (Con.add wZ1 ub0)
theorem v47 : ua9 E wn5 := (Con.add_ok wB5 ua7)
theorem xv6 : ∀ pt r, up9 pt = some r → Good E Tryz.f75 vu9 3 (uP3.av r) (uP3.bx r) (va4 pt) (xd0 pt) := by
 refine up9.partial_correctness (fun pt r => Good E Tryz.f75 vu9 3 (uP3.av r) (uP3.bx r) (va4 pt) (xd0 pt)) ?_
 intro run' ih pt r hr
 cases pt <;> exact ua8 (spec := wn5) (wr := (mkWr [] [])) (l := xh2) (z := 25) (p := uP3) E_ok wN8.mem rfl v47 ih (Eq.trans (by kernel_rfl) hr)
def wZ2 : Con E := ⟨75, _, _, (.cons (Rw.sl 103) (.cons (Rd.fn 76 (.cons (Rd.bp 0 0) (.cons (Rd.bp 1 0) (.cons (Rd.bp 2 0) .nil)))).w .nil)), (.cons (.var 22 (.cons (Rd.sl 103 false) .nil)) (.cons (.var 101 (.cons Rd.nl .nil)) (.cons (.var 101 (.cons Rd.nl .nil)) .nil))), 3, xO9, fun a b => up9 (.start a.1 b.1.1), uP3.av, uP3.bx⟩
theorem wB6 : wZ2.Ok := fun a b r h => ub3 (fn := Tryz.f75) (code := vu9) E_ok (by kernel_rfl) (by kernel_rfl) (by kernel_rfl) (Nat.le_of_ble_eq_true rfl) (xv6 (.start a.1 b.1.1) r h)
inductive wx3 where
 | start (l0 : (List ua2))
def vJ7 : wx3 → List Bool
 | .start .. => []
def xJ3 : wx3 → St E.S
 | .start l0 => st0 14 [.sl 103 l0 false] []
abbrev xP0 : Type := ((Int × (Int × Unit)) × Unit)
def vd1 : Res E (Int × (Int × Unit)) Unit := { rows := [], flat := [], keep := 0, done := [0, 1], rl := (.cons (Rd.int .i64) (.cons (Rd.int .i64) .nil)), rb := .nil }
def uR0 : wx3 → Option xP0
 | .start l0 =>
  if (decide ((List.length l0 : Int) > (20 : Int))) = true then
   some (((0 : Int), ((8 : Int), ())), ())
  else
   (up9 (.start l0 l0)) >>= fun t1 =>
   some ((t1.1.1, (t1.1.2.1, ())), ())
def xh3 : List (Plc E wx3) := []
theorem wN9 : All (ub8 14 0 vJ7 xJ3) xh3 := trivial
def wf8 : Code := Tryz.f23.body.getD .skip
def wn6 : Spec E.S := (Con.add wZ2 ub0)
theorem v48 : ua9 E wn6 := (Con.add_ok wB6 ua7)
theorem xv7 : ∀ pt r, uR0 pt = some r → Good E Tryz.f23 wf8 0 (vd1.av r) (vd1.bx r) (vJ7 pt) (xJ3 pt) := by
 intro pt r hr
 cases pt <;> exact ua8 (spec := wn6) (wr := (mkWr [] [])) (l := xh3) (z := 14) (p := vd1) (run' := fun _ => none) E_ok wN9.mem rfl v48 (fun _ _ h => by cases h) (Eq.trans (by kernel_rfl) hr)
def wZ3 : Con E := ⟨23, _, _, (.cons (Rw.sl 103) .nil), .nil, 0, xP0, fun a b => uR0 (.start a.1), vd1.av, vd1.bx⟩
theorem wB7 : wZ3.Ok := fun a b r h => ub3 (fn := Tryz.f23) (code := wf8) E_ok (by kernel_rfl) (by kernel_rfl) (by kernel_rfl) (Nat.le_of_ble_eq_true rfl) (xv7 (.start a.1) r h)
inductive vk1 where
 | start (t0_0 : Int) (t0_1 : Int) (t0_2 : ByteArray) (t0_3 : (List ua0)) (params1 : (List ByteArray)) (args2 : (List ua0))
 | p27 (params1 : (List ByteArray)) (args2 : (List ua0)) (i7 : Int) (s21 : Bool) (C0 : Int) (C1 : Int) (C2 : ByteArray) (C3 : (List ua0)) (D0 : Int) (D1 : Int) (D2 : ByteArray)
 | p500 (params1 : (List ByteArray)) (args2 : (List ua0)) (s30 : (List ua0)) (s31 : Int) (s32 : Int) (C0 : Int) (C1 : Int) (C2 : ByteArray) (D0 : Int) (D1 : Int) (D2 : ByteArray) (B2 : (List ua0))
def uF9 : vk1 → List Bool
 | .start .. => []
 | .p27 .. => [true, true, false, true]
 | .p500 .. => [false, false, true, false, true, true, true, true]
def vP3 : vk1 → St E.S
 | .start t0_0 t0_1 t0_2 t0_3 params1 args2 => st0 47 [.agg [.v (.int .i64 t0_0), .v (.int .i64 t0_1), .v (.string t0_2), .sl 25 t0_3 false], .sl 9 params1 false, .sl 25 args2 false] []
 | .p27 params1 args2 i7 s21 C0 C1 C2 C3 D0 D1 D2 => mkSt 47 [1, 2, 3, 6, 7, 21] [.sl 9 params1 false, .sl 25 args2 false, .bp 0 0, .bp 1 0, .v (.int .i64 i7), .v (.bool s21)] [.var 25 [.v (.int .i64 C0), .v (.int .i64 C1), .v (.string C2), .sl 25 C3 false], .var 25 [.v (.int .i64 D0), .v (.int .i64 D1), .v (.string D2), .nl]]
 | .p500 params1 args2 s30 s31 s32 C0 C1 C2 D0 D1 D2 B2 => mkSt 47 [1, 2, 6, 8, 30, 31, 32] [.sl 9 params1 false, .sl 25 args2 false, .bp 0 0, .bp 1 0, .sl 25 s30 false, .v (.int .i64 s31), .v (.int .i64 s32)] [.var 25 [.v (.int .i64 C0), .v (.int .i64 C1), .v (.string C2), .nl], .var 25 [.v (.int .i64 D0), .v (.int .i64 D1), .v (.string D2), .rw 2], .row 25 B2 false]
abbrev vD2 : Type := (((Int × (Int × (ByteArray × ((List ua0) × Unit)))) × Unit) × Unit)
def uo3 : Res E ((Int × (Int × (ByteArray × ((List ua0) × Unit)))) × Unit) Unit := { rows := [], flat := [], keep := 0, deep := [(false, 0, 3, 25)], done := [0], rl := (.cons (Rd.agg (.cons (Rd.int .i64) (.cons (Rd.int .i64) (.cons Rd.str (.cons (Rd.sl 25 false) .nil))))) .nil), rb := .nil }
def uf4 : vk1 → Option vD2
 | .start t0_0 t0_1 t0_2 t0_3 params1 args2 =>
  (uv5 (.start params1 t0_2)) >>= fun t1 =>
  if (t0_0 == (0 : Int)) = true then
   uf4 (.p27 params1 args2 t1.1.1 (decide (t1.1.1 ≥ (0 : Int))) t0_0 t0_1 t0_2 t0_3 (0 : Int) (0 : Int) (⟨#[]⟩ : ByteArray))
  else
   uf4 (.p27 params1 args2 t1.1.1 false t0_0 t0_1 t0_2 t0_3 (0 : Int) (0 : Int) (⟨#[]⟩ : ByteArray))
 | .p27 params1 args2 i7 s21 C0 C1 C2 C3 D0 D1 D2 =>
  if s21 = true then
   (idx args2 i7) >>= fun t1 =>
   (uf4 (.start t1.Kind t1.Value t1.Name t1.Parts ([]) ([]))) >>= fun t2 =>
   some (((t2.1.1.1, (t2.1.1.2.1, (t2.1.1.2.2.1, (t2.1.1.2.2.2.1, ())))), ()), ())
  else
   uf4 (.p500 params1 args2 C3 (List.length C3 : Int) (0 : Int) D0 D1 D2 C0 C1 C2 ([] : List ua0))
 | .p500 params1 args2 s30 s31 s32 C0 C1 C2 D0 D1 D2 B2 =>
  if (decide (s32 < s31)) = true then
   (idx s30 s32) >>= fun t1 =>
   (uf4 (.start t1.Kind t1.Value t1.Name t1.Parts params1 args2)) >>= fun t2 =>
   if (fits (List.length B2) (List.length ([(⟨t2.1.1.1, t2.1.1.2.1, t2.1.1.2.2.1, t2.1.1.2.2.2.1⟩ : ua0)] : List ua0)) 56) = true then
    uf4 (.p500 params1 args2 s30 s31 (IntKind.wrap .i64 (s32 + (1 : Int))) C0 C1 C2 D0 D1 D2 (B2 ++ ([(⟨t2.1.1.1, t2.1.1.2.1, t2.1.1.2.2.1, t2.1.1.2.2.2.1⟩ : ua0)] : List ua0)))
   else none
  else
   some (((D0, (D1, (D2, (B2, ())))), ()), ())
 partial_fixpoint
def xh4 : List (Plc E vk1) := [⟨27, [true, true, false, true], { slots := [1, 2, 3, 6, 7, 21], rows := [], flat := [], keep := 0 }, _, _, (.cons (Rd.sl 9 false) (.cons (Rd.sl 25 false) (.cons (Rd.bp 0 0) (.cons (Rd.bp 1 0) (.cons (Rd.int .i64) (.cons Rd.bool .nil)))))), (.cons (.var 25 (.cons (Rd.int .i64) (.cons (Rd.int .i64) (.cons Rd.str (.cons (Rd.sl 25 false) .nil))))) (.cons (.var 25 (.cons (Rd.int .i64) (.cons (Rd.int .i64) (.cons Rd.str (.cons Rd.nl .nil))))) .nil)), fun a b => .p27 a.1 a.2.1 a.2.2.2.2.1 a.2.2.2.2.2.1 b.1.1 b.1.2.1 b.1.2.2.1 b.1.2.2.2.1 b.2.1.1 b.2.1.2.1 b.2.1.2.2.1⟩,
 ⟨500, [false, false, true, false, true, true, true, true], { slots := [1, 2, 6, 8, 30, 31, 32], rows := [], flat := [], keep := 0, up := [(true, 8, 3, 25)] }, _, _, (.cons (Rd.sl 9 false) (.cons (Rd.sl 25 false) (.cons (Rd.bp 0 0) (.cons (Rd.bp 1 0) (.cons (Rd.sl 25 false) (.cons (Rd.int .i64) (.cons (Rd.int .i64) .nil))))))), (.cons (.var 25 (.cons (Rd.int .i64) (.cons (Rd.int .i64) (.cons Rd.str (.cons Rd.nl .nil))))) (.cons (.var 25 (.cons (Rd.int .i64) (.cons (Rd.int .i64) (.cons Rd.str (.cons (Rd.rw 2) .nil))))) (.cons (.row 25 false) .nil))), fun a b => .p500 a.1 a.2.1 a.2.2.2.2.1 a.2.2.2.2.2.1 a.2.2.2.2.2.2.1 b.1.1 b.1.2.1 b.1.2.2.1 b.2.1.1 b.2.1.2.1 b.2.1.2.2.1 b.2.2.1⟩]
theorem wO0 : All (ub8 47 0 uF9 vP3) xh4 := ⟨⟨rfl, rfl, fun _ _ => rfl, fun _ _ => rfl⟩, ⟨⟨rfl, rfl, fun _ _ => rfl, fun _ _ => rfl⟩, trivial⟩⟩
def uI9 : Code := Tryz.f162.body.getD .skip
def w76 (run' : vk1 → Option vD2) : Con E := ⟨162, ((Int × (Int × (ByteArray × ((List ua0) × Unit)))) × ((List ByteArray) × ((List ua0) × Unit))), Unit, (RwL.cons (Rw.agg (RwL.cons (Rd.int .i64).w (RwL.cons (Rd.int .i64).w (RwL.cons Rd.str.w (RwL.cons (Rw.sl 25) RwL.nil))))) (RwL.cons (Rw.sl 9) (RwL.cons (Rw.sl 25) RwL.nil))), RdBL.nil, 0, vD2, fun a b => run' (.start a.1.1 a.1.2.1 a.1.2.2.1 a.1.2.2.2.1 a.2.1 a.2.2.1), uo3.av, uo3.bx⟩
theorem wH8 {run' : vk1 → Option vD2} (ih : ∀ pt r, run' pt = some r → Good E Tryz.f162 uI9 0 (uo3.av r) (uo3.bx r) (uF9 pt) (vP3 pt)) : (w76 run').Ok := fun a b r h => ub3 (fn := Tryz.f162) (code := uI9) E_ok (by kernel_rfl) (by kernel_rfl) (by kernel_rfl) (Nat.le_of_ble_eq_true rfl) (ih (.start a.1.1 a.1.2.1 a.1.2.2.1 a.1.2.2.2.1 a.2.1 a.2.2.1) r h)
def wn7 (run' : vk1 → Option vD2) : Spec E.S := (Con.add (w76 run') (Con.add w26 ub0))
theorem v49 {run' : vk1 → Option vD2} (ih : ∀ pt r, run' pt = some r → Good E Tryz.f162 uI9 0 (uo3.av r) (uo3.bx r) (uF9 pt) (vP3 pt)) : ua9 E (wn7 run') := (Con.add_ok (wH8 ih) (Con.add_ok vG5 ua7))
theorem xv8 : ∀ pt r, uf4 pt = some r → Good E Tryz.f162 uI9 0 (uo3.av r) (uo3.bx r) (uF9 pt) (vP3 pt) := by
 refine uf4.partial_correctness (fun pt r => Good E Tryz.f162 uI9 0 (uo3.av r) (uo3.bx r) (uF9 pt) (vP3 pt)) ?_
 intro run' ih pt r hr
 cases pt <;> exact ua8 (spec := (wn7 run')) (wr := (mkWr [] [])) (l := xh4) (z := 47) (p := uo3) E_ok wO0.mem rfl (v49 ih) ih (Eq.trans (by kernel_rfl) hr)
def wZ4 : Con E := ⟨162, _, _, (.cons (Rw.agg (.cons (Rd.int .i64).w (.cons (Rd.int .i64).w (.cons Rd.str.w (.cons (Rw.sl 25) .nil))))) (.cons (Rw.sl 9) (.cons (Rw.sl 25) .nil))), .nil, 0, vD2, fun a b => uf4 (.start a.1.1 a.1.2.1 a.1.2.2.1 a.1.2.2.2.1 a.2.1 a.2.2.1), uo3.av, uo3.bx⟩
theorem wB8 : wZ4.Ok := fun a b r h => ub3 (fn := Tryz.f162) (code := uI9) E_ok (by kernel_rfl) (by kernel_rfl) (by kernel_rfl) (Nat.le_of_ble_eq_true rfl) (xv8 (.start a.1.1 a.1.2.1 a.1.2.2.1 a.1.2.2.2.1 a.2.1 a.2.2.1) r h)
inductive wx4 where
 | start (s0_0 : (List ua2)) (s0_1 : (List ByteArray)) (t1_0 : Int) (t1_1 : Int) (t1_2 : ByteArray) (t1_3 : (List ua0))
 | p500 (s26 : (List ua1)) (s27 : Int) (s28 : Int) (C0 : Int) (C1 : Int) (C2 : ByteArray) (C3 : (List ua0)) (D0 : ByteArray) (D1 : (List ByteArray)) (D2 : (List ua1)) (B2 : (List data_variant))
 | p512820 (s26 : (List ua1)) (s27 : Int) (s28 : Int) (s36 : (List ua6)) (s37 : Int) (s38 : Int) (C0 : Int) (C1 : Int) (C2 : ByteArray) (C3 : (List ua0)) (D0 : ByteArray) (D1 : (List ByteArray)) (D2 : (List ua1)) (B2 : (List data_variant)) (B3 : ByteArray) (B4 : (List ua6))
def va5 : wx4 → List Bool
 | .start .. => []
 | .p500 .. => [false, false, true, false, true, true, true, true]
 | .p512820 .. => [false, false, true, false, true, true, false, false, true, true, false, false, true, false, true, true, true, true]
def xd1 : wx4 → St E.S
 | .start s0_0 s0_1 t1_0 t1_1 t1_2 t1_3 => st0 64 [.agg [.sl 103 s0_0 false, .sl 9 s0_1 false], .agg [.v (.int .i64 t1_0), .v (.int .i64 t1_1), .v (.string t1_2), .sl 25 t1_3 false]] []
 | .p500 s26 s27 s28 C0 C1 C2 C3 D0 D1 D2 B2 => mkSt 64 [3, 5, 7, 26, 27, 28] [.bp 0 0, .bp 1 0, .rw 2, .sl 56 s26 false, .v (.int .i64 s27), .v (.int .i64 s28)] [.var 25 [.v (.int .i64 C0), .v (.int .i64 C1), .v (.string C2), .sl 25 C3 false], .var 103 [.v (.string D0), .sl 9 D1 false, .sl 56 D2 false], .row 125 B2 false]
 | .p512820 s26 s27 s28 s36 s37 s38 C0 C1 C2 C3 D0 D1 D2 B2 B3 B4 => mkSt 64 [3, 5, 7, 10, 26, 27, 28, 36, 37, 38] [.bp 0 0, .bp 1 0, .rw 2, .bp 3 0, .sl 56 s26 false, .v (.int .i64 s27), .v (.int .i64 s28), .sl 58 s36 false, .v (.int .i64 s37), .v (.int .i64 s38)] [.var 25 [.v (.int .i64 C0), .v (.int .i64 C1), .v (.string C2), .sl 25 C3 false], .var 103 [.v (.string D0), .sl 9 D1 false, .sl 56 D2 false], .row 125 B2 false, .var 125 [.v (.string B3), .rw 4, .nl], .row 58 B4 false]
abbrev xP1 : Type := ((Unit × Unit) × ((List data_variant) × Unit))
def uP4 : Res E (Unit × Unit) ((List data_variant) × Unit) := { rows := [(0, 125)], flat := [], keep := 0, rl := (.cons (Rd.rw 0) .nil), rb := (.cons (.row 125 false) .nil) }
def ug7 : wx4 → Option xP1
 | .start s0_0 s0_1 t1_0 t1_1 t1_2 t1_3 =>
  (uH8 (.start s0_0 s0_1 t1_2)) >>= fun t1 =>
  if (!t1.1.2.1) = true then
   some (((), ()), (([(⟨(⟨#[70, 97, 108, 115, 101]⟩ : ByteArray), [], none⟩ : data_variant), (⟨(⟨#[84, 114, 117, 101]⟩ : ByteArray), [], none⟩ : data_variant)] : List data_variant), ()))
  else
   ug7 (.p500 t1.1.1.2.2.1 (List.length t1.1.1.2.2.1 : Int) (0 : Int) t1_0 t1_1 t1_2 t1_3 t1.1.1.1 t1.1.1.2.1 t1.1.1.2.2.1 ([] : List data_variant))
 | .p500 s26 s27 s28 C0 C1 C2 C3 D0 D1 D2 B2 =>
  if (decide (s28 < s27)) = true then
   (idx s26 s28) >>= fun t1 =>
   ug7 (.p512820 s26 s27 s28 t1.Fields (List.length t1.Fields : Int) (0 : Int) C0 C1 C2 C3 D0 D1 D2 B2 t1.Name ([] : List ua6))
  else
   some (((), ()), (B2, ()))
 | .p512820 s26 s27 s28 s36 s37 s38 C0 C1 C2 C3 D0 D1 D2 B2 B3 B4 =>
  if (decide (s38 < s37)) = true then
   (idx s36 s38) >>= fun t1 =>
   (uf4 (.start t1.Type_.Kind t1.Type_.Value t1.Type_.Name t1.Type_.Parts D1 C3)) >>= fun t2 =>
   if (fits (List.length B4) (List.length ([(⟨t1.Name, (⟨t2.1.1.1, t2.1.1.2.1, t2.1.1.2.2.1, t2.1.1.2.2.2.1⟩ : ua0)⟩ : ua6)] : List ua6)) 72) = true then
    ug7 (.p512820 s26 s27 s28 s36 s37 (IntKind.wrap .i64 (s38 + (1 : Int))) C0 C1 C2 C3 D0 D1 D2 B2 B3 (B4 ++ ([(⟨t1.Name, (⟨t2.1.1.1, t2.1.1.2.1, t2.1.1.2.2.1, t2.1.1.2.2.2.1⟩ : ua0)⟩ : ua6)] : List ua6)))
   else none
  else
   if (fits (List.length B2) (List.length ([(⟨B3, B4, none⟩ : data_variant)] : List data_variant)) 64) = true then
    ug7 (.p500 s26 s27 (IntKind.wrap .i64 (s28 + (1 : Int))) C0 C1 C2 C3 D0 D1 D2 (B2 ++ ([(⟨B3, B4, none⟩ : data_variant)] : List data_variant)))
   else none
 partial_fixpoint
def xh5 : List (Plc E wx4) := [⟨500, [false, false, true, false, true, true, true, true], { slots := [3, 5, 7, 26, 27, 28], rows := [(7, 125)], flat := [], keep := 0 }, _, _, (.cons (Rd.bp 0 0) (.cons (Rd.bp 1 0) (.cons (Rd.rw 2) (.cons (Rd.sl 56 false) (.cons (Rd.int .i64) (.cons (Rd.int .i64) .nil)))))), (.cons (.var 25 (.cons (Rd.int .i64) (.cons (Rd.int .i64) (.cons Rd.str (.cons (Rd.sl 25 false) .nil))))) (.cons (.var 103 (.cons Rd.str (.cons (Rd.sl 9 false) (.cons (Rd.sl 56 false) .nil)))) (.cons (.row 125 false) .nil))), fun a b => .p500 a.2.2.2.1 a.2.2.2.2.1 a.2.2.2.2.2.1 b.1.1 b.1.2.1 b.1.2.2.1 b.1.2.2.2.1 b.2.1.1 b.2.1.2.1 b.2.1.2.2.1 b.2.2.1⟩,
 ⟨512820, [false, false, true, false, true, true, false, false, true, true, false, false, true, false, true, true, true, true], { slots := [3, 5, 7, 10, 26, 27, 28, 36, 37, 38], rows := [], flat := [], keep := 0, up := [(true, 10, 1, 58)] }, _, _, (.cons (Rd.bp 0 0) (.cons (Rd.bp 1 0) (.cons (Rd.rw 2) (.cons (Rd.bp 3 0) (.cons (Rd.sl 56 false) (.cons (Rd.int .i64) (.cons (Rd.int .i64) (.cons (Rd.sl 58 false) (.cons (Rd.int .i64) (.cons (Rd.int .i64) .nil)))))))))), (.cons (.var 25 (.cons (Rd.int .i64) (.cons (Rd.int .i64) (.cons Rd.str (.cons (Rd.sl 25 false) .nil))))) (.cons (.var 103 (.cons Rd.str (.cons (Rd.sl 9 false) (.cons (Rd.sl 56 false) .nil)))) (.cons (.row 125 false) (.cons (.var 125 (.cons Rd.str (.cons (Rd.rw 4) (.cons Rd.nl .nil)))) (.cons (.row 58 false) .nil))))), fun a b => .p512820 a.2.2.2.2.1 a.2.2.2.2.2.1 a.2.2.2.2.2.2.1 a.2.2.2.2.2.2.2.1 a.2.2.2.2.2.2.2.2.1 a.2.2.2.2.2.2.2.2.2.1 b.1.1 b.1.2.1 b.1.2.2.1 b.1.2.2.2.1 b.2.1.1 b.2.1.2.1 b.2.1.2.2.1 b.2.2.1 b.2.2.2.1.1 b.2.2.2.2.1⟩]
theorem wO1 : All (ub8 64 0 va5 xd1) xh5 := ⟨⟨rfl, rfl, fun _ _ => rfl, fun _ _ => rfl⟩, ⟨⟨rfl, rfl, fun _ _ => rfl, fun _ _ => rfl⟩, trivial⟩⟩
def vv0 : Code := Tryz.f142.body.getD .skip
def wn8 : Spec E.S := (Con.add wZ4 (Con.add vS9 ub0))
theorem v50 : ua9 E wn8 := (Con.add_ok wB8 (Con.add_ok vn6 ua7))
theorem xv9 : ∀ pt r, ug7 pt = some r → Good E Tryz.f142 vv0 0 (uP4.av r) (uP4.bx r) (va5 pt) (xd1 pt) := by
 refine ug7.partial_correctness (fun pt r => Good E Tryz.f142 vv0 0 (uP4.av r) (uP4.bx r) (va5 pt) (xd1 pt)) ?_
 intro run' ih pt r hr
 cases pt <;> exact ua8 (spec := wn8) (wr := (mkWr [4, 7, 24, 58, 61, 63] [(64103, [10])])) (l := xh5) (z := 64) (p := uP4) E_ok wO1.mem rfl v50 ih (Eq.trans (by kernel_rfl) hr)
def wZ5 : Con E := ⟨142, _, _, (.cons (Rw.agg (.cons (Rw.sl 103) (.cons (Rw.sl 9) .nil))) (.cons (Rw.agg (.cons (Rd.int .i64).w (.cons (Rd.int .i64).w (.cons Rd.str.w (.cons (Rw.sl 25) .nil))))) .nil)), .nil, 0, xP1, fun a b => ug7 (.start a.1.1 a.1.2.1 a.2.1.1 a.2.1.2.1 a.2.1.2.2.1 a.2.1.2.2.2.1), uP4.av, uP4.bx⟩
theorem wB9 : wZ5.Ok := fun a b r h => ub3 (fn := Tryz.f142) (code := vv0) E_ok (by kernel_rfl) (by kernel_rfl) (by kernel_rfl) (Nat.le_of_ble_eq_true rfl) (xv9 (.start a.1.1 a.1.2.1 a.2.1.1 a.2.1.2.1 a.2.1.2.2.1 a.2.1.2.2.2.1) r h)
inductive vk2 where
 | start (s0_0 : (List ua2)) (s0_1 : (List ByteArray)) (t1_0 : Int) (t1_1 : Int) (t1_2 : ByteArray) (t1_3 : (List ua0)) (deep3 : Int) (B0 : Int)
 | p31 (deep3 : Int) (few11 : Int) (B0 : Int) (D0 : (List ua2)) (D1 : (List ByteArray)) (G0 : Int) (G1 : Int) (G2 : ByteArray) (G3 : (List ua0))
 | p8180 (deep3 : Int) (s76 : Int) (s77 : Int) (B0 : Int) (D0 : (List ua2)) (D1 : (List ByteArray)) (B2 : Int) (B3 : (List data_variant))
 | p4188572 (deep3 : Int) (v15 : Int) (s76 : Int) (s77 : Int) (s89 : (List ua6)) (s90 : Int) (s91 : Int) (B0 : Int) (D0 : (List ua2)) (D1 : (List ByteArray)) (B2 : Int) (B3 : ((List data_variant) × Nat)) (B4 : (List (Option ua4)))
def uG0 : vk2 → List Bool
 | .start .. => []
 | .p31 .. => [true, true, true, true]
 | .p8180 .. => [false, false, true, false, true, true, true, true, true, true, true, true]
 | .p4188572 .. => [false, false, true, true, true, false, false, true, true, false, false, true, false, true, true, true, true, true, true, true, true]
def vP4 : vk2 → St E.S
 | .start s0_0 s0_1 t1_0 t1_1 t1_2 t1_3 deep3 B0 => st0 121 [.agg [.sl 103 s0_0 false, .sl 9 s0_1 false], .agg [.v (.int .i64 t1_0), .v (.int .i64 t1_1), .v (.string t1_2), .sl 25 t1_3 false], .bp 0 0, .v (.int .i64 deep3)] [.var 3 [.v (.int .i64 B0)]]
 | .p31 deep3 few11 B0 D0 D1 G0 G1 G2 G3 => mkSt 121 [2, 3, 4, 5, 11] [.bp 0 0, .v (.int .i64 deep3), .bp 1 0, .bp 2 0, .v (.int .i64 few11)] [.var 3 [.v (.int .i64 B0)], .var 107 [.sl 103 D0 false, .sl 9 D1 false], .var 25 [.v (.int .i64 G0), .v (.int .i64 G1), .v (.string G2), .sl 25 G3 false]]
 | .p8180 deep3 s76 s77 B0 D0 D1 B2 B3 => mkSt 121 [2, 3, 4, 13, 76, 77] [.bp 0 0, .v (.int .i64 deep3), .bp 1 0, .bp 2 0, .v (.int .i64 s76), .v (.int .i64 s77)] [.var 3 [.v (.int .i64 B0)], .var 107 [.sl 103 D0 false, .sl 9 D1 false], .var 128 [.v (.int .i64 B2), .rw 3], .row 125 B3 false]
 | .p4188572 deep3 v15 s76 s77 s89 s90 s91 B0 D0 D1 B2 B3 B4 => mkSt 121 [2, 3, 4, 13, 15, 76, 77, 89, 90, 91] [.bp 0 0, .v (.int .i64 deep3), .bp 1 0, .bp 2 0, .rp 3 125 v15 0, .v (.int .i64 s76), .v (.int .i64 s77), .sl 58 s89 false, .v (.int .i64 s90), .v (.int .i64 s91)] [.var 3 [.v (.int .i64 B0)], .var 107 [.sl 103 D0 false, .sl 9 D1 false], .var 128 [.v (.int .i64 B2), .rw 3], .lk 125 B3.1 B3.2 2 (.rw 4), .row 105 B4 false]
abbrev vD3 : Type := (((Option ua4) × (Int × Unit)) × ((Int × Unit) × Unit))
def uo4 : Res E ((Option ua4) × (Int × Unit)) ((Int × Unit) × Unit) := { rows := [], flat := [], keep := 1, done := [0, 1], ptrs := [(0, 128)], rl := (.cons (Rd.op 128) (.cons (Rd.int .i64) .nil)), rb := (.cons (.var 3 (.cons (Rd.int .i64) .nil)) .nil) }
def uc8 : vk2 → Option vD3
 | .start s0_0 s0_1 t1_0 t1_1 t1_2 t1_3 deep3 B0 =>
  (uH7 (.start t1_0 t1_1 t1_2 t1_3)) >>= fun t1 =>
  if (t1.1.1 != (0 : Int)) = true then
   some ((none, (t1.1.1, ())), ((B0, ()), ()))
  else
   if (decide ((IntKind.wrap .i64 (B0 + (1 : Int))) ≤ (200 : Int))) = true then
    (uc6 (.start (decide (deep3 ≤ (40 : Int))) (8 : Int))) >>= fun t2 =>
    uc8 (.p31 deep3 t2.1.1 (IntKind.wrap .i64 (B0 + (1 : Int))) s0_0 s0_1 t1_0 t1_1 t1_2 t1_3)
   else
    (uc6 (.start false (8 : Int))) >>= fun t3 =>
    uc8 (.p31 deep3 t3.1.1 (IntKind.wrap .i64 (B0 + (1 : Int))) s0_0 s0_1 t1_0 t1_1 t1_2 t1_3)
 | .p31 deep3 few11 B0 D0 D1 G0 G1 G2 G3 =>
  if (G0 == (2 : Int)) = true then
   some ((none, ((26 : Int), ())), ((B0, ()), ()))
  else
   if (seq G2 (⟨#[66, 105, 116]⟩ : ByteArray)) = true then
    (idx G3 (0 : Int)) >>= fun t1 =>
    (uc6 (.start (t1.Kind == (2 : Int)) (26 : Int))) >>= fun t2 =>
    (uk2 (.start t1.Value (1 : Int) (16 : Int))) >>= fun t3 =>
    (uc6 (.start t3.1.1 (25 : Int))) >>= fun t4 =>
    (ud1 (.start ([t2.1.1, t4.1.1, few11] : List Int))) >>= fun t5 =>
    some ((some (⟨t1.Value, none⟩ : ua4), (t5.1.1, ())), ((B0, ()), ()))
   else
    if (few11 != (0 : Int)) = true then
     some ((none, (few11, ())), ((B0, ()), ()))
    else
     (ug7 (.start D0 D1 G0 G1 G2 G3)) >>= fun t6 =>
     uc8 (.p8180 deep3 (List.length t6.2.1 : Int) (0 : Int) B0 D0 D1 (0 : Int) t6.2.1)
 | .p8180 deep3 s76 s77 B0 D0 D1 B2 B3 =>
  if (decide (s77 < s76)) = true then
   if (decide ((0 : Int) ≤ s77) && decide (s77 < (List.length B3 : Int))) = true then
    (idx B3 s77) >>= fun t1 =>
    if (Option.isNone t1.parts) = true then
     (if s77 = (Int.toNat s77 : Int) then B3[Int.toNat s77]? else none) >>= fun t2 =>
     uc8 (.p4188572 deep3 s77 s76 s77 t2.fields (List.length t2.fields : Int) (0 : Int) B0 D0 D1 B2 (B3, Int.toNat s77) ([] : List (Option ua4)))
    else none
   else none
  else
   some ((some (⟨B2, (some B3)⟩ : ua4), ((0 : Int), ())), ((B0, ()), ()))
 | .p4188572 deep3 v15 s76 s77 s89 s90 s91 B0 D0 D1 B2 B3 B4 =>
  if (decide (s91 < s90)) = true then
   (idx s89 s91) >>= fun t1 =>
   (uc8 (.start D0 D1 t1.Type_.Kind t1.Type_.Value t1.Type_.Name t1.Type_.Parts (IntKind.wrap .i64 (deep3 + (1 : Int))) B0)) >>= fun t2 =>
   if (t2.1.2.1 != (0 : Int)) = true then
    some ((none, (t2.1.2.1, ())), ((t2.2.1.1, ()), ()))
   else
    (if v15 = (B3.2 : Int) then B3.1[B3.2]? else none) >>= fun t3 =>
    if (fits (List.length B4) (List.length ([t2.1.1] : List (Option ua4))) 8) = true then
     if v15 = (B3.2 : Int) then
      uc8 (.p4188572 deep3 v15 s76 s77 s89 s90 (IntKind.wrap .i64 (s91 + (1 : Int))) t2.2.1.1 D0 D1 B2 (B3.1, B3.2) (B4 ++ ([t2.1.1] : List (Option ua4))))
     else none
    else none
  else
   uc8 (.p8180 deep3 s76 (IntKind.wrap .i64 (s77 + (1 : Int))) B0 D0 D1 B2 (List.modify B3.1 B3.2 (fun y => (⟨y.name, y.fields, (some B4)⟩ : data_variant))))
 partial_fixpoint
def xh6 : List (Plc E vk2) := [⟨31, [true, true, true, true], { slots := [2, 3, 4, 5, 11], rows := [], flat := [], keep := 1 }, _, _, (.cons (Rd.bp 0 0) (.cons (Rd.int .i64) (.cons (Rd.bp 1 0) (.cons (Rd.bp 2 0) (.cons (Rd.int .i64) .nil))))), (.cons (.var 3 (.cons (Rd.int .i64) .nil)) (.cons (.var 107 (.cons (Rd.sl 103 false) (.cons (Rd.sl 9 false) .nil))) (.cons (.var 25 (.cons (Rd.int .i64) (.cons (Rd.int .i64) (.cons Rd.str (.cons (Rd.sl 25 false) .nil))))) .nil))), fun a b => .p31 a.2.1 a.2.2.2.2.1 b.1.1 b.2.1.1 b.2.1.2.1 b.2.2.1.1 b.2.2.1.2.1 b.2.2.1.2.2.1 b.2.2.1.2.2.2.1⟩,
 ⟨8180, [false, false, true, false, true, true, true, true, true, true, true, true], { slots := [2, 3, 4, 13, 76, 77], rows := [], flat := [], keep := 1, close := [13] }, _, _, (.cons (Rd.bp 0 0) (.cons (Rd.int .i64) (.cons (Rd.bp 1 0) (.cons (Rd.bp 2 0) (.cons (Rd.int .i64) (.cons (Rd.int .i64) .nil)))))), (.cons (.var 3 (.cons (Rd.int .i64) .nil)) (.cons (.var 107 (.cons (Rd.sl 103 false) (.cons (Rd.sl 9 false) .nil))) (.cons (.var 128 (.cons (Rd.int .i64) (.cons (Rd.rw 3) .nil))) (.cons (.row 125 false) .nil)))), fun a b => .p8180 a.2.1 a.2.2.2.2.1 a.2.2.2.2.2.1 b.1.1 b.2.1.1 b.2.1.2.1 b.2.2.1.1 b.2.2.2.1⟩,
 ⟨4188572, [false, false, true, true, true, false, false, true, true, false, false, true, false, true, true, true, true, true, true, true, true], { slots := [2, 3, 4, 13, 15, 76, 77, 89, 90, 91], rows := [], flat := [], keep := 1 }, _, _, (.cons (Rd.bp 0 0) (.cons (Rd.int .i64) (.cons (Rd.bp 1 0) (.cons (Rd.bp 2 0) (.cons (Rd.rp 3 125 0) (.cons (Rd.int .i64) (.cons (Rd.int .i64) (.cons (Rd.sl 58 false) (.cons (Rd.int .i64) (.cons (Rd.int .i64) .nil)))))))))), (.cons (.var 3 (.cons (Rd.int .i64) .nil)) (.cons (.var 107 (.cons (Rd.sl 103 false) (.cons (Rd.sl 9 false) .nil))) (.cons (.var 128 (.cons (Rd.int .i64) (.cons (Rd.rw 3) .nil))) (.cons (RdB.lk 125 2 4) (.cons (.row 105 false) .nil))))), fun a b => .p4188572 a.2.1 a.2.2.2.2.1 a.2.2.2.2.2.1 a.2.2.2.2.2.2.1 a.2.2.2.2.2.2.2.1 a.2.2.2.2.2.2.2.2.1 a.2.2.2.2.2.2.2.2.2.1 b.1.1 b.2.1.1 b.2.1.2.1 b.2.2.1.1 b.2.2.2.1 b.2.2.2.2.1⟩]
theorem wO2 : All (ub8 121 1 uG0 vP4) xh6 := ⟨⟨rfl, rfl, fun _ _ => rfl, fun _ _ => rfl⟩, ⟨⟨rfl, rfl, fun _ _ => rfl, fun _ _ => rfl⟩, ⟨⟨rfl, rfl, fun _ _ => rfl, fun _ _ => rfl⟩, trivial⟩⟩⟩
def uJ0 : Code := Tryz.f106.body.getD .skip
def w77 (run' : vk2 → Option vD3) : Con E := ⟨106, (((List ua2) × ((List ByteArray) × Unit)) × ((Int × (Int × (ByteArray × ((List ua0) × Unit)))) × (Unit × (Int × Unit)))), ((Int × Unit) × Unit), (RwL.cons (Rw.agg (RwL.cons (Rw.sl 103) (RwL.cons (Rw.sl 9) RwL.nil))) (RwL.cons (Rw.agg (RwL.cons (Rd.int .i64).w (RwL.cons (Rd.int .i64).w (RwL.cons Rd.str.w (RwL.cons (Rw.sl 25) RwL.nil))))) (RwL.cons (Rd.bp 0 0).w (RwL.cons (Rd.int .i64).w RwL.nil)))), (RdBL.cons (RdB.var 3 (RdL.cons (Rd.int .i64) RdL.nil)) RdBL.nil), 1, vD3, fun a b => run' (.start a.1.1 a.1.2.1 a.2.1.1 a.2.1.2.1 a.2.1.2.2.1 a.2.1.2.2.2.1 a.2.2.2.1 b.1.1), uo4.av, uo4.bx⟩
theorem wH9 {run' : vk2 → Option vD3} (ih : ∀ pt r, run' pt = some r → Good E Tryz.f106 uJ0 1 (uo4.av r) (uo4.bx r) (uG0 pt) (vP4 pt)) : (w77 run').Ok := fun a b r h => ub3 (fn := Tryz.f106) (code := uJ0) E_ok (by kernel_rfl) (by kernel_rfl) (by kernel_rfl) (Nat.le_of_ble_eq_true rfl) (ih (.start a.1.1 a.1.2.1 a.2.1.1 a.2.1.2.1 a.2.1.2.2.1 a.2.1.2.2.2.1 a.2.2.2.1 b.1.1) r h)
def wn9 (run' : vk2 → Option vD3) : Spec E.S := (Con.add (w77 run') (Con.add wZ5 (Con.add uE9 (Con.add uS2 (Con.add uS3 (Con.add vS8 ub0))))))
theorem v52 {run' : vk2 → Option vD3} (ih : ∀ pt r, run' pt = some r → Good E Tryz.f106 uJ0 1 (uo4.av r) (uo4.bx r) (uG0 pt) (vP4 pt)) : ua9 E (wn9 run') := (Con.add_ok (wH9 ih) (Con.add_ok wB9 (Con.add_ok un9 (Con.add_ok uq5 (Con.add_ok uq6 (Con.add_ok vn5 ua7))))))
theorem xw0 : ∀ pt r, uc8 pt = some r → Good E Tryz.f106 uJ0 1 (uo4.av r) (uo4.bx r) (uG0 pt) (vP4 pt) := by
 refine uc8.partial_correctness (fun pt r => Good E Tryz.f106 uJ0 1 (uo4.av r) (uo4.bx r) (uG0 pt) (vP4 pt)) ?_
 intro run' ih pt r hr
 cases pt <;> exact ua8 (spec := (wn9 run')) (wr := (mkWr [8, 13, 15, 17, 50, 51, 52, 69, 70, 71, 72, 73, 74, 75, 80, 81, 82, 83, 85, 86, 87, 88, 89, 93, 94, 97, 98, 108, 109, 110, 111, 112, 115, 116, 117, 120] [] [] [(85, 2)])) (l := xh6) (z := 121) (p := uo4) E_ok wO2.mem rfl (v52 ih) ih (Eq.trans (by kernel_rfl) hr)
def wZ6 : Con E := ⟨106, _, _, (.cons (Rw.agg (.cons (Rw.sl 103) (.cons (Rw.sl 9) .nil))) (.cons (Rw.agg (.cons (Rd.int .i64).w (.cons (Rd.int .i64).w (.cons Rd.str.w (.cons (Rw.sl 25) .nil))))) (.cons (Rd.bp 0 0).w (.cons (Rd.int .i64).w .nil)))), (.cons (.var 3 (.cons (Rd.int .i64) .nil)) .nil), 1, vD3, fun a b => uc8 (.start a.1.1 a.1.2.1 a.2.1.1 a.2.1.2.1 a.2.1.2.2.1 a.2.1.2.2.2.1 a.2.2.2.1 b.1.1), uo4.av, uo4.bx⟩
theorem wC0 : wZ6.Ok := fun a b r h => ub3 (fn := Tryz.f106) (code := uJ0) E_ok (by kernel_rfl) (by kernel_rfl) (by kernel_rfl) (Nat.le_of_ble_eq_true rfl) (xw0 (.start a.1.1 a.1.2.1 a.2.1.1 a.2.1.2.1 a.2.1.2.2.1 a.2.1.2.2.2.1 a.2.2.2.1 b.1.1) r h)
inductive wx5 where
 | start (x0 : (Option ua4))
def vJ8 : wx5 → List Bool
 | .start .. => []
def xJ4 : wx5 → St E.S
 | .start x0 => st0 8 [.op 128 x0] []
abbrev xP2 : Type := ((Bool × Unit) × Unit)
def vd2 : Res E (Bool × Unit) Unit := { rows := [], flat := [], keep := 0, done := [0], rl := (.cons Rd.bool .nil), rb := .nil }
def un4 : wx5 → Option xP2
 | .start x0 =>
  x0 >>= fun t1 =>
  (xX8 t1.constructors) >>= fun t2 =>
  some ((t2, ()), ())
def xh7 : List (Plc E wx5) := []
theorem wO3 : All (ub8 8 0 vJ8 xJ4) xh7 := trivial
def wf9 : Code := Tryz.f88.body.getD .skip
def wo0 : Spec E.S := ub0
theorem v54 : ua9 E wo0 := ua7
theorem xw1 : ∀ pt r, un4 pt = some r → Good E Tryz.f88 wf9 0 (vd2.av r) (vd2.bx r) (vJ8 pt) (xJ4 pt) := by
 intro pt r hr
 cases pt <;> exact ua8 (spec := wo0) (wr := (mkWr [] [])) (l := xh7) (z := 8) (p := vd2) (run' := fun _ => none) E_ok wO3.mem rfl v54 (fun _ _ h => by cases h) (Eq.trans (by kernel_rfl) hr)
def uB0 : Con E := ⟨88, _, _, (.cons (Rd.op 128).w .nil), .nil, 0, xP2, fun a b => un4 (.start a.1), vd2.av, vd2.bx⟩
theorem um1 : uB0.Ok := fun a b r h => ub3 (fn := Tryz.f88) (code := wf9) E_ok (by kernel_rfl) (by kernel_rfl) (by kernel_rfl) (Nat.le_of_ble_eq_true rfl) (xw1 (.start a.1) r h)
inductive wx6 where
 | start (x0 : Int)
 | p7 (x0 : Int) (n2 : Int)
 | p15 (x0 : Int) (n2 : Int)
 | p31 (x0 : Int) (n2 : Int)
def va6 : wx6 → List Bool
 | .start .. => []
 | .p7 .. => [true, true]
 | .p15 .. => [true, true, true]
 | .p31 .. => [true, true, true, true]
def xd2 : wx6 → St E.S
 | .start x0 => st0 25 [.v (.int .u64 x0)] []
 | .p7 x0 n2 => mkSt 25 [0, 2] [.v (.int .u64 x0), .v (.int .i64 n2)] []
 | .p15 x0 n2 => mkSt 25 [0, 2] [.v (.int .u64 x0), .v (.int .i64 n2)] []
 | .p31 x0 n2 => mkSt 25 [0, 2] [.v (.int .u64 x0), .v (.int .i64 n2)] []
abbrev xP3 : Type := ((Int × Unit) × Unit)
def uP5 : Res E (Int × Unit) Unit := { rows := [], flat := [], keep := 0, done := [0], rl := (.cons (Rd.int .i64) .nil), rb := .nil }
def uj8 : wx6 → Option xP3
 | .start x0 =>
  if (decide (x0 ≥ (4294967296 : Int))) = true then
   if (decide ((0 : Int) ≤ (32 : Int))) = true then
    uj8 (.p7 (shr .u64 x0 (32 : Int)) (32 : Int))
   else none
  else
   uj8 (.p7 x0 (0 : Int))
 | .p7 x0 n2 =>
  if (decide (x0 ≥ (65536 : Int))) = true then
   if (decide ((0 : Int) ≤ (16 : Int))) = true then
    uj8 (.p15 (shr .u64 x0 (16 : Int)) (IntKind.wrap .i64 (n2 + (16 : Int))))
   else none
  else
   uj8 (.p15 x0 n2)
 | .p15 x0 n2 =>
  if (decide (x0 ≥ (256 : Int))) = true then
   if (decide ((0 : Int) ≤ (8 : Int))) = true then
    uj8 (.p31 (shr .u64 x0 (8 : Int)) (IntKind.wrap .i64 (n2 + (8 : Int))))
   else none
  else
   uj8 (.p31 x0 n2)
 | .p31 x0 n2 =>
  (sidx (⟨#[0, 1, 2, 2, 3, 3, 3, 3, 4, 4, 4, 4, 4, 4, 4, 4, 5, 5, 5, 5, 5, 5, 5, 5, 5, 5, 5, 5, 5, 5, 5, 5, 6, 6, 6, 6, 6, 6, 6, 6, 6, 6, 6, 6, 6, 6, 6, 6, 6, 6, 6, 6, 6, 6, 6, 6, 6, 6, 6, 6, 6, 6, 6, 6, 7, 7, 7, 7, 7, 7, 7, 7, 7, 7, 7, 7, 7, 7, 7, 7, 7, 7, 7, 7, 7, 7, 7, 7, 7, 7, 7, 7, 7, 7, 7, 7, 7, 7, 7, 7, 7, 7, 7, 7, 7, 7, 7, 7, 7, 7, 7, 7, 7, 7, 7, 7, 7, 7, 7, 7, 7, 7, 7, 7, 7, 7, 7, 7, 8, 8, 8, 8, 8, 8, 8, 8, 8, 8, 8, 8, 8, 8, 8, 8, 8, 8, 8, 8, 8, 8, 8, 8, 8, 8, 8, 8, 8, 8, 8, 8, 8, 8, 8, 8, 8, 8, 8, 8, 8, 8, 8, 8, 8, 8, 8, 8, 8, 8, 8, 8, 8, 8, 8, 8, 8, 8, 8, 8, 8, 8, 8, 8, 8, 8, 8, 8, 8, 8, 8, 8, 8, 8, 8, 8, 8, 8, 8, 8, 8, 8, 8, 8, 8, 8, 8, 8, 8, 8, 8, 8, 8, 8, 8, 8, 8, 8, 8, 8, 8, 8, 8, 8, 8, 8, 8, 8, 8, 8, 8, 8, 8, 8, 8, 8, 8, 8, 8, 8, 8, 8, 8, 8, 8, 8, 8, 8]⟩ : ByteArray) (IntKind.wrap .u8 x0)) >>= fun t1 =>
  some ((IntKind.wrap .i64 (n2 + (IntKind.wrap .i64 t1)), ()), ())
 partial_fixpoint
def xh8 : List (Plc E wx6) := [⟨7, [true, true], { slots := [0, 2], rows := [], flat := [], keep := 0 }, _, _, (.cons (Rd.int .u64) (.cons (Rd.int .i64) .nil)), .nil, fun a b => .p7 a.1 a.2.1⟩,
 ⟨15, [true, true, true], { slots := [0, 2], rows := [], flat := [], keep := 0 }, _, _, (.cons (Rd.int .u64) (.cons (Rd.int .i64) .nil)), .nil, fun a b => .p15 a.1 a.2.1⟩,
 ⟨31, [true, true, true, true], { slots := [0, 2], rows := [], flat := [], keep := 0 }, _, _, (.cons (Rd.int .u64) (.cons (Rd.int .i64) .nil)), .nil, fun a b => .p31 a.1 a.2.1⟩]
theorem wO4 : All (ub8 25 0 va6 xd2) xh8 := ⟨⟨rfl, rfl, fun _ _ => rfl, fun _ _ => rfl⟩, ⟨⟨rfl, rfl, fun _ _ => rfl, fun _ _ => rfl⟩, ⟨⟨rfl, rfl, fun _ _ => rfl, fun _ _ => rfl⟩, trivial⟩⟩⟩
def vv1 : Code := Tryz.f146.body.getD .skip
def wo1 : Spec E.S := ub0
theorem v55 : ua9 E wo1 := ua7
theorem xw2 : ∀ pt r, uj8 pt = some r → Good E Tryz.f146 vv1 0 (uP5.av r) (uP5.bx r) (va6 pt) (xd2 pt) := by
 refine uj8.partial_correctness (fun pt r => Good E Tryz.f146 vv1 0 (uP5.av r) (uP5.bx r) (va6 pt) (xd2 pt)) ?_
 intro run' ih pt r hr
 cases pt <;> exact ua8 (spec := wo1) (wr := (mkWr [] [])) (l := xh8) (z := 25) (p := uP5) E_ok wO4.mem rfl v55 ih (Eq.trans (by kernel_rfl) hr)
def wZ7 : Con E := ⟨146, _, _, (.cons (Rd.int .u64).w .nil), .nil, 0, xP3, fun a b => uj8 (.start a.1), uP5.av, uP5.bx⟩
theorem wC1 : wZ7.Ok := fun a b r h => ub3 (fn := Tryz.f146) (code := vv1) E_ok (by kernel_rfl) (by kernel_rfl) (by kernel_rfl) (Nat.le_of_ble_eq_true rfl) (xw2 (.start a.1) r h)
inductive wx7 where
 | start (x0 : Int)
def vJ9 : wx7 → List Bool
 | .start .. => []
def xJ5 : wx7 → St E.S
 | .start x0 => st0 8 [.v (.int .u64 x0)] []
abbrev xP4 : Type := ((Int × Unit) × Unit)
def vd3 : Res E (Int × Unit) Unit := { rows := [], flat := [], keep := 0, done := [0], rl := (.cons (Rd.int .i64) .nil), rb := .nil }
def u04 : wx7 → Option xP4
 | .start x0 =>
  (uj8 (.start x0)) >>= fun t1 =>
  some ((t1.1.1, ()), ())
def xh9 : List (Plc E wx7) := []
theorem wO5 : All (ub8 8 0 vJ9 xJ5) xh9 := trivial
def wg0 : Code := Tryz.f124.body.getD .skip
def wo2 : Spec E.S := (Con.add wZ7 ub0)
theorem v56 : ua9 E wo2 := (Con.add_ok wC1 ua7)
theorem xw3 : ∀ pt r, u04 pt = some r → Good E Tryz.f124 wg0 0 (vd3.av r) (vd3.bx r) (vJ9 pt) (xJ5 pt) := by
 intro pt r hr
 cases pt <;> exact ua8 (spec := wo2) (wr := (mkWr [] [])) (l := xh9) (z := 8) (p := vd3) (run' := fun _ => none) E_ok wO5.mem rfl v56 (fun _ _ h => by cases h) (Eq.trans (by kernel_rfl) hr)
def wZ8 : Con E := ⟨124, _, _, (.cons (Rd.int .u64).w .nil), .nil, 0, xP4, fun a b => u04 (.start a.1), vd3.av, vd3.bx⟩
theorem wC2 : wZ8.Ok := fun a b r h => ub3 (fn := Tryz.f124) (code := wg0) E_ok (by kernel_rfl) (by kernel_rfl) (by kernel_rfl) (Nat.le_of_ble_eq_true rfl) (xw3 (.start a.1) r h)
inductive wx8 where
 | start (x0 : (Option ua4))
def vK0 : wx8 → List Bool
 | .start .. => []
def xJ6 : wx8 → St E.S
 | .start x0 => st0 11 [.op 128 x0] []
abbrev xP5 : Type := ((Int × Unit) × Unit)
def vd4 : Res E (Int × Unit) Unit := { rows := [], flat := [], keep := 0, done := [0], rl := (.cons (Rd.int .i64) .nil), rb := .nil }
def uI0 : wx8 → Option xP5
 | .start x0 =>
  x0 >>= fun t1 =>
  (u04 (.start (IntKind.wrap .u64 (IntKind.wrap .i64 ((List.length (Option.getD t1.constructors []) : Int) - (1 : Int)))))) >>= fun t2 =>
  some ((t2.1.1, ()), ())
def xi0 : List (Plc E wx8) := []
theorem wO6 : All (ub8 11 0 vK0 xJ6) xi0 := trivial
def wg1 : Code := Tryz.f91.body.getD .skip
def wo3 : Spec E.S := (Con.add wZ8 ub0)
theorem v57 : ua9 E wo3 := (Con.add_ok wC2 ua7)
theorem xw4 : ∀ pt r, uI0 pt = some r → Good E Tryz.f91 wg1 0 (vd4.av r) (vd4.bx r) (vK0 pt) (xJ6 pt) := by
 intro pt r hr
 cases pt <;> exact ua8 (spec := wo3) (wr := (mkWr [] [])) (l := xi0) (z := 11) (p := vd4) (run' := fun _ => none) E_ok wO6.mem rfl v57 (fun _ _ h => by cases h) (Eq.trans (by kernel_rfl) hr)
def vT2 : Con E := ⟨91, _, _, (.cons (Rd.op 128).w .nil), .nil, 0, xP5, fun a b => uI0 (.start a.1), vd4.av, vd4.bx⟩
theorem vn9 : vT2.Ok := fun a b r h => ub3 (fn := Tryz.f91) (code := wg1) E_ok (by kernel_rfl) (by kernel_rfl) (by kernel_rfl) (Nat.le_of_ble_eq_true rfl) (xw4 (.start a.1) r h)
inductive uW1 where
 | start (v0_0 : ByteArray) (v0_1 : (List ua6)) (v0_2 : (Option (List (Option ua4))))
 | p116 (sum3 : Int) (s7 : (Option (List (Option ua4)))) (s8 : Int) (s9 : Int)
def uu3 : uW1 → List Bool
 | .start .. => []
 | .p116 .. => [false, false, true, false, true, true]
def vi5 : uW1 → St E.S
 | .start v0_0 v0_1 v0_2 => st0 19 [.agg [.v (.string v0_0), .sl 58 v0_1 false, .so 105 v0_2]] []
 | .p116 sum3 s7 s8 s9 => mkSt 19 [3, 7, 8, 9] [.v (.int .i64 sum3), .so 105 s7, .v (.int .i64 s8), .v (.int .i64 s9)] []
abbrev vl3 : Type := ((Int × Unit) × Unit)
def ui8 : Res E (Int × Unit) Unit := { rows := [], flat := [], keep := 0, done := [0], rl := (.cons (Rd.int .i64) .nil), rb := .nil }
inductive u52 where
 | start (x0 : (Option ua4))
def uz2 : u52 → List Bool
 | .start .. => []
def vs4 : u52 → St E.S
 | .start x0 => st0 14 [.op 128 x0] []
abbrev vD4 : Type := ((Int × Unit) × Unit)
def ul1 : Res E (Int × Unit) Unit := { rows := [], flat := [], keep := 0, done := [0], rl := (.cons (Rd.int .i64) .nil), rb := .nil }
inductive uW2 where
 | start (x0 : (Option ua4))
 | p116 (most3 : Int) (s9 : (Option (List data_variant))) (s10 : Int) (s11 : Int)
def uu4 : uW2 → List Bool
 | .start .. => []
 | .p116 .. => [false, false, true, false, true, true]
def vi6 : uW2 → St E.S
 | .start x0 => st0 21 [.op 128 x0] []
 | .p116 most3 s9 s10 s11 => mkSt 21 [3, 9, 10, 11] [.v (.int .i64 most3), .so 125 s9, .v (.int .i64 s10), .v (.int .i64 s11)] []
abbrev vl4 : Type := ((Int × Unit) × Unit)
def ui9 : Res E (Int × Unit) Unit := { rows := [], flat := [], keep := 0, done := [0], rl := (.cons (Rd.int .i64) .nil), rb := .nil }
mutual
def uh9 : uW1 → Option vl3
 | .start v0_0 v0_1 v0_2 =>
  uh9 (.p116 (0 : Int) v0_2 (List.length (Option.getD v0_2 []) : Int) (0 : Int))
 | .p116 sum3 s7 s8 s9 =>
  if (decide (s9 < s8)) = true then
   (idx (Option.getD s7 []) s9) >>= fun t1 =>
   (run_z41 (.start t1)) >>= fun t2 =>
   uh9 (.p116 (IntKind.wrap .i64 (sum3 + t2.1.1)) s7 s8 (IntKind.wrap .i64 (s9 + (1 : Int))))
  else
   some ((sum3, ()), ())
 partial_fixpoint
def run_z41 : u52 → Option vD4
 | .start x0 =>
  (un4 (.start x0)) >>= fun t1 =>
  if t1.1.1 = true then
   x0 >>= fun t2 =>
   some ((t2.bits, ()), ())
  else
   (uI0 (.start x0)) >>= fun t3 =>
   (run_z42 (.start x0)) >>= fun t4 =>
   some ((IntKind.wrap .i64 (t3.1.1 + t4.1.1), ()), ())
 partial_fixpoint
def run_z42 : uW2 → Option vl4
 | .start x0 =>
  x0 >>= fun t1 =>
  run_z42 (.p116 (0 : Int) t1.constructors (List.length (Option.getD t1.constructors []) : Int) (0 : Int))
 | .p116 most3 s9 s10 s11 =>
  if (decide (s11 < s10)) = true then
   (idx (Option.getD s9 []) s11) >>= fun t1 =>
   (uh9 (.start t1.name t1.fields t1.parts)) >>= fun t2 =>
   run_z42 (.p116 (if t2.1.1 > most3 then t2.1.1 else most3) s9 s10 (IntKind.wrap .i64 (s11 + (1 : Int))))
  else
   some ((most3, ()), ())
 partial_fixpoint
end
def xi2 : List (Plc E uW1) := [⟨116, [false, false, true, false, true, true], { slots := [3, 7, 8, 9], rows := [], flat := [], keep := 0 }, _, _, (.cons (Rd.int .i64) (.cons (Rd.so 105) (.cons (Rd.int .i64) (.cons (Rd.int .i64) .nil)))), .nil, fun a b => .p116 a.1 a.2.1 a.2.2.1 a.2.2.2.1⟩]
theorem wO7 : All (ub8 19 0 uu3 vi5) xi2 := ⟨⟨rfl, rfl, fun _ _ => rfl, fun _ _ => rfl⟩, trivial⟩
def uw4 : Code := Tryz.f89.body.getD .skip
def vW2 (run' : uW1 → Option vl3) : Con E := ⟨89, ((ByteArray × ((List ua6) × ((Option (List (Option ua4))) × Unit))) × Unit), Unit, (RwL.cons (Rw.agg (RwL.cons Rd.str.w (RwL.cons (Rw.sl 58) (RwL.cons (Rd.so 105).w RwL.nil)))) RwL.nil), RdBL.nil, 0, vl3, fun a b => run' (.start a.1.1 a.1.2.1 a.1.2.2.1), ui8.av, ui8.bx⟩
theorem vq5 {run' : uW1 → Option vl3} (ih : ∀ pt r, run' pt = some r → Good E Tryz.f89 uw4 0 (ui8.av r) (ui8.bx r) (uu3 pt) (vi5 pt)) : (vW2 run').Ok := fun a b r h => ub3 (fn := Tryz.f89) (code := uw4) E_ok (by kernel_rfl) (by kernel_rfl) (by kernel_rfl) (Nat.le_of_ble_eq_true rfl) (ih (.start a.1.1 a.1.2.1 a.1.2.2.1) r h)
def xi3 : List (Plc E u52) := []
theorem wO8 : All (ub8 14 0 uz2 vs4) xi3 := trivial
def uA5 : Code := Tryz.f65.body.getD .skip
def w78 (run' : u52 → Option vD4) : Con E := ⟨65, ((Option ua4) × Unit), Unit, (RwL.cons (Rd.op 128).w RwL.nil), RdBL.nil, 0, vD4, fun a b => run' (.start a.1), ul1.av, ul1.bx⟩
theorem wI0 {run' : u52 → Option vD4} (ih : ∀ pt r, run' pt = some r → Good E Tryz.f65 uA5 0 (ul1.av r) (ul1.bx r) (uz2 pt) (vs4 pt)) : (w78 run').Ok := fun a b r h => ub3 (fn := Tryz.f65) (code := uA5) E_ok (by kernel_rfl) (by kernel_rfl) (by kernel_rfl) (Nat.le_of_ble_eq_true rfl) (ih (.start a.1) r h)
def xi4 : List (Plc E uW2) := [⟨116, [false, false, true, false, true, true], { slots := [3, 9, 10, 11], rows := [], flat := [], keep := 0 }, _, _, (.cons (Rd.int .i64) (.cons (Rd.so 125) (.cons (Rd.int .i64) (.cons (Rd.int .i64) .nil)))), .nil, fun a b => .p116 a.1 a.2.1 a.2.2.1 a.2.2.2.1⟩]
theorem wO9 : All (ub8 21 0 uu4 vi6) xi4 := ⟨⟨rfl, rfl, fun _ _ => rfl, fun _ _ => rfl⟩, trivial⟩
def uw5 : Code := Tryz.f90.body.getD .skip
def vW3 (run' : uW2 → Option vl4) : Con E := ⟨90, ((Option ua4) × Unit), Unit, (RwL.cons (Rd.op 128).w RwL.nil), RdBL.nil, 0, vl4, fun a b => run' (.start a.1), ui9.av, ui9.bx⟩
theorem vq6 {run' : uW2 → Option vl4} (ih : ∀ pt r, run' pt = some r → Good E Tryz.f90 uw5 0 (ui9.av r) (ui9.bx r) (uu4 pt) (vi6 pt)) : (vW3 run').Ok := fun a b r h => ub3 (fn := Tryz.f90) (code := uw5) E_ok (by kernel_rfl) (by kernel_rfl) (by kernel_rfl) (Nat.le_of_ble_eq_true rfl) (ih (.start a.1) r h)
def wo4 (r_z40 : uW1 → Option vl3) (r_z41 : u52 → Option vD4) : Spec E.S := (Con.add (w78 r_z41) (Con.add (vW2 r_z40) ub0))
theorem v58 {r_z40 : uW1 → Option vl3} (h_z40 : ∀ pt r, r_z40 pt = some r → Good E Tryz.f89 uw4 0 (ui8.av r) (ui8.bx r) (uu3 pt) (vi5 pt)) {r_z41 : u52 → Option vD4} (h_z41 : ∀ pt r, r_z41 pt = some r → Good E Tryz.f65 uA5 0 (ul1.av r) (ul1.bx r) (uz2 pt) (vs4 pt)) : ua9 E (wo4 r_z40 r_z41) := (Con.add_ok (wI0 h_z41) (Con.add_ok (vq5 h_z40) ua7))
def wo5 (r_z42 : uW2 → Option vl4) : Spec E.S := (Con.add (vW3 r_z42) (Con.add vT2 (Con.add uB0 ub0)))
theorem v59 {r_z42 : uW2 → Option vl4} (h_z42 : ∀ pt r, r_z42 pt = some r → Good E Tryz.f90 uw5 0 (ui9.av r) (ui9.bx r) (uu4 pt) (vi6 pt)) : ua9 E (wo5 r_z42) := (Con.add_ok (vq6 h_z42) (Con.add_ok vn9 (Con.add_ok um1 ua7)))
def wo6 (r_z40 : uW1 → Option vl3) (r_z42 : uW2 → Option vl4) : Spec E.S := (Con.add (vW3 r_z42) (Con.add (vW2 r_z40) ub0))
theorem v60 {r_z40 : uW1 → Option vl3} (h_z40 : ∀ pt r, r_z40 pt = some r → Good E Tryz.f89 uw4 0 (ui8.av r) (ui8.bx r) (uu3 pt) (vi5 pt)) {r_z42 : uW2 → Option vl4} (h_z42 : ∀ pt r, r_z42 pt = some r → Good E Tryz.f90 uw5 0 (ui9.av r) (ui9.bx r) (uu4 pt) (vi6 pt)) : ua9 E (wo6 r_z40 r_z42) := (Con.add_ok (vq6 h_z42) (Con.add_ok (vq5 h_z40) ua7))
theorem u79 : (∀ pt r, uh9 pt = some r → Good E Tryz.f89 uw4 0 (ui8.av r) (ui8.bx r) (uu3 pt) (vi5 pt)) ∧ (∀ pt r, run_z41 pt = some r → Good E Tryz.f65 uA5 0 (ul1.av r) (ul1.bx r) (uz2 pt) (vs4 pt)) ∧ (∀ pt r, run_z42 pt = some r → Good E Tryz.f90 uw5 0 (ui9.av r) (ui9.bx r) (uu4 pt) (vi6 pt)) := by
  refine uh9.mutual_partial_correctness (fun pt r => Good E Tryz.f89 uw4 0 (ui8.av r) (ui8.bx r) (uu3 pt) (vi5 pt)) (fun pt r => Good E Tryz.f65 uA5 0 (ul1.av r) (ul1.bx r) (uz2 pt) (vs4 pt)) (fun pt r => Good E Tryz.f90 uw5 0 (ui9.av r) (ui9.bx r) (uu4 pt) (vi6 pt)) ?_ ?_ ?_
  · intro r_z40 r_z41 h_z40 h_z41 pt r hr
    cases pt <;> exact ua8 (spec := (wo4 r_z40 r_z41)) (wr := (mkWr [] [])) (l := xi2) (z := 19) (p := ui8) E_ok wO7.mem rfl (v58 h_z40 h_z41) h_z40 (Eq.trans (by kernel_rfl) hr)
  · intro r_z42 h_z42 pt r hr
    cases pt <;> exact ua8 (spec := (wo5 r_z42)) (wr := (mkWr [] [])) (l := xi3) (z := 14) (p := ul1) (run' := fun _ => none) E_ok wO8.mem rfl (v59 h_z42) (fun _ _ h => by cases h) (Eq.trans (by kernel_rfl) hr)
  · intro r_z40 r_z42 h_z40 h_z42 pt r hr
    cases pt <;> exact ua8 (spec := (wo6 r_z40 r_z42)) (wr := (mkWr [] [])) (l := xi4) (z := 21) (p := ui9) E_ok wO9.mem rfl (v60 h_z40 h_z42) h_z42 (Eq.trans (by kernel_rfl) hr)
theorem xw5 : ∀ pt r, uh9 pt = some r → Good E Tryz.f89 uw4 0 (ui8.av r) (ui8.bx r) (uu3 pt) (vi5 pt) := u79.1
theorem xw6 : ∀ pt r, run_z41 pt = some r → Good E Tryz.f65 uA5 0 (ul1.av r) (ul1.bx r) (uz2 pt) (vs4 pt) := u79.2.1
theorem xw7 : ∀ pt r, run_z42 pt = some r → Good E Tryz.f90 uw5 0 (ui9.av r) (ui9.bx r) (uu4 pt) (vi6 pt) := u79.2.2
def vT3 : Con E := ⟨89, _, _, (.cons (Rw.agg (.cons Rd.str.w (.cons (Rw.sl 58) (.cons (Rd.so 105).w .nil)))) .nil), .nil, 0, vl3, fun a b => uh9 (.start a.1.1 a.1.2.1 a.1.2.2.1), ui8.av, ui8.bx⟩
theorem vo0 : vT3.Ok := fun a b r h => ub3 (fn := Tryz.f89) (code := uw4) E_ok (by kernel_rfl) (by kernel_rfl) (by kernel_rfl) (Nat.le_of_ble_eq_true rfl) (xw5 (.start a.1.1 a.1.2.1 a.1.2.2.1) r h)
def uN3 : Con E := ⟨65, _, _, (.cons (Rd.op 128).w .nil), .nil, 0, vD4, fun a b => run_z41 (.start a.1), ul1.av, ul1.bx⟩
theorem ut0 : uN3.Ok := fun a b r h => ub3 (fn := Tryz.f65) (code := uA5) E_ok (by kernel_rfl) (by kernel_rfl) (by kernel_rfl) (Nat.le_of_ble_eq_true rfl) (xw6 (.start a.1) r h)
def vw7 : Con E := ⟨90, _, _, (.cons (Rd.op 128).w .nil), .nil, 0, vl4, fun a b => run_z42 (.start a.1), ui9.av, ui9.bx⟩
theorem uX2 : vw7.Ok := fun a b r h => ub3 (fn := Tryz.f90) (code := uw5) E_ok (by kernel_rfl) (by kernel_rfl) (by kernel_rfl) (Nat.le_of_ble_eq_true rfl) (xw7 (.start a.1) r h)
inductive wx9 where
 | start (l0 : (List ua2)) (t1_0 : Int) (t1_1 : Int) (t1_2 : ByteArray) (t1_3 : (List ua0))
def vK1 : wx9 → List Bool
 | .start .. => []
def xJ7 : wx9 → St E.S
 | .start l0 t1_0 t1_1 t1_2 t1_3 => st0 49 [.sl 103 l0 false, .agg [.v (.int .i64 t1_0), .v (.int .i64 t1_1), .v (.string t1_2), .sl 25 t1_3 false]] []
abbrev xP6 : Type := (((Option ua4) × (((List ua2) × (Unit × Unit)) × (Int × Unit))) × Unit)
def vd5 : Res E ((Option ua4) × (((List ua2) × (Unit × Unit)) × (Int × Unit))) Unit := { rows := [], flat := [], keep := 0, done := [0, 1, 2], ptrs := [(0, 128)], rl := (.cons (Rd.op 128) (.cons (Rd.agg (.cons (Rd.sl 103 false) (.cons Rd.nl .nil))) (.cons (Rd.int .i64) .nil))), rb := .nil }
def ur5 : wx9 → Option xP6
 | .start l0 t1_0 t1_1 t1_2 t1_3 =>
  (uR0 (.start l0)) >>= fun t1 =>
  if (t1.1.2.1 != (0 : Int)) = true then
   some ((none, ((l0, ((), ())), (t1.1.2.1, ()))), ())
  else
   (uH9 (.start l0 ([]) t1_0 t1_1 t1_2 t1_3)) >>= fun t2 =>
   if (t2.1.1 != (0 : Int)) = true then
    some ((none, ((l0, ((), ())), (t2.1.1, ()))), ())
   else
    (uc8 (.start l0 ([]) t1_0 t1_1 t1_2 t1_3 (1 : Int) (0 : Int))) >>= fun t3 =>
    if (t3.1.2.1 == (0 : Int)) = true then
     (run_z41 (.start t3.1.1)) >>= fun t4 =>
     (uk2 (.start t4.1.1 (1 : Int) (16 : Int))) >>= fun t5 =>
     if (!t5.1.1) = true then
      some ((t3.1.1, ((l0, ((), ())), ((25 : Int), ()))), ())
     else
      some ((t3.1.1, ((l0, ((), ())), (t3.1.2.1, ()))), ())
    else
     some ((t3.1.1, ((l0, ((), ())), (t3.1.2.1, ()))), ())
def xi5 : List (Plc E wx9) := []
theorem wP0 : All (ub8 49 0 vK1 xJ7) xi5 := trivial
def wg2 : Code := Tryz.f64.body.getD .skip
def wo7 : Spec E.S := (Con.add uS2 (Con.add uN3 (Con.add wZ6 (Con.add vT0 (Con.add wZ3 ub0)))))
theorem v61 : ua9 E wo7 := (Con.add_ok uq5 (Con.add_ok ut0 (Con.add_ok wC0 (Con.add_ok vn7 (Con.add_ok wB7 ua7)))))
theorem xw8 : ∀ pt r, ur5 pt = some r → Good E Tryz.f64 wg2 0 (vd5.av r) (vd5.bx r) (vK1 pt) (xJ7 pt) := by
 intro pt r hr
 cases pt <;> exact ua8 (spec := wo7) (wr := (mkWr [] [])) (l := xi5) (z := 49) (p := vd5) (run' := fun _ => none) E_ok wP0.mem rfl v61 (fun _ _ h => by cases h) (Eq.trans (by kernel_rfl) hr)
def uN4 : Con E := ⟨64, _, _, (.cons (Rw.sl 103) (.cons (Rw.agg (.cons (Rd.int .i64).w (.cons (Rd.int .i64).w (.cons Rd.str.w (.cons (Rw.sl 25) .nil))))) .nil)), .nil, 0, xP6, fun a b => ur5 (.start a.1 a.2.1.1 a.2.1.2.1 a.2.1.2.2.1 a.2.1.2.2.2.1), vd5.av, vd5.bx⟩
theorem ut1 : uN4.Ok := fun a b r h => ub3 (fn := Tryz.f64) (code := wg2) E_ok (by kernel_rfl) (by kernel_rfl) (by kernel_rfl) (Nat.le_of_ble_eq_true rfl) (xw8 (.start a.1 a.2.1.1 a.2.1.2.1 a.2.1.2.2.1 a.2.1.2.2.2.1) r h)
inductive wy0 where
 | start (l0 : (List ua2)) (t1_0 : Int) (t1_1 : Int) (t1_2 : ByteArray) (t1_3 : (List ua0))
def vK2 : wy0 → List Bool
 | .start .. => []
def xJ8 : wy0 → St E.S
 | .start l0 t1_0 t1_1 t1_2 t1_3 => st0 21 [.sl 103 l0 false, .agg [.v (.int .i64 t1_0), .v (.int .i64 t1_1), .v (.string t1_2), .sl 25 t1_3 false]] []
abbrev xP7 : Type := ((Int × (Int × Unit)) × Unit)
def vd6 : Res E (Int × (Int × Unit)) Unit := { rows := [], flat := [], keep := 0, done := [0, 1], rl := (.cons (Rd.int .i64) (.cons (Rd.int .i64) .nil)), rb := .nil }
def uI1 : wy0 → Option xP7
 | .start l0 t1_0 t1_1 t1_2 t1_3 =>
  (ur5 (.start l0 t1_0 t1_1 t1_2 t1_3)) >>= fun t1 =>
  if (t1.1.2.2.1 != (0 : Int)) = true then
   some (((0 : Int), (t1.1.2.2.1, ())), ())
  else
   (run_z41 (.start t1.1.1)) >>= fun t2 =>
   some ((t2.1.1, ((0 : Int), ())), ())
def xi6 : List (Plc E wy0) := []
theorem wP1 : All (ub8 21 0 vK2 xJ8) xi6 := trivial
def wg3 : Code := Tryz.f14.body.getD .skip
def wo8 : Spec E.S := (Con.add uN3 (Con.add uN4 ub0))
theorem v62 : ua9 E wo8 := (Con.add_ok ut0 (Con.add_ok ut1 ua7))
theorem xw9 : ∀ pt r, uI1 pt = some r → Good E Tryz.f14 wg3 0 (vd6.av r) (vd6.bx r) (vK2 pt) (xJ8 pt) := by
 intro pt r hr
 cases pt <;> exact ua8 (spec := wo8) (wr := (mkWr [] [])) (l := xi6) (z := 21) (p := vd6) (run' := fun _ => none) E_ok wP1.mem rfl v62 (fun _ _ h => by cases h) (Eq.trans (by kernel_rfl) hr)
def vT4 : Con E := ⟨14, _, _, (.cons (Rw.sl 103) (.cons (Rw.agg (.cons (Rd.int .i64).w (.cons (Rd.int .i64).w (.cons Rd.str.w (.cons (Rw.sl 25) .nil))))) .nil)), .nil, 0, xP7, fun a b => uI1 (.start a.1 a.2.1.1 a.2.1.2.1 a.2.1.2.2.1 a.2.1.2.2.2.1), vd6.av, vd6.bx⟩
theorem vo1 : vT4.Ok := fun a b r h => ub3 (fn := Tryz.f14) (code := wg3) E_ok (by kernel_rfl) (by kernel_rfl) (by kernel_rfl) (Nat.le_of_ble_eq_true rfl) (xw9 (.start a.1 a.2.1.1 a.2.1.2.1 a.2.1.2.2.1 a.2.1.2.2.2.1) r h)
inductive wy1 where
 | start (name0 : ByteArray) (parts1 : (List ua5))
def vK3 : wy1 → List Bool
 | .start .. => []
def xJ9 : wy1 → St E.S
 | .start name0 parts1 => st0 8 [.v (.string name0), .sl 37 parts1 false] []
abbrev xP8 : Type := (((ByteArray × (Int × ((List ua5) × Unit))) × Unit) × Unit)
def vd7 : Res E ((ByteArray × (Int × ((List ua5) × Unit))) × Unit) Unit := { rows := [], flat := [], keep := 0, done := [0], rl := (.cons (Rd.agg (.cons Rd.str (.cons (Rd.int .i64) (.cons (Rd.sl 37 false) .nil)))) .nil), rb := .nil }
def uv3 : wy1 → Option xP8
 | .start name0 parts1 =>
  some (((name0, ((0 : Int), (parts1, ()))), ()), ())
def xi7 : List (Plc E wy1) := []
theorem wP2 : All (ub8 8 0 vK3 xJ9) xi7 := trivial
def wg4 : Code := Tryz.f60.body.getD .skip
def wo9 : Spec E.S := ub0
theorem v63 : ua9 E wo9 := ua7
theorem xx0 : ∀ pt r, uv3 pt = some r → Good E Tryz.f60 wg4 0 (vd7.av r) (vd7.bx r) (vK3 pt) (xJ9 pt) := by
 intro pt r hr
 cases pt <;> exact ua8 (spec := wo9) (wr := (mkWr [] [])) (l := xi7) (z := 8) (p := vd7) (run' := fun _ => none) E_ok wP2.mem rfl v63 (fun _ _ h => by cases h) (Eq.trans (by kernel_rfl) hr)
def w01 : Con E := ⟨60, _, _, (.cons Rd.str.w (.cons (Rw.sl 37) .nil)), .nil, 0, xP8, fun a b => uv3 (.start a.1 a.2.1), vd7.av, vd7.bx⟩
theorem wC3 : w01.Ok := fun a b r h => ub3 (fn := Tryz.f60) (code := wg4) E_ok (by kernel_rfl) (by kernel_rfl) (by kernel_rfl) (Nat.le_of_ble_eq_true rfl) (xx0 (.start a.1 a.2.1) r h)
inductive wy2 where
 | start (v0_0 : ByteArray) (v0_1 : Int) (v0_2 : (List ua5))
def vK4 : wy2 → List Bool
 | .start .. => []
def xK0 : wy2 → St E.S
 | .start v0_0 v0_1 v0_2 => st0 5 [.agg [.v (.string v0_0), .v (.int .i64 v0_1), .sl 37 v0_2 false]] []
abbrev xP9 : Type := (((List ua5) × Unit) × Unit)
def vd8 : Res E ((List ua5) × Unit) Unit := { rows := [], flat := [], keep := 0, done := [0], rl := (.cons (Rd.sl 37 false) .nil), rb := .nil }
def vg9 : wy2 → Option xP9
 | .start v0_0 v0_1 v0_2 =>
  some ((v0_2, ()), ())
def xi8 : List (Plc E wy2) := []
theorem wP3 : All (ub8 5 0 vK4 xK0) xi8 := trivial
def wg5 : Code := Tryz.f95.body.getD .skip
def wp0 : Spec E.S := ub0
theorem v64 : ua9 E wp0 := ua7
theorem xx1 : ∀ pt r, vg9 pt = some r → Good E Tryz.f95 wg5 0 (vd8.av r) (vd8.bx r) (vK4 pt) (xK0 pt) := by
 intro pt r hr
 cases pt <;> exact ua8 (spec := wp0) (wr := (mkWr [] [])) (l := xi8) (z := 5) (p := vd8) (run' := fun _ => none) E_ok wP3.mem rfl v64 (fun _ _ h => by cases h) (Eq.trans (by kernel_rfl) hr)
def w02 : Con E := ⟨95, _, _, (.cons (Rw.agg (.cons Rd.str.w (.cons (Rd.int .i64).w (.cons (Rw.sl 37) .nil)))) .nil), .nil, 0, xP9, fun a b => vg9 (.start a.1.1 a.1.2.1 a.1.2.2.1), vd8.av, vd8.bx⟩
theorem wC4 : w02.Ok := fun a b r h => ub3 (fn := Tryz.f95) (code := wg5) E_ok (by kernel_rfl) (by kernel_rfl) (by kernel_rfl) (Nat.le_of_ble_eq_true rfl) (xx1 (.start a.1.1 a.1.2.1 a.1.2.2.1) r h)
inductive vk3 where
 | start (x0_0 : ByteArray) (x0_1 : Int) (x0_2 : (List ua5)) (depth1 : Int) (B0 : Int)
 | p15 (depth1 : Int) (B0 : Int) (H0 : ByteArray) (H1 : Int) (H2 : (List ua5))
 | p244 (depth1 : Int) (s20 : (List ua5)) (s21 : Int) (s22 : Int) (B0 : Int)
def uG1 : vk3 → List Bool
 | .start .. => []
 | .p15 .. => [true, true, true]
 | .p244 .. => [false, false, true, false, true, true, true]
def vP5 : vk3 → St E.S
 | .start x0_0 x0_1 x0_2 depth1 B0 => st0 33 [.agg [.v (.string x0_0), .v (.int .i64 x0_1), .sl 37 x0_2 false], .v (.int .i64 depth1), .bp 0 0, .bp 1 0, .bp 2 0] [.var 3 [.v (.int .i64 B0)], .var 136 [.fn 95 []], .var 173 [.fn 131 [.bp 0 0, .bp 1 0, .bp 2 0]]]
 | .p15 depth1 B0 H0 H1 H2 => mkSt 33 [1, 3, 4, 5] [.v (.int .i64 depth1), .bp 1 0, .bp 2 0, .bp 3 0] [.var 3 [.v (.int .i64 B0)], .var 136 [.fn 95 []], .var 173 [.fn 131 [.bp 0 0, .bp 1 0, .bp 2 0]], .var 37 [.v (.string H0), .v (.int .i64 H1), .sl 37 H2 false]]
 | .p244 depth1 s20 s21 s22 B0 => mkSt 33 [1, 4, 20, 21, 22] [.v (.int .i64 depth1), .bp 2 0, .sl 37 s20 false, .v (.int .i64 s21), .v (.int .i64 s22)] [.var 3 [.v (.int .i64 B0)], .var 136 [.fn 95 []], .var 173 [.fn 131 [.bp 0 0, .bp 1 0, .bp 2 0]]]
abbrev vD5 : Type := ((Bool × Unit) × ((Int × Unit) × ((Unit × Unit) × (((Unit × (Unit × (Unit × Unit))) × Unit) × Unit))))
def uo5 : Res E (Bool × Unit) ((Int × Unit) × ((Unit × Unit) × (((Unit × (Unit × (Unit × Unit))) × Unit) × Unit))) := { rows := [], flat := [], keep := 3, done := [0], rl := (.cons Rd.bool .nil), rb := (.cons (.var 3 (.cons (Rd.int .i64) .nil)) (.cons (.var 136 (.cons (Rd.fn 95 .nil) .nil)) (.cons (.var 173 (.cons (Rd.fn 131 (.cons (Rd.bp 0 0) (.cons (Rd.bp 1 0) (.cons (Rd.bp 2 0) .nil)))) .nil)) .nil))) }
def uy3 : vk3 → Option vD5
 | .start x0_0 x0_1 x0_2 depth1 B0 =>
  if (decide ((IntKind.wrap .i64 (B0 + (1 : Int))) > (200 : Int))) = true then
   some ((false, ()), ((IntKind.wrap .i64 (B0 + (1 : Int)), ()), (((), ()), ((((), ((), ((), ()))), ()), ()))))
  else
   if (decide (depth1 > (40 : Int))) = true then
    some ((false, ()), ((IntKind.wrap .i64 (B0 + (1 : Int)), ()), (((), ()), ((((), ((), ((), ()))), ()), ()))))
   else
    uy3 (.p15 depth1 (IntKind.wrap .i64 (B0 + (1 : Int))) x0_0 x0_1 x0_2)
 | .p15 depth1 B0 H0 H1 H2 =>
  (vg9 (.start H0 H1 H2)) >>= fun t1 =>
  uy3 (.p244 depth1 t1.1.1 (List.length t1.1.1 : Int) (0 : Int) B0)
 | .p244 depth1 s20 s21 s22 B0 =>
  if (decide (s22 < s21)) = true then
   (idx s20 s22) >>= fun t1 =>
   (uy3 (.start t1.Name t1.Number t1.Parts (IntKind.wrap .i64 (depth1 + (1 : Int))) B0)) >>= fun t2 =>
   if (!t2.1.1) = true then
    some ((false, ()), ((t2.2.1.1, ()), (((), ()), ((((), ((), ((), ()))), ()), ()))))
   else
    uy3 (.p244 depth1 s20 s21 (IntKind.wrap .i64 (s22 + (1 : Int))) t2.2.1.1)
  else
   some ((true, ()), ((B0, ()), (((), ()), ((((), ((), ((), ()))), ()), ()))))
 partial_fixpoint
def xi9 : List (Plc E vk3) := [⟨15, [true, true, true], { slots := [1, 3, 4, 5], rows := [], flat := [], keep := 3 }, _, _, (.cons (Rd.int .i64) (.cons (Rd.bp 1 0) (.cons (Rd.bp 2 0) (.cons (Rd.bp 3 0) .nil)))), (.cons (.var 3 (.cons (Rd.int .i64) .nil)) (.cons (.var 136 (.cons (Rd.fn 95 .nil) .nil)) (.cons (.var 173 (.cons (Rd.fn 131 (.cons (Rd.bp 0 0) (.cons (Rd.bp 1 0) (.cons (Rd.bp 2 0) .nil)))) .nil)) (.cons (.var 37 (.cons Rd.str (.cons (Rd.int .i64) (.cons (Rd.sl 37 false) .nil)))) .nil)))), fun a b => .p15 a.1 b.1.1 b.2.2.2.1.1 b.2.2.2.1.2.1 b.2.2.2.1.2.2.1⟩,
 ⟨244, [false, false, true, false, true, true, true], { slots := [1, 4, 20, 21, 22], rows := [], flat := [], keep := 3 }, _, _, (.cons (Rd.int .i64) (.cons (Rd.bp 2 0) (.cons (Rd.sl 37 false) (.cons (Rd.int .i64) (.cons (Rd.int .i64) .nil))))), (.cons (.var 3 (.cons (Rd.int .i64) .nil)) (.cons (.var 136 (.cons (Rd.fn 95 .nil) .nil)) (.cons (.var 173 (.cons (Rd.fn 131 (.cons (Rd.bp 0 0) (.cons (Rd.bp 1 0) (.cons (Rd.bp 2 0) .nil)))) .nil)) .nil))), fun a b => .p244 a.1 a.2.2.1 a.2.2.2.1 a.2.2.2.2.1 b.1.1⟩]
theorem wP4 : All (ub8 33 3 uG1 vP5) xi9 := ⟨⟨rfl, rfl, fun _ _ => rfl, fun _ _ => rfl⟩, ⟨⟨rfl, rfl, fun _ _ => rfl, fun _ _ => rfl⟩, trivial⟩⟩
def uJ1 : Code := Tryz.f131.body.getD .skip
def w79 (run' : vk3 → Option vD5) : Con E := ⟨131, ((ByteArray × (Int × ((List ua5) × Unit))) × (Int × (Unit × (Unit × (Unit × Unit))))), ((Int × Unit) × ((Unit × Unit) × (((Unit × (Unit × (Unit × Unit))) × Unit) × Unit))), (RwL.cons (Rw.agg (RwL.cons Rd.str.w (RwL.cons (Rd.int .i64).w (RwL.cons (Rw.sl 37) RwL.nil)))) (RwL.cons (Rd.int .i64).w (RwL.cons (Rd.bp 0 0).w (RwL.cons (Rd.bp 1 0).w (RwL.cons (Rd.bp 2 0).w RwL.nil))))), (RdBL.cons (RdB.var 3 (RdL.cons (Rd.int .i64) RdL.nil)) (RdBL.cons (RdB.var 136 (RdL.cons (Rd.fn 95 RdL.nil) RdL.nil)) (RdBL.cons (RdB.var 173 (RdL.cons (Rd.fn 131 (RdL.cons (Rd.bp 0 0) (RdL.cons (Rd.bp 1 0) (RdL.cons (Rd.bp 2 0) RdL.nil)))) RdL.nil)) RdBL.nil))), 3, vD5, fun a b => run' (.start a.1.1 a.1.2.1 a.1.2.2.1 a.2.1 b.1.1), uo5.av, uo5.bx⟩
theorem wI1 {run' : vk3 → Option vD5} (ih : ∀ pt r, run' pt = some r → Good E Tryz.f131 uJ1 3 (uo5.av r) (uo5.bx r) (uG1 pt) (vP5 pt)) : (w79 run').Ok := fun a b r h => ub3 (fn := Tryz.f131) (code := uJ1) E_ok (by kernel_rfl) (by kernel_rfl) (by kernel_rfl) (Nat.le_of_ble_eq_true rfl) (ih (.start a.1.1 a.1.2.1 a.1.2.2.1 a.2.1 b.1.1) r h)
def wp1 (run' : vk3 → Option vD5) : Spec E.S := (Con.add (w79 run') (Con.add w02 ub0))
theorem v65 {run' : vk3 → Option vD5} (ih : ∀ pt r, run' pt = some r → Good E Tryz.f131 uJ1 3 (uo5.av r) (uo5.bx r) (uG1 pt) (vP5 pt)) : ua9 E (wp1 run') := (Con.add_ok (wI1 ih) (Con.add_ok wC4 ua7))
theorem xx2 : ∀ pt r, uy3 pt = some r → Good E Tryz.f131 uJ1 3 (uo5.av r) (uo5.bx r) (uG1 pt) (vP5 pt) := by
 refine uy3.partial_correctness (fun pt r => Good E Tryz.f131 uJ1 3 (uo5.av r) (uo5.bx r) (uG1 pt) (vP5 pt)) ?_
 intro run' ih pt r hr
 cases pt <;> exact ua8 (spec := (wp1 run')) (wr := (mkWr [] [])) (l := xi9) (z := 33) (p := uo5) E_ok wP4.mem rfl (v65 ih) ih (Eq.trans (by kernel_rfl) hr)
def w03 : Con E := ⟨131, _, _, (.cons (Rw.agg (.cons Rd.str.w (.cons (Rd.int .i64).w (.cons (Rw.sl 37) .nil)))) (.cons (Rd.int .i64).w (.cons (Rd.bp 0 0).w (.cons (Rd.bp 1 0).w (.cons (Rd.bp 2 0).w .nil))))), (.cons (.var 3 (.cons (Rd.int .i64) .nil)) (.cons (.var 136 (.cons (Rd.fn 95 .nil) .nil)) (.cons (.var 173 (.cons (Rd.fn 131 (.cons (Rd.bp 0 0) (.cons (Rd.bp 1 0) (.cons (Rd.bp 2 0) .nil)))) .nil)) .nil))), 3, vD5, fun a b => uy3 (.start a.1.1 a.1.2.1 a.1.2.2.1 a.2.1 b.1.1), uo5.av, uo5.bx⟩
theorem wC5 : w03.Ok := fun a b r h => ub3 (fn := Tryz.f131) (code := uJ1) E_ok (by kernel_rfl) (by kernel_rfl) (by kernel_rfl) (Nat.le_of_ble_eq_true rfl) (xx2 (.start a.1.1 a.1.2.1 a.1.2.2.1 a.2.1 b.1.1) r h)
inductive wy3 where
 | start (root0_0 : ByteArray) (root0_1 : Int) (root0_2 : (List ua5))
def vK5 : wy3 → List Bool
 | .start .. => []
def xK1 : wy3 → St E.S
 | .start root0_0 root0_1 root0_2 => st0 12 [.agg [.v (.string root0_0), .v (.int .i64 root0_1), .sl 37 root0_2 false], .fn 95 []] []
abbrev xQ0 : Type := ((Int × Unit) × Unit)
def vd9 : Res E (Int × Unit) Unit := { rows := [], flat := [], keep := 0, done := [0], rl := (.cons (Rd.int .i64) .nil), rb := .nil }
def u05 : wy3 → Option xQ0
 | .start root0_0 root0_1 root0_2 =>
  (uy3 (.start root0_0 root0_1 root0_2 (1 : Int) (0 : Int))) >>= fun t1 =>
  (uc6 (.start t1.1.1 (8 : Int))) >>= fun t2 =>
  some ((t2.1.1, ()), ())
def xj0 : List (Plc E wy3) := []
theorem wP5 : All (ub8 12 0 vK5 xK1) xj0 := trivial
def wg6 : Code := Tryz.f94.body.getD .skip
def wp2 : Spec E.S := (Con.add uS3 (Con.add w03 ub0))
theorem v66 : ua9 E wp2 := (Con.add_ok uq6 (Con.add_ok wC5 ua7))
theorem xx3 : ∀ pt r, u05 pt = some r → Good E Tryz.f94 wg6 0 (vd9.av r) (vd9.bx r) (vK5 pt) (xK1 pt) := by
 intro pt r hr
 cases pt <;> exact ua8 (spec := wp2) (wr := (mkWr [] [])) (l := xj0) (z := 12) (p := vd9) (run' := fun _ => none) E_ok wP5.mem rfl v66 (fun _ _ h => by cases h) (Eq.trans (by kernel_rfl) hr)
def vT5 : Con E := ⟨94, _, _, (.cons (Rw.agg (.cons Rd.str.w (.cons (Rd.int .i64).w (.cons (Rw.sl 37) .nil)))) (.cons (Rd.fn 95 .nil).w .nil)), .nil, 0, xQ0, fun a b => u05 (.start a.1.1 a.1.2.1 a.1.2.2.1), vd9.av, vd9.bx⟩
theorem vo2 : vT5.Ok := fun a b r h => ub3 (fn := Tryz.f94) (code := wg6) E_ok (by kernel_rfl) (by kernel_rfl) (by kernel_rfl) (Nat.le_of_ble_eq_true rfl) (xx3 (.start a.1.1 a.1.2.1 a.1.2.2.1) r h)
inductive wy4 where
 | start (v0_0 : ByteArray) (v0_1 : (List ua6)) (v0_2 : (Option (List (Option ua4)))) (s1 : ByteArray)
def vK6 : wy4 → List Bool
 | .start .. => []
def xK2 : wy4 → St E.S
 | .start v0_0 v0_1 v0_2 s1 => st0 8 [.agg [.v (.string v0_0), .sl 58 v0_1 false, .so 105 v0_2], .el 9 s1 0] []
abbrev xQ1 : Type := ((Bool × Unit) × Unit)
def ve0 : Res E (Bool × Unit) Unit := { rows := [], flat := [], keep := 0, done := [0], rl := (.cons Rd.bool .nil), rb := .nil }
def u06 : wy4 → Option xQ1
 | .start v0_0 v0_1 v0_2 s1 =>
  some ((seq v0_0 s1, ()), ())
def xj1 : List (Plc E wy4) := []
theorem wP6 : All (ub8 8 0 vK6 xK2) xj1 := trivial
def wg7 : Code := Tryz.f123.body.getD .skip
def wp3 : Spec E.S := ub0
theorem v67 : ua9 E wp3 := ua7
theorem xx4 : ∀ pt r, u06 pt = some r → Good E Tryz.f123 wg7 0 (ve0.av r) (ve0.bx r) (vK6 pt) (xK2 pt) := by
 intro pt r hr
 cases pt <;> exact ua8 (spec := wp3) (wr := (mkWr [] [])) (l := xj1) (z := 8) (p := ve0) (run' := fun _ => none) E_ok wP6.mem rfl v67 (fun _ _ h => by cases h) (Eq.trans (by kernel_rfl) hr)
def w04 : Con E := ⟨123, _, _, (.cons (Rw.agg (.cons Rd.str.w (.cons (Rw.sl 58) (.cons (Rd.so 105).w .nil)))) (.cons (Rd.el 9 0).w .nil)), .nil, 0, xQ1, fun a b => u06 (.start a.1.1 a.1.2.1 a.1.2.2.1 a.2.1), ve0.av, ve0.bx⟩
theorem wC6 : w04.Ok := fun a b r h => ub3 (fn := Tryz.f123) (code := wg7) E_ok (by kernel_rfl) (by kernel_rfl) (by kernel_rfl) (Nat.le_of_ble_eq_true rfl) (xx4 (.start a.1.1 a.1.2.1 a.1.2.2.1 a.2.1) r h)
inductive wy5 where
 | start (s0 : (Option (List data_variant))) (B0 : ByteArray)
 | p52 (s0 : (Option (List data_variant))) (s7 : Int) (s8 : Int) (B0 : ByteArray)
def va7 : wy5 → List Bool
 | .start .. => []
 | .p52 .. => [false, false, true, false, true]
def xd3 : wy5 → St E.S
 | .start s0 B0 => st0 19 [.so 125 s0, .fn 123 [.bp 0 0]] [.var 9 [.v (.string B0)]]
 | .p52 s0 s7 s8 B0 => mkSt 19 [0, 1, 7, 8] [.so 125 s0, .fn 123 [.bp 0 0], .v (.int .i64 s7), .v (.int .i64 s8)] [.var 9 [.v (.string B0)]]
abbrev xQ2 : Type := ((Int × Unit) × ((ByteArray × Unit) × Unit))
def uP6 : Res E (Int × Unit) ((ByteArray × Unit) × Unit) := { rows := [], flat := [], keep := 1, done := [0], rl := (.cons (Rd.int .i64) .nil), rb := (.cons (.var 9 (.cons Rd.str .nil)) .nil) }
def un5 : wy5 → Option xQ2
 | .start s0 B0 =>
  un5 (.p52 s0 (List.length (Option.getD s0 []) : Int) (0 : Int) B0)
 | .p52 s0 s7 s8 B0 =>
  if (decide (s8 < s7)) = true then
   (idx (Option.getD s0 []) s8) >>= fun t1 =>
   (u06 (.start t1.name t1.fields t1.parts B0)) >>= fun t2 =>
   if t2.1.1 = true then
    some ((s8, ()), ((B0, ()), ()))
   else
    un5 (.p52 s0 s7 (IntKind.wrap .i64 (s8 + (1 : Int))) B0)
  else
   some (((-1 : Int), ()), ((B0, ()), ()))
 partial_fixpoint
def xj3 : List (Plc E wy5) := [⟨52, [false, false, true, false, true], { slots := [0, 1, 7, 8], rows := [], flat := [], keep := 1 }, _, _, (.cons (Rd.so 125) (.cons (Rd.fn 123 (.cons (Rd.bp 0 0) .nil)) (.cons (Rd.int .i64) (.cons (Rd.int .i64) .nil)))), (.cons (.var 9 (.cons Rd.str .nil)) .nil), fun a b => .p52 a.1 a.2.2.1 a.2.2.2.1 b.1.1⟩]
theorem wP7 : All (ub8 19 1 va7 xd3) xj3 := ⟨⟨rfl, rfl, fun _ _ => rfl, fun _ _ => rfl⟩, trivial⟩
def vv2 : Code := Tryz.f122.body.getD .skip
def wp4 : Spec E.S := (Con.add w04 ub0)
theorem v68 : ua9 E wp4 := (Con.add_ok wC6 ua7)
theorem xx5 : ∀ pt r, un5 pt = some r → Good E Tryz.f122 vv2 1 (uP6.av r) (uP6.bx r) (va7 pt) (xd3 pt) := by
 refine un5.partial_correctness (fun pt r => Good E Tryz.f122 vv2 1 (uP6.av r) (uP6.bx r) (va7 pt) (xd3 pt)) ?_
 intro run' ih pt r hr
 cases pt <;> exact ua8 (spec := wp4) (wr := (mkWr [] [])) (l := xj3) (z := 19) (p := uP6) E_ok wP7.mem rfl v68 ih (Eq.trans (by kernel_rfl) hr)
def w05 : Con E := ⟨122, _, _, (.cons (Rd.so 125).w (.cons (Rd.fn 123 (.cons (Rd.bp 0 0) .nil)).w .nil)), (.cons (.var 9 (.cons Rd.str .nil)) .nil), 1, xQ2, fun a b => un5 (.start a.1 b.1.1), uP6.av, uP6.bx⟩
theorem wC7 : w05.Ok := fun a b r h => ub3 (fn := Tryz.f122) (code := vv2) E_ok (by kernel_rfl) (by kernel_rfl) (by kernel_rfl) (Nat.le_of_ble_eq_true rfl) (xx5 (.start a.1 b.1.1) r h)
inductive wy6 where
 | start (x0 : (Option ua4)) (name1 : ByteArray)
def vK7 : wy6 → List Bool
 | .start .. => []
def xK3 : wy6 → St E.S
 | .start x0 name1 => st0 11 [.op 128 x0, .v (.string name1)] []
abbrev xQ3 : Type := ((Int × Unit) × Unit)
def ve1 : Res E (Int × Unit) Unit := { rows := [], flat := [], keep := 0, done := [0], rl := (.cons (Rd.int .i64) .nil), rb := .nil }
def uI2 : wy6 → Option xQ3
 | .start x0 name1 =>
  x0 >>= fun t1 =>
  (un5 (.start t1.constructors name1)) >>= fun t2 =>
  some ((t2.1.1, ()), ())
def xj4 : List (Plc E wy6) := []
theorem wP8 : All (ub8 11 0 vK7 xK3) xj4 := trivial
def wg8 : Code := Tryz.f80.body.getD .skip
def wp5 : Spec E.S := (Con.add w05 ub0)
theorem v69 : ua9 E wp5 := (Con.add_ok wC7 ua7)
theorem xx6 : ∀ pt r, uI2 pt = some r → Good E Tryz.f80 wg8 0 (ve1.av r) (ve1.bx r) (vK7 pt) (xK3 pt) := by
 intro pt r hr
 cases pt <;> exact ua8 (spec := wp5) (wr := (mkWr [] [])) (l := xj4) (z := 11) (p := ve1) (run' := fun _ => none) E_ok wP8.mem rfl v69 (fun _ _ h => by cases h) (Eq.trans (by kernel_rfl) hr)
def vT6 : Con E := ⟨80, _, _, (.cons (Rd.op 128).w (.cons Rd.str.w .nil)), .nil, 0, xQ3, fun a b => uI2 (.start a.1 a.2.1), ve1.av, ve1.bx⟩
theorem vo3 : vT6.Ok := fun a b r h => ub3 (fn := Tryz.f80) (code := wg8) E_ok (by kernel_rfl) (by kernel_rfl) (by kernel_rfl) (Nat.le_of_ble_eq_true rfl) (xx6 (.start a.1 a.2.1) r h)
end
end Go.Proofs.YtaennkkcnhfglaaGreatDoor.Ev.F
