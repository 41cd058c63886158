/- A part of the proof. -/
import Derived.Test.YtaennkkcnhfglaaGreatDoorNEvShelf
import Derived.Test.YtaennkkcnhfglaaGreatDoorNShelf
import Derived.Test.YtaennkkcnhfglaaGreatDoorNEvLib
import Derived.Test.YtaennkkcnhfglaaGreatDoorNEvRun
import Derived.Test.YtaennkkcnhfglaaGreatDoorProg
set_option linter.unusedVariables false
set_option maxRecDepth 100000
namespace Go.Proofs.YtaennkkcnhfglaaGreatDoor.Ev.F
open Go.Proofs Go.Proofs.YtaennkkcnhfglaaGreatDoor.Ev
noncomputable section
structure ua0 where
 Kind : Int
 Value : Int
 Name : ByteArray
 Parts : (List ua0)
structure ua6 where
 Name : ByteArray
 Type_ : ua0
structure ua1 where
 Name : ByteArray
 Fields : (List ua6)
structure ua3 where
 Name : ByteArray
 Params : (List ByteArray)
 Constructors : (List ua1)
structure un4 where
 list : (List ua3)
 params : (List ByteArray)
mutual
structure ua4 where
 bits : Int
 constructors : (Option (List data_variant))
structure data_variant where
 name : ByteArray
 fields : (List ua6)
 parts : (Option (List (Option ua4)))
end
structure ua5 where
 Name : ByteArray
 Number : Int
 Parts : (List ua5)
def S : Nat → Type
 | 5 => Int
 | 9 => ByteArray
 | 25 => ua0
 | 29 => Int
 | 37 => ua5
 | 56 => ua1
 | 58 => ua6
 | 103 => ua3
 | 105 => (Option ua4)
 | 107 => un4
 | 125 => data_variant
 | 128 => ua4
 | 188 => Int
 | _ => Unit
def pk (e : Nat) : Pk S (S e) :=
 if h : e = 5 then h ▸ ((Pk.int .u8) : Pk S Int) else
 if h : e = 9 then h ▸ (Pk.str : Pk S ByteArray) else
 if h : e = 25 then h ▸ ((Pk.iso (Pk.cons (Pk.int .i64) (Pk.cons (Pk.int .i64) (Pk.cons Pk.str (Pk.cons (Pk.sl 25) Pk.unit)))) (fun a => (⟨a.1, a.2.1, a.2.2.1, a.2.2.2.1⟩ : ua0)) (fun x => (x.Kind, x.Value, x.Name, x.Parts, ())) (fun x => by cases x; rfl)) : Pk S ua0) else
 if h : e = 29 then h ▸ ((Pk.int .i64) : Pk S Int) else
 if h : e = 37 then h ▸ ((Pk.iso (Pk.cons Pk.str (Pk.cons (Pk.int .i64) (Pk.cons (Pk.sl 37) Pk.unit))) (fun a => (⟨a.1, a.2.1, a.2.2.1⟩ : ua5)) (fun x => (x.Name, x.Number, x.Parts, ())) (fun x => by cases x; rfl)) : Pk S ua5) else
 if h : e = 56 then h ▸ ((Pk.iso (Pk.cons Pk.str (Pk.cons (Pk.sl 58) Pk.unit)) (fun a => (⟨a.1, a.2.1⟩ : ua1)) (fun x => (x.Name, x.Fields, ())) (fun _ => rfl)) : Pk S ua1) else
 if h : e = 58 then h ▸ ((Pk.iso (Pk.cons Pk.str (Pk.cons (Pk.iso (Pk.cons (Pk.int .i64) (Pk.cons (Pk.int .i64) (Pk.cons Pk.str (Pk.cons (Pk.sl 25) Pk.unit)))) (fun a => (⟨a.1, a.2.1, a.2.2.1, a.2.2.2.1⟩ : ua0)) (fun x => (x.Kind, x.Value, x.Name, x.Parts, ())) (fun x => by cases x; rfl)) Pk.unit)) (fun a => (⟨a.1, a.2.1⟩ : ua6)) (fun x => (x.Name, x.Type_, ())) (fun _ => rfl)) : Pk S ua6) else
 if h : e = 103 then h ▸ ((Pk.iso (Pk.cons Pk.str (Pk.cons (Pk.sl 9) (Pk.cons (Pk.sl 56) Pk.unit))) (fun a => (⟨a.1, a.2.1, a.2.2.1⟩ : ua3)) (fun x => (x.Name, x.Params, x.Constructors, ())) (fun _ => rfl)) : Pk S ua3) else
 if h : e = 105 then h ▸ ((Pk.op 128) : Pk S (Option ua4)) else
 if h : e = 107 then h ▸ ((Pk.iso (Pk.cons (Pk.sl 103) (Pk.cons (Pk.sl 9) Pk.unit)) (fun a => (⟨a.1, a.2.1⟩ : un4)) (fun x => (x.list, x.params, ())) (fun _ => rfl)) : Pk S un4) else
 if h : e = 125 then h ▸ ((Pk.iso (Pk.cons Pk.str (Pk.cons (Pk.sl 58) (Pk.cons (Pk.so 105) Pk.unit))) (fun a => (⟨a.1, a.2.1, a.2.2.1⟩ : data_variant)) (fun x => (x.name, x.fields, x.parts, ())) (fun x => by cases x; rfl)) : Pk S data_variant) else
 if h : e = 128 then h ▸ ((Pk.iso (Pk.cons (Pk.int .i64) (Pk.cons (Pk.so 125) Pk.unit)) (fun a => (⟨a.1, a.2.1⟩ : ua4)) (fun x => (x.bits, x.constructors, ())) (fun x => by cases x; rfl)) : Pk S ua4) else
 if h : e = 188 then h ▸ ((Pk.int .u64) : Pk S Int) else
 Pk.no (Tryz.prog.cellsOf e)
theorem x62 (e : Nat) : (pk e).len = Tryz.prog.cellsOf e := by
  unfold pk
  by_cases h : e = 5
  · subst h; kernel_rfl
  refine (congrArg Pk.len (dif_neg h)).trans ?_; clear h
  by_cases h : e = 9
  · subst h; kernel_rfl
  refine (congrArg Pk.len (dif_neg h)).trans ?_; clear h
  by_cases h : e = 25
  · subst h; kernel_rfl
  refine (congrArg Pk.len (dif_neg h)).trans ?_; clear h
  by_cases h : e = 29
  · subst h; kernel_rfl
  refine (congrArg Pk.len (dif_neg h)).trans ?_; clear h
  by_cases h : e = 37
  · subst h; kernel_rfl
  refine (congrArg Pk.len (dif_neg h)).trans ?_; clear h
  by_cases h : e = 56
  · subst h; kernel_rfl
  refine (congrArg Pk.len (dif_neg h)).trans ?_; clear h
  by_cases h : e = 58
  · subst h; kernel_rfl
  refine (congrArg Pk.len (dif_neg h)).trans ?_; clear h
  by_cases h : e = 103
  · subst h; kernel_rfl
  refine (congrArg Pk.len (dif_neg h)).trans ?_; clear h
  by_cases h : e = 105
  · subst h; kernel_rfl
  refine (congrArg Pk.len (dif_neg h)).trans ?_; clear h
  by_cases h : e = 107
  · subst h; kernel_rfl
  refine (congrArg Pk.len (dif_neg h)).trans ?_; clear h
  by_cases h : e = 125
  · subst h; kernel_rfl
  refine (congrArg Pk.len (dif_neg h)).trans ?_; clear h
  by_cases h : e = 128
  · subst h; kernel_rfl
  refine (congrArg Pk.len (dif_neg h)).trans ?_; clear h
  by_cases h : e = 188
  · subst h; kernel_rfl
  refine (congrArg Pk.len (dif_neg h)).trans ?_; clear h
  exact Pk.no_len _
def plain : Nat → Bool := fun t => mem t []
def byt (e : Nat) (s : ByteArray) : Option (List (S e)) := if h : e = 5 then some (h ▸ (ub8 s : List Int)) else none
theorem x42 : ∀ e s l, byt e s = some l → Tryz.prog.underlying e = some (.int .u8) ∧ Tryz.prog.cellsOf e = 1 ∧ l.length = s.size ∧ ∀ i x, l[i]? = some x → (pk e).wt x = [.v (.int .u8 ((s.data.toList.getD i 0).toNat : Int))] := by
  intro e s l h
  unfold byt at h
  split at h
  · rename_i he; subst he; obtain rfl := Option.some.inj h
    exact ⟨by kernel_rfl, by kernel_rfl, (vk8 s).1, fun i x hx => by rw [(vk8 s).2 i x hx]; kernel_rfl⟩
  cases h
def x49 : List Int := [1, 10, 100, 1000, 10000, 100000, 1000000, 10000000, 100000000, 1000000000, 10000000000, 100000000000, 1000000000000, 10000000000000, 100000000000000, 1000000000000000, 10000000000000000, 100000000000000000, 1000000000000000000, 10000000000000000000]
def x50 : List Int := [0, 1, 28, 2, 29, 14, 24, 3, 30, 22, 20, 15, 25, 17, 4, 8, 31, 27, 13, 23, 21, 19, 16, 7, 26, 12, 18, 6, 11, 5, 10, 9]
def x51 : List Int := [0, 1, 56, 2, 57, 49, 28, 3, 61, 58, 42, 50, 38, 29, 17, 4, 62, 47, 59, 36, 45, 43, 51, 22, 53, 39, 33, 30, 24, 18, 12, 5, 63, 55, 48, 27, 60, 41, 37, 16, 46, 35, 44, 21, 52, 32, 23, 11, 54, 26, 40, 15, 34, 20, 31, 10, 25, 14, 19, 9, 13, 8, 7, 6]
def xa6 : Nat → Option (AV S)
 | 3 => some (.ar 188 x49)
 | 4 => some (.ar 5 x50)
 | 5 => some (.ar 5 x51)
 | _ => none
theorem xz5 : ∀ g x, xa6 g = some x → idsV x = [] := by
 intro g x h
 unfold xa6 at h
 split at h <;> first | (cases h; done) | (obtain rfl := Option.some.inj h; rfl)
def nums : (e : Nat) → List (S e) → Option (List Int)
 | 5, l => some l
 | _, _ => none
theorem xY8 : ∀ e l xs, nums e l = some xs → Tryz.prog.underlying e = some (.int .u8) ∧ xs.length = l.length ∧ ∀ (i : Nat) x n, l[i]? = some x → xs[i]? = some n → (pk e).wt x = [.v (.int .u8 n)] := by
  intro e l xs h
  unfold nums at h
  split at h
  · obtain rfl := Option.some.inj h
    exact ⟨by kernel_rfl, rfl, fun i x n hx hn => by obtain rfl : x = n := Option.some.inj (hx.symm.trans hn); kernel_rfl⟩
  · cases h
def held : Nat → Option (String × Array Value)
 | 3 => some ("internal/strconv.uint64pow10", (Go.Lib.pow10Tab.map fun z => Value.int .u64 z).toArray)
 | _ => none
def ro : Nat → Bool := fun f => mem f [113, 123, 161, 178]
def rc : Nat → List Nat
 | _ => []
def fr : Nat → Bool := fun f => mem f []
def flat : Nat → Bool := fun e => mem e []
def lk : Nat → Nat → Option Nat
 | 125, 2 => some 105
 | 128, 1 => some 125
 | _, _ => none
theorem x95 : ∀ e j e1, lk e j = some e1 → ∀ y l, ((pk e).rd (((pk e).wt y).set j (.sl e1 l false))).isSome = true := by
  intro e j e1 h
  unfold lk at h
  split at h
  · obtain rfl := Option.some.inj h; exact fun y l => by kernel_rfl
  · obtain rfl := Option.some.inj h; exact fun y l => by kernel_rfl
  · cases h
noncomputable abbrev E : Env := x53 Tryz.prog S pk xa6 plain byt nums held ro rc fr flat lk
theorem E_ok : E.Ok := xI2 x62 (by kernel_rfl) xz5 (fun t h => by cases h) x42 xY8 (fun e h => by cases h) x95
def ur2 : Con E := w33 E 128
theorem uN4 : ur2.Ok := wG5 (fn := Tryz.f128) (by kernel_rfl) (by kernel_rfl) (by kernel_rfl) (g := 3) rfl (fun n w h0 h1 ht => Tryz.strconv_Itoa n h0 h1 w ht)
def ur3 : Con E := w34 E 136 9 uO0
theorem uN5 : ur3.Ok := wG6 (fn := Tryz.f136) (by kernel_rfl) (by kernel_rfl) (by kernel_rfl) (fun x => x) (fun _ => rfl) (by kernel_rfl) (fun p u => congrArg (fun l => uO0 (l, p.2) u) (List.map_id' p.1).symm) (fun a c sep w => Tryz.strings_Join_none a c sep w) (fun bk o c xs sep w => Tryz.strings_Join bk o c xs sep w)
def uk5 : Con E := uS7 E 189
def base : Spec E.S := (Con.add uk5 (Con.add ur3 (Con.add ur2 ub0)))
inductive P_z0 where
 | start
def wp6 : P_z0 → List Bool
 | .start => []
def x84 : P_z0 → St E.S
 | .start => st0 24 [] []
abbrev R_z0 : Type := (((List ua3) × Unit) × Unit)
def vQ0 : Res E ((List ua3) × Unit) Unit := { rows := [], flat := [], keep := 0, done := [0], rl := (.cons (Rd.sl 103 true) .nil), rb := .nil }
def u45 : P_z0 → Option R_z0
 | .start =>
  some ((([(⟨(⟨#[77, 97, 121, 98, 101]⟩ : ByteArray), ([(⟨#[97]⟩ : ByteArray)] : List ByteArray), ([(⟨(⟨#[78, 111, 110, 101]⟩ : ByteArray), []⟩ : ua1), (⟨(⟨#[83, 111, 109, 101]⟩ : ByteArray), ([(⟨(⟨#[118, 97, 108, 117, 101]⟩ : ByteArray), (⟨(0 : Int), (0 : Int), (⟨#[97]⟩ : ByteArray), []⟩ : ua0)⟩ : ua6)] : List ua6)⟩ : ua1)] : List ua1)⟩ : ua3), (⟨(⟨#[80, 97, 105, 114]⟩ : ByteArray), ([(⟨#[97]⟩ : ByteArray), (⟨#[98]⟩ : ByteArray)] : List ByteArray), ([(⟨(⟨#[80, 97, 105, 114]⟩ : ByteArray), ([(⟨(⟨#[108, 101, 102, 116]⟩ : ByteArray), (⟨(0 : Int), (0 : Int), (⟨#[97]⟩ : ByteArray), []⟩ : ua0)⟩ : ua6), (⟨(⟨#[114, 105, 103, 104, 116]⟩ : ByteArray), (⟨(0 : Int), (0 : Int), (⟨#[98]⟩ : ByteArray), []⟩ : ua0)⟩ : ua6)] : List ua6)⟩ : ua1)] : List ua1)⟩ : ua3), (⟨(⟨#[67, 111, 108, 111, 114]⟩ : ByteArray), [], ([(⟨(⟨#[82, 101, 100]⟩ : ByteArray), []⟩ : ua1), (⟨(⟨#[71, 114, 101, 101, 110]⟩ : ByteArray), []⟩ : ua1), (⟨(⟨#[66, 108, 117, 101]⟩ : ByteArray), []⟩ : ua1)] : List ua1)⟩ : ua3)] : List ua3), ()), ())
def xR3 : List (Plc E P_z0) := []
theorem xk9 : All (ub7 24 0 wp6 x84) xR3 := trivial
def w25 : Code := Tryz.f57.body.getD .skip
def xh2 : Spec E.S := ub0
theorem wQ8 : ua9 E xh2 := ua7
theorem xW9 : ∀ pt r, u45 pt = some r → Good E Tryz.f57 w25 0 (vQ0.av r) (vQ0.bx r) (wp6 pt) (x84 pt) := by
 intro pt r hr
 cases pt <;> exact ua8 (spec := xh2) (wr := (mkWr [] [])) (l := xR3) (z := 24) (p := vQ0) (run' := fun _ => none) E_ok xk9.mem rfl wQ8 (fun _ _ h => by cases h) (Eq.trans (by kernel_rfl) hr)
def xL9 : Con E := ⟨57, _, _, .nil, .nil, 0, R_z0, fun a b => u45 (.start), vQ0.av, vQ0.bx⟩
theorem w35 : xL9.Ok := fun a b r h => ub5 (fn := Tryz.f57) (code := w25) E_ok (by kernel_rfl) (by kernel_rfl) (by kernel_rfl) (Nat.le_of_ble_eq_true rfl) (xW9 (.start) r h)
inductive P_z1 where
 | start (n0 : Int)
def wp7 : P_z1 → List Bool
 | .start .. => []
def x85 : P_z1 → St E.S
 | .start n0 => st0 5 [.v (.int .i64 n0)] []
abbrev R_z1 : Type := (((Int × (Int × (ByteArray × (Unit × Unit)))) × Unit) × Unit)
def vQ1 : Res E ((Int × (Int × (ByteArray × (Unit × Unit)))) × Unit) Unit := { rows := [], flat := [], keep := 0, done := [0], rl := (.cons (Rd.agg (.cons (Rd.int .i64) (.cons (Rd.int .i64) (.cons Rd.str (.cons Rd.nl .nil))))) .nil), rb := .nil }
def vR2 : P_z1 → Option R_z1
 | .start n0 =>
  some ((((2 : Int), (n0, ((⟨#[]⟩ : ByteArray), ((), ())))), ()), ())
def xR4 : List (Plc E P_z1) := []
theorem xm0 : All (ub7 5 0 wp7 x85) xR4 := trivial
def w26 : Code := Tryz.f101.body.getD .skip
def xh3 : Spec E.S := ub0
theorem wQ9 : ua9 E xh3 := ua7
theorem xX0 : ∀ pt r, vR2 pt = some r → Good E Tryz.f101 w26 0 (vQ1.av r) (vQ1.bx r) (wp7 pt) (x85 pt) := by
 intro pt r hr
 cases pt <;> exact ua8 (spec := xh3) (wr := (mkWr [] [])) (l := xR4) (z := 5) (p := vQ1) (run' := fun _ => none) E_ok xm0.mem rfl wQ9 (fun _ _ h => by cases h) (Eq.trans (by kernel_rfl) hr)
def xM0 : Con E := ⟨101, _, _, (.cons (Rd.int .i64).w .nil), .nil, 0, R_z1, fun a b => vR2 (.start a.1), vQ1.av, vQ1.bx⟩
theorem w42 : xM0.Ok := fun a b r h => ub5 (fn := Tryz.f101) (code := w26) E_ok (by kernel_rfl) (by kernel_rfl) (by kernel_rfl) (Nat.le_of_ble_eq_true rfl) (xX0 (.start a.1) r h)
inductive P_z2 where
 | start (name0 : ByteArray) (parts1 : (List ua0))
def wp8 : P_z2 → List Bool
 | .start .. => []
def x86 : P_z2 → St E.S
 | .start name0 parts1 => st0 8 [.v (.string name0), .sl 25 parts1 false] []
abbrev R_z2 : Type := (((Int × (Int × (ByteArray × ((List ua0) × Unit)))) × Unit) × Unit)
def vQ2 : Res E ((Int × (Int × (ByteArray × ((List ua0) × Unit)))) × Unit) Unit := { rows := [], flat := [], keep := 0, done := [0], rl := (.cons (Rd.agg (.cons (Rd.int .i64) (.cons (Rd.int .i64) (.cons Rd.str (.cons (Rd.sl 25 false) .nil))))) .nil), rb := .nil }
def uD9 : P_z2 → Option R_z2
 | .start name0 parts1 =>
  some ((((1 : Int), ((0 : Int), (name0, (parts1, ())))), ()), ())
def xR5 : List (Plc E P_z2) := []
theorem xn0 : All (ub7 8 0 wp8 x86) xR5 := trivial
def w27 : Code := Tryz.f58.body.getD .skip
def xh4 : Spec E.S := ub0
theorem wR0 : ua9 E xh4 := ua7
theorem xX1 : ∀ pt r, uD9 pt = some r → Good E Tryz.f58 w27 0 (vQ2.av r) (vQ2.bx r) (wp8 pt) (x86 pt) := by
 intro pt r hr
 cases pt <;> exact ua8 (spec := xh4) (wr := (mkWr [] [])) (l := xR5) (z := 8) (p := vQ2) (run' := fun _ => none) E_ok xn0.mem rfl wR0 (fun _ _ h => by cases h) (Eq.trans (by kernel_rfl) hr)
def w43 : Con E := ⟨58, _, _, (.cons Rd.str.w (.cons (Rw.sl 25) .nil)), .nil, 0, R_z2, fun a b => uD9 (.start a.1 a.2.1), vQ2.av, vQ2.bx⟩
theorem vJ4 : w43.Ok := fun a b r h => ub5 (fn := Tryz.f58) (code := w27) E_ok (by kernel_rfl) (by kernel_rfl) (by kernel_rfl) (Nat.le_of_ble_eq_true rfl) (xX1 (.start a.1 a.2.1) r h)
inductive P_z3 where
 | start (n0 : Int)
def wp9 : P_z3 → List Bool
 | .start .. => []
def x87 : P_z3 → St E.S
 | .start n0 => st0 7 [.v (.int .i64 n0)] []
abbrev R_z3 : Type := (((Int × (Int × (ByteArray × ((List ua0) × Unit)))) × Unit) × Unit)
def vQ3 : Res E ((Int × (Int × (ByteArray × ((List ua0) × Unit)))) × Unit) Unit := { rows := [], flat := [], keep := 0, done := [0], rl := (.cons (Rd.agg (.cons (Rd.int .i64) (.cons (Rd.int .i64) (.cons Rd.str (.cons (Rd.sl 25 false) .nil))))) .nil), rb := .nil }
def vi7 : P_z3 → Option R_z3
 | .start n0 =>
  (vR2 (.start n0)) >>= fun t1 =>
  (uD9 (.start (⟨#[66, 105, 116]⟩ : ByteArray) ([(⟨t1.1.1.1, t1.1.1.2.1, t1.1.1.2.2.1, []⟩ : ua0)] : List ua0))) >>= fun t2 =>
  some (((t2.1.1.1, (t2.1.1.2.1, (t2.1.1.2.2.1, (t2.1.1.2.2.2.1, ())))), ()), ())
def xR6 : List (Plc E P_z3) := []
theorem xo1 : All (ub7 7 0 wp9 x87) xR6 := trivial
def w28 : Code := Tryz.f59.body.getD .skip
def xh5 : Spec E.S := (Con.add w43 (Con.add xM0 ub0))
theorem wR1 : ua9 E xh5 := (Con.add_ok vJ4 (Con.add_ok w42 ua7))
theorem xX2 : ∀ pt r, vi7 pt = some r → Good E Tryz.f59 w28 0 (vQ3.av r) (vQ3.bx r) (wp9 pt) (x87 pt) := by
 intro pt r hr
 cases pt <;> exact ua8 (spec := xh5) (wr := (mkWr [] [])) (l := xR6) (z := 7) (p := vQ3) (run' := fun _ => none) E_ok xo1.mem rfl wR1 (fun _ _ h => by cases h) (Eq.trans (by kernel_rfl) hr)
def xM1 : Con E := ⟨59, _, _, (.cons (Rd.int .i64).w .nil), .nil, 0, R_z3, fun a b => vi7 (.start a.1), vQ3.av, vQ3.bx⟩
theorem w59 : xM1.Ok := fun a b r h => ub5 (fn := Tryz.f59) (code := w28) E_ok (by kernel_rfl) (by kernel_rfl) (by kernel_rfl) (Nat.le_of_ble_eq_true rfl) (xX2 (.start a.1) r h)
inductive P_z4 where
 | start (s0 : (List ByteArray))
def wq0 : P_z4 → List Bool
 | .start .. => []
def x88 : P_z4 → St E.S
 | .start s0 => st0 9 [.sl 9 s0 false] []
abbrev R_z4 : Type := (((List ByteArray) × Unit) × Unit)
def vQ4 : Res E ((List ByteArray) × Unit) Unit := { rows := [], flat := [], keep := 0, done := [0], rl := (.cons (Rd.sl 9 true) .nil), rb := .nil }
def u46 : P_z4 → Option R_z4
 | .start s0 =>
  (bif decide ((List.length s0 : Int) = (List.length s0 : Int)) then span (List.length s0) (0 : Int) (List.length s0 : Int) else none) >>= fun t1 =>
  some ((cut s0 t1, ()), ())
def xR7 : List (Plc E P_z4) := []
theorem xp2 : All (ub7 9 0 wq0 x88) xR7 := trivial
def w29 : Code := Tryz.f78.body.getD .skip
def xh6 : Spec E.S := ub0
theorem wR2 : ua9 E xh6 := ua7
theorem xX3 : ∀ pt r, u46 pt = some r → Good E Tryz.f78 w29 0 (vQ4.av r) (vQ4.bx r) (wq0 pt) (x88 pt) := by
 intro pt r hr
 cases pt <;> exact ua8 (spec := xh6) (wr := (mkWr [] [])) (l := xR7) (z := 9) (p := vQ4) (run' := fun _ => none) E_ok xp2.mem rfl wR2 (fun _ _ h => by cases h) (Eq.trans (by kernel_rfl) hr)
def xM2 : Con E := ⟨78, _, _, (.cons (Rw.sl 9) .nil), .nil, 0, R_z4, fun a b => u46 (.start a.1), vQ4.av, vQ4.bx⟩
theorem w65 : xM2.Ok := fun a b r h => ub5 (fn := Tryz.f78) (code := w29) E_ok (by kernel_rfl) (by kernel_rfl) (by kernel_rfl) (Nat.le_of_ble_eq_true rfl) (xX3 (.start a.1) r h)
inductive P_z5 where
 | start (n0 : Int) (lo1 : Int) (hi2 : Int)
def wq1 : P_z5 → List Bool
 | .start .. => []
def x89 : P_z5 → St E.S
 | .start n0 lo1 hi2 => st0 15 [.v (.int .i64 n0), .v (.int .i64 lo1), .v (.int .i64 hi2)] []
abbrev R_z5 : Type := ((Bool × Unit) × Unit)
def vQ5 : Res E (Bool × Unit) Unit := { rows := [], flat := [], keep := 0, done := [0], rl := (.cons Rd.bool .nil), rb := .nil }
def uj9 : P_z5 → Option R_z5
 | .start n0 lo1 hi2 =>
  if (decide (lo1 ≤ n0)) = true then
   some ((decide (n0 ≤ hi2), ()), ())
  else
   some ((false, ()), ())
def xR8 : List (Plc E P_z5) := []
theorem xq3 : All (ub7 15 0 wq1 x89) xR8 := trivial
def w30 : Code := Tryz.f70.body.getD .skip
def xh7 : Spec E.S := ub0
theorem wR3 : ua9 E xh7 := ua7
theorem xX4 : ∀ pt r, uj9 pt = some r → Good E Tryz.f70 w30 0 (vQ5.av r) (vQ5.bx r) (wq1 pt) (x89 pt) := by
 intro pt r hr
 cases pt <;> exact ua8 (spec := xh7) (wr := (mkWr [] [])) (l := xR8) (z := 15) (p := vQ5) (run' := fun _ => none) E_ok xq3.mem rfl wR3 (fun _ _ h => by cases h) (Eq.trans (by kernel_rfl) hr)
def uS8 : Con E := ⟨70, _, _, (.cons (Rd.int .i64).w (.cons (Rd.int .i64).w (.cons (Rd.int .i64).w .nil))), .nil, 0, R_z5, fun a b => uj9 (.start a.1 a.2.1 a.2.2.1), vQ5.av, vQ5.bx⟩
theorem uq5 : uS8.Ok := fun a b r h => ub5 (fn := Tryz.f70) (code := w30) E_ok (by kernel_rfl) (by kernel_rfl) (by kernel_rfl) (Nat.le_of_ble_eq_true rfl) (xX4 (.start a.1 a.2.1 a.2.2.1) r h)
inductive P_z6 where
 | start (s0 : ByteArray)
 | p52 (s0 : ByteArray) (s7 : (List Int)) (s8 : Int) (s9 : Int)
 | p3379 (s0 : ByteArray) (i3 : Int) (c4 : Int) (letter5 : Bool) (s7 : (List Int)) (s8 : Int) (s9 : Int)
def vB7 : P_z6 → List Bool
 | .start .. => []
 | .p52 .. => [false, false, true, false, true]
 | .p3379 .. => [true, true, false, false, true, true, false, false, true, false, true]
def x13 : P_z6 → St E.S
 | .start s0 => st0 50 [.v (.string s0)] []
 | .p52 s0 s7 s8 s9 => mkSt 50 [0, 7, 8, 9] [.v (.string s0), .sl 5 s7 false, .v (.int .i64 s8), .v (.int .i64 s9)] []
 | .p3379 s0 i3 c4 letter5 s7 s8 s9 => mkSt 50 [0, 3, 4, 5, 7, 8, 9] [.v (.string s0), .v (.int .i64 i3), .v (.int .u8 c4), .v (.bool letter5), .sl 5 s7 false, .v (.int .i64 s8), .v (.int .i64 s9)] []
abbrev R_z6 : Type := ((Bool × Unit) × Unit)
def vg5 : Res E (Bool × Unit) Unit := { rows := [], flat := [], keep := 0, done := [0], rl := (.cons Rd.bool .nil), rb := .nil }
def ug3 : P_z6 → Option R_z6
 | .start s0 =>
  ug3 (.p52 s0 (ub8 s0) (List.length (ub8 s0) : Int) (0 : Int))
 | .p52 s0 s7 s8 s9 =>
  if (decide (s9 < s8)) = true then
   (idx s7 s9) >>= fun t1 =>
   if (decide ((97 : Int) ≤ t1)) = true then
    if (decide (t1 ≤ (122 : Int))) = true then
     ug3 (.p3379 s0 s9 t1 true s7 s8 s9)
    else
     if (decide ((65 : Int) ≤ t1)) = true then
      ug3 (.p3379 s0 s9 t1 (decide (t1 ≤ (90 : Int))) s7 s8 s9)
     else
      ug3 (.p3379 s0 s9 t1 false s7 s8 s9)
   else
    if (decide ((65 : Int) ≤ t1)) = true then
     ug3 (.p3379 s0 s9 t1 (decide (t1 ≤ (90 : Int))) s7 s8 s9)
    else
     ug3 (.p3379 s0 s9 t1 false s7 s8 s9)
  else
   (uj9 (.start (s0.size : Int) (1 : Int) (16 : Int))) >>= fun t2 =>
   some ((t2.1.1, ()), ())
 | .p3379 s0 i3 c4 letter5 s7 s8 s9 =>
  if (!letter5) = true then
   if (i3 == (0 : Int)) = true then
    some ((false, ()), ())
   else
    if (c4 != (95 : Int)) = true then
     if (decide (c4 < (48 : Int))) = true then
      some ((false, ()), ())
     else
      if (decide (c4 > (57 : Int))) = true then
       some ((false, ()), ())
      else
       ug3 (.p52 s0 s7 s8 (IntKind.wrap .i64 (s9 + (1 : Int))))
    else
     ug3 (.p52 s0 s7 s8 (IntKind.wrap .i64 (s9 + (1 : Int))))
  else
   ug3 (.p52 s0 s7 s8 (IntKind.wrap .i64 (s9 + (1 : Int))))
 partial_fixpoint
def xR9 : List (Plc E P_z6) := [⟨52, [false, false, true, false, true], { slots := [0, 7, 8, 9], rows := [], flat := [], keep := 0 }, _, _, (.cons Rd.str (.cons (Rd.sl 5 false) (.cons (Rd.int .i64) (.cons (Rd.int .i64) .nil)))), .nil, fun a b => .p52 a.1 a.2.1 a.2.2.1 a.2.2.2.1⟩,
 ⟨3379, [true, true, false, false, true, true, false, false, true, false, true], { slots := [0, 3, 4, 5, 7, 8, 9], rows := [], flat := [], keep := 0 }, _, _, (.cons Rd.str (.cons (Rd.int .i64) (.cons (Rd.int .u8) (.cons Rd.bool (.cons (Rd.sl 5 false) (.cons (Rd.int .i64) (.cons (Rd.int .i64) .nil))))))), .nil, fun a b => .p3379 a.1 a.2.1 a.2.2.1 a.2.2.2.1 a.2.2.2.2.1 a.2.2.2.2.2.1 a.2.2.2.2.2.2.1⟩]
theorem xr4 : All (ub7 50 0 vB7 x13) xR9 := ⟨⟨rfl, rfl, fun _ _ => rfl, fun _ _ => rfl⟩, ⟨⟨rfl, rfl, fun _ _ => rfl, fun _ _ => rfl⟩, trivial⟩⟩
def vX0 : Code := Tryz.f129.body.getD .skip
def xh8 : Spec E.S := (Con.add uS8 ub0)
theorem wR4 : ua9 E xh8 := (Con.add_ok uq5 ua7)
theorem xX5 : ∀ pt r, ug3 pt = some r → Good E Tryz.f129 vX0 0 (vg5.av r) (vg5.bx r) (vB7 pt) (x13 pt) := by
 refine ug3.partial_correctness (fun pt r => Good E Tryz.f129 vX0 0 (vg5.av r) (vg5.bx r) (vB7 pt) (x13 pt)) ?_
 intro run' ih pt r hr
 cases pt <;> exact ua8 (spec := xh8) (wr := (mkWr [] [])) (l := xR9) (z := 50) (p := vg5) E_ok xr4.mem rfl wR4 ih (Eq.trans (by kernel_rfl) hr)
def w71 : Con E := ⟨129, _, _, (.cons Rd.str.w .nil), .nil, 0, R_z6, fun a b => ug3 (.start a.1), vg5.av, vg5.bx⟩
theorem vJ5 : w71.Ok := fun a b r h => ub5 (fn := Tryz.f129) (code := vX0) E_ok (by kernel_rfl) (by kernel_rfl) (by kernel_rfl) (Nat.le_of_ble_eq_true rfl) (xX5 (.start a.1) r h)
inductive P_z7 where
 | start (is0 : Bool) (e1 : Int)
def wq2 : P_z7 → List Bool
 | .start .. => []
def x90 : P_z7 → St E.S
 | .start is0 e1 => st0 7 [.v (.bool is0), .v (.int .i64 e1)] []
abbrev R_z7 : Type := ((Int × Unit) × Unit)
def vQ6 : Res E (Int × Unit) Unit := { rows := [], flat := [], keep := 0, done := [0], rl := (.cons (Rd.int .i64) .nil), rb := .nil }
def uc4 : P_z7 → Option R_z7
 | .start is0 e1 =>
  if is0 = true then
   some (((0 : Int), ()), ())
  else
   some ((e1, ()), ())
def xS0 : List (Plc E P_z7) := []
theorem xs6 : All (ub7 7 0 wq2 x90) xS0 := trivial
def w31 : Code := Tryz.f111.body.getD .skip
def xh9 : Spec E.S := ub0
theorem wR5 : ua9 E xh9 := ua7
theorem xX6 : ∀ pt r, uc4 pt = some r → Good E Tryz.f111 w31 0 (vQ6.av r) (vQ6.bx r) (wq2 pt) (x90 pt) := by
 intro pt r hr
 cases pt <;> exact ua8 (spec := xh9) (wr := (mkWr [] [])) (l := xS0) (z := 7) (p := vQ6) (run' := fun _ => none) E_ok xs6.mem rfl wR5 (fun _ _ h => by cases h) (Eq.trans (by kernel_rfl) hr)
def uS9 : Con E := ⟨111, _, _, (.cons Rd.bool.w (.cons (Rd.int .i64).w .nil)), .nil, 0, R_z7, fun a b => uc4 (.start a.1 a.2.1), vQ6.av, vQ6.bx⟩
theorem uq6 : uS9.Ok := fun a b r h => ub5 (fn := Tryz.f111) (code := w31) E_ok (by kernel_rfl) (by kernel_rfl) (by kernel_rfl) (Nat.le_of_ble_eq_true rfl) (xX6 (.start a.1 a.2.1) r h)
inductive P_z8 where
 | start (s0 : (List ByteArray)) (v1 : ByteArray)
 | p52 (s0 : (List ByteArray)) (v1 : ByteArray) (s7 : Int) (s8 : Int)
def vB8 : P_z8 → List Bool
 | .start .. => []
 | .p52 .. => [false, false, true, false, true]
def x14 : P_z8 → St E.S
 | .start s0 v1 => st0 19 [.sl 9 s0 false, .v (.string v1)] []
 | .p52 s0 v1 s7 s8 => mkSt 19 [0, 1, 7, 8] [.sl 9 s0 false, .v (.string v1), .v (.int .i64 s7), .v (.int .i64 s8)] []
abbrev R_z8 : Type := ((Int × Unit) × Unit)
def vh1 : Res E (Int × Unit) Unit := { rows := [], flat := [], keep := 0, done := [0], rl := (.cons (Rd.int .i64) .nil), rb := .nil }
def uv1 : P_z8 → Option R_z8
 | .start s0 v1 =>
  uv1 (.p52 s0 v1 (List.length s0 : Int) (0 : Int))
 | .p52 s0 v1 s7 s8 =>
  if (decide (s8 < s7)) = true then
   (idx s0 s8) >>= fun t1 =>
   if (seq v1 t1) = true then
    some ((s8, ()), ())
   else
    uv1 (.p52 s0 v1 s7 (IntKind.wrap .i64 (s8 + (1 : Int))))
  else
   some (((-1 : Int), ()), ())
 partial_fixpoint
def xS1 : List (Plc E P_z8) := [⟨52, [false, false, true, false, true], { slots := [0, 1, 7, 8], rows := [], flat := [], keep := 0 }, _, _, (.cons (Rd.sl 9 false) (.cons Rd.str (.cons (Rd.int .i64) (.cons (Rd.int .i64) .nil)))), .nil, fun a b => .p52 a.1 a.2.1 a.2.2.1 a.2.2.2.1⟩]
theorem xt7 : All (ub7 19 0 vB8 x14) xS1 := ⟨⟨rfl, rfl, fun _ _ => rfl, fun _ _ => rfl⟩, trivial⟩
def vX1 : Code := Tryz.f163.body.getD .skip
def xi0 : Spec E.S := ub0
theorem wR6 : ua9 E xi0 := ua7
theorem xX7 : ∀ pt r, uv1 pt = some r → Good E Tryz.f163 vX1 0 (vh1.av r) (vh1.bx r) (vB8 pt) (x14 pt) := by
 refine uv1.partial_correctness (fun pt r => Good E Tryz.f163 vX1 0 (vh1.av r) (vh1.bx r) (vB8 pt) (x14 pt)) ?_
 intro run' ih pt r hr
 cases pt <;> exact ua8 (spec := xi0) (wr := (mkWr [] [])) (l := xS1) (z := 19) (p := vh1) E_ok xt7.mem rfl wR6 ih (Eq.trans (by kernel_rfl) hr)
def w84 : Con E := ⟨163, _, _, (.cons (Rw.sl 9) (.cons Rd.str.w .nil)), .nil, 0, R_z8, fun a b => uv1 (.start a.1 a.2.1), vh1.av, vh1.bx⟩
theorem vJ6 : w84.Ok := fun a b r h => ub5 (fn := Tryz.f163) (code := vX1) E_ok (by kernel_rfl) (by kernel_rfl) (by kernel_rfl) (Nat.le_of_ble_eq_true rfl) (xX7 (.start a.1 a.2.1) r h)
inductive P_z9 where
 | start (s0 : (List ByteArray)) (v1 : ByteArray)
def wq3 : P_z9 → List Bool
 | .start .. => []
def x91 : P_z9 → St E.S
 | .start s0 v1 => st0 9 [.sl 9 s0 false, .v (.string v1)] []
abbrev R_z9 : Type := ((Bool × Unit) × Unit)
def vQ7 : Res E (Bool × Unit) Unit := { rows := [], flat := [], keep := 0, done := [0], rl := (.cons Rd.bool .nil), rb := .nil }
def u47 : P_z9 → Option R_z9
 | .start s0 v1 =>
  (uv1 (.start s0 v1)) >>= fun t1 =>
  some ((decide (t1.1.1 ≥ (0 : Int)), ()), ())
def xS2 : List (Plc E P_z9) := []
theorem xu8 : All (ub7 9 0 wq3 x91) xS2 := trivial
def w32 : Code := Tryz.f144.body.getD .skip
def xi1 : Spec E.S := (Con.add w84 ub0)
theorem wR7 : ua9 E xi1 := (Con.add_ok vJ6 ua7)
theorem xX8 : ∀ pt r, u47 pt = some r → Good E Tryz.f144 w32 0 (vQ7.av r) (vQ7.bx r) (wq3 pt) (x91 pt) := by
 intro pt r hr
 cases pt <;> exact ua8 (spec := xi1) (wr := (mkWr [] [])) (l := xS2) (z := 9) (p := vQ7) (run' := fun _ => none) E_ok xu8.mem rfl wR7 (fun _ _ h => by cases h) (Eq.trans (by kernel_rfl) hr)
def w90 : Con E := ⟨144, _, _, (.cons (Rw.sl 9) (.cons Rd.str.w .nil)), .nil, 0, R_z9, fun a b => u47 (.start a.1 a.2.1), vQ7.av, vQ7.bx⟩
theorem vJ7 : w90.Ok := fun a b r h => ub5 (fn := Tryz.f144) (code := w32) E_ok (by kernel_rfl) (by kernel_rfl) (by kernel_rfl) (Nat.le_of_ble_eq_true rfl) (xX8 (.start a.1 a.2.1) r h)
inductive wC0 where
 | start (l0 : (List Int))
 | p52 (s5 : (List Int)) (s6 : Int) (s7 : Int)
def vb7 : wC0 → List Bool
 | .start .. => []
 | .p52 .. => [false, false, true, false, true]
def xi2 : wC0 → St E.S
 | .start l0 => st0 15 [.sl 29 l0 false] []
 | .p52 s5 s6 s7 => mkSt 15 [5, 6, 7] [.sl 29 s5 false, .v (.int .i64 s6), .v (.int .i64 s7)] []
abbrev xS6 : Type := ((Int × Unit) × Unit)
def uO5 : Res E (Int × Unit) Unit := { rows := [], flat := [], keep := 0, done := [0], rl := (.cons (Rd.int .i64) .nil), rb := .nil }
def uc9 : wC0 → Option xS6
 | .start l0 =>
  uc9 (.p52 l0 (List.length l0 : Int) (0 : Int))
 | .p52 s5 s6 s7 =>
  if (decide (s7 < s6)) = true then
   (idx s5 s7) >>= fun t1 =>
   if (t1 != (0 : Int)) = true then
    some ((t1, ()), ())
   else
    uc9 (.p52 s5 s6 (IntKind.wrap .i64 (s7 + (1 : Int))))
  else
   some (((0 : Int), ()), ())
 partial_fixpoint
def xl0 : List (Plc E wC0) := [⟨52, [false, false, true, false, true], { slots := [5, 6, 7], rows := [], flat := [], keep := 0 }, _, _, (.cons (Rd.sl 29 false) (.cons (Rd.int .i64) (.cons (Rd.int .i64) .nil))), .nil, fun a b => .p52 a.1 a.2.1 a.2.2.1⟩]
theorem wR9 : All (ub7 15 0 vb7 xi2) xl0 := ⟨⟨rfl, rfl, fun _ _ => rfl, fun _ _ => rfl⟩, trivial⟩
def vx2 : Code := Tryz.f69.body.getD .skip
def wr5 : Spec E.S := ub0
theorem v87 : ua9 E wr5 := ua7
theorem xz6 : ∀ pt r, uc9 pt = some r → Good E Tryz.f69 vx2 0 (uO5.av r) (uO5.bx r) (vb7 pt) (xi2 pt) := by
 refine uc9.partial_correctness (fun pt r => Good E Tryz.f69 vx2 0 (uO5.av r) (uO5.bx r) (vb7 pt) (xi2 pt)) ?_
 intro run' ih pt r hr
 cases pt <;> exact ua8 (spec := wr5) (wr := (mkWr [] [])) (l := xl0) (z := 15) (p := uO5) E_ok wR9.mem rfl v87 ih (Eq.trans (by kernel_rfl) hr)
def uE4 : Con E := ⟨69, _, _, (.cons (Rw.sl 29) .nil), .nil, 0, xS6, fun a b => uc9 (.start a.1), uO5.av, uO5.bx⟩
theorem un3 : uE4.Ok := fun a b r h => ub5 (fn := Tryz.f69) (code := vx2) E_ok (by kernel_rfl) (by kernel_rfl) (by kernel_rfl) (Nat.le_of_ble_eq_true rfl) (xz6 (.start a.1) r h)
inductive wC1 where
 | start (name0 : ByteArray) (known1 : (List ByteArray))
def vM0 : wC1 → List Bool
 | .start .. => []
def xN8 : wC1 → St E.S
 | .start name0 known1 => st0 15 [.v (.string name0), .sl 9 known1 false] []
abbrev xS7 : Type := ((Int × Unit) × Unit)
def ve3 : Res E (Int × Unit) Unit := { rows := [], flat := [], keep := 0, done := [0], rl := (.cons (Rd.int .i64) .nil), rb := .nil }
def ux4 : wC1 → Option xS7
 | .start name0 known1 =>
  (ug3 (.start name0)) >>= fun t1 =>
  (uc4 (.start t1.1.1 (4 : Int))) >>= fun t2 =>
  (u47 (.start known1 name0)) >>= fun t3 =>
  (uc4 (.start (!t3.1.1) (5 : Int))) >>= fun t4 =>
  (uc9 (.start ([t2.1.1, t4.1.1] : List Int))) >>= fun t5 =>
  some ((t5.1.1, ()), ())
def xl1 : List (Plc E wC1) := []
theorem wS0 : All (ub7 15 0 vM0 xN8) xl1 := trivial
def wk4 : Code := Tryz.f110.body.getD .skip
def wr6 : Spec E.S := (Con.add uE4 (Con.add w90 (Con.add uS9 (Con.add w71 ub0))))
theorem v88 : ua9 E wr6 := (Con.add_ok un3 (Con.add_ok vJ7 (Con.add_ok uq6 (Con.add_ok vJ5 ua7))))
theorem xz7 : ∀ pt r, ux4 pt = some r → Good E Tryz.f110 wk4 0 (ve3.av r) (ve3.bx r) (vM0 pt) (xN8 pt) := by
 intro pt r hr
 cases pt <;> exact ua8 (spec := wr6) (wr := (mkWr [] [])) (l := xl1) (z := 15) (p := ve3) (run' := fun _ => none) E_ok wS0.mem rfl v88 (fun _ _ h => by cases h) (Eq.trans (by kernel_rfl) hr)
def u97 : Con E := ⟨110, _, _, (.cons Rd.str.w (.cons (Rw.sl 9) .nil)), .nil, 0, xS7, fun a b => ux4 (.start a.1 a.2.1), ve3.av, ve3.bx⟩
theorem uK6 : u97.Ok := fun a b r h => ub5 (fn := Tryz.f110) (code := wk4) E_ok (by kernel_rfl) (by kernel_rfl) (by kernel_rfl) (Nat.le_of_ble_eq_true rfl) (xz7 (.start a.1 a.2.1) r h)
inductive wC2 where
 | start (i0 : Int) (p1 : ByteArray) (s2 : ua3)
def vM1 : wC2 → List Bool
 | .start .. => []
def xN9 : wC2 → St E.S
 | .start i0 p1 s2 => st0 12 [.v (.int .i64 i0), .v (.string p1), .el 103 s2 0] []
abbrev xS8 : Type := ((Int × Unit) × Unit)
def ve4 : Res E (Int × Unit) Unit := { rows := [], flat := [], keep := 0, done := [0], rl := (.cons (Rd.int .i64) .nil), rb := .nil }
def u16 : wC2 → Option xS8
 | .start i0 p1 s2 =>
  (span (List.length s2.Params) (0 : Int) i0) >>= fun t1 =>
  (ux4 (.start p1 (cut s2.Params t1))) >>= fun t2 =>
  some ((t2.1.1, ()), ())
def xl2 : List (Plc E wC2) := []
theorem wS1 : All (ub7 12 0 vM1 xN9) xl2 := trivial
def wk5 : Code := Tryz.f113.body.getD .skip
def wr7 : Spec E.S := (Con.add u97 ub0)
theorem v89 : ua9 E wr7 := (Con.add_ok uK6 ua7)
theorem xz8 : ∀ pt r, u16 pt = some r → Good E Tryz.f113 wk5 0 (ve4.av r) (ve4.bx r) (vM1 pt) (xN9 pt) := by
 intro pt r hr
 cases pt <;> exact ua8 (spec := wr7) (wr := (mkWr [] [])) (l := xl2) (z := 12) (p := ve4) (run' := fun _ => none) E_ok wS1.mem rfl v89 (fun _ _ h => by cases h) (Eq.trans (by kernel_rfl) hr)
def w36 : Con E := ⟨113, _, _, (.cons (Rd.int .i64).w (.cons Rd.str.w (.cons (Rd.el 103 0).w .nil))), .nil, 0, xS8, fun a b => u16 (.start a.1 a.2.1 a.2.2.1), ve4.av, ve4.bx⟩
theorem wG7 : w36.Ok := fun a b r h => ub5 (fn := Tryz.f113) (code := wk5) E_ok (by kernel_rfl) (by kernel_rfl) (by kernel_rfl) (Nat.le_of_ble_eq_true rfl) (xz8 (.start a.1 a.2.1 a.2.2.1) r h)
inductive wC3 where
 | start (l0 : (List ByteArray)) (C0 : ByteArray) (C1 : (List ByteArray)) (C2 : (List ua1))
 | p52 (s9 : (List ByteArray)) (s10 : Int) (s11 : Int) (C0 : ByteArray) (C1 : (List ByteArray)) (C2 : (List ua1))
def vb8 : wC3 → List Bool
 | .start .. => []
 | .p52 .. => [false, false, true, false, true]
def xi5 : wC3 → St E.S
 | .start l0 C0 C1 C2 => st0 25 [.sl 9 l0 false, .fn 113 [.bp 0 0]] [.var 103 [.v (.string C0), .sl 9 C1 false, .sl 56 C2 false]]
 | .p52 s9 s10 s11 C0 C1 C2 => mkSt 25 [1, 9, 10, 11] [.fn 113 [.bp 0 0], .sl 9 s9 false, .v (.int .i64 s10), .v (.int .i64 s11)] [.var 103 [.v (.string C0), .sl 9 C1 false, .sl 56 C2 false]]
abbrev xS9 : Type := ((Int × (Int × Unit)) × ((ByteArray × ((List ByteArray) × ((List ua1) × Unit))) × Unit))
def uO6 : Res E (Int × (Int × Unit)) ((ByteArray × ((List ByteArray) × ((List ua1) × Unit))) × Unit) := { rows := [], flat := [], keep := 1, done := [0, 1], rl := (.cons (Rd.int .i64) (.cons (Rd.int .i64) .nil)), rb := (.cons (.var 103 (.cons Rd.str (.cons (Rd.sl 9 false) (.cons (Rd.sl 56 false) .nil)))) .nil) }
def um3 : wC3 → Option xS9
 | .start l0 C0 C1 C2 =>
  um3 (.p52 l0 (List.length l0 : Int) (0 : Int) C0 C1 C2)
 | .p52 s9 s10 s11 C0 C1 C2 =>
  if (decide (s11 < s10)) = true then
   (idx s9 s11) >>= fun t1 =>
   (u16 (.start s11 t1 (⟨C0, C1, C2⟩ : ua3))) >>= fun t2 =>
   if (t2.1.1 != (0 : Int)) = true then
    some ((s11, (t2.1.1, ())), ((C0, (C1, (C2, ()))), ()))
   else
    um3 (.p52 s9 s10 (IntKind.wrap .i64 (s11 + (1 : Int))) C0 C1 C2)
  else
   some (((0 : Int), ((0 : Int), ())), ((C0, (C1, (C2, ()))), ()))
 partial_fixpoint
def xl3 : List (Plc E wC3) := [⟨52, [false, false, true, false, true], { slots := [1, 9, 10, 11], rows := [], flat := [], keep := 1 }, _, _, (.cons (Rd.fn 113 (.cons (Rd.bp 0 0) .nil)) (.cons (Rd.sl 9 false) (.cons (Rd.int .i64) (.cons (Rd.int .i64) .nil)))), (.cons (.var 103 (.cons Rd.str (.cons (Rd.sl 9 false) (.cons (Rd.sl 56 false) .nil)))) .nil), fun a b => .p52 a.2.1 a.2.2.1 a.2.2.2.1 b.1.1 b.1.2.1 b.1.2.2.1⟩]
theorem wS2 : All (ub7 25 1 vb8 xi5) xl3 := ⟨⟨rfl, rfl, fun _ _ => rfl, fun _ _ => rfl⟩, trivial⟩
def vx3 : Code := Tryz.f112.body.getD .skip
def wr8 : Spec E.S := (Con.add w36 ub0)
theorem v90 : ua9 E wr8 := (Con.add_ok wG7 ua7)
theorem xz9 : ∀ pt r, um3 pt = some r → Good E Tryz.f112 vx3 1 (uO6.av r) (uO6.bx r) (vb8 pt) (xi5 pt) := by
 refine um3.partial_correctness (fun pt r => Good E Tryz.f112 vx3 1 (uO6.av r) (uO6.bx r) (vb8 pt) (xi5 pt)) ?_
 intro run' ih pt r hr
 cases pt <;> exact ua8 (spec := wr8) (wr := (mkWr [] [])) (l := xl3) (z := 25) (p := uO6) E_ok wS2.mem rfl v90 ih (Eq.trans (by kernel_rfl) hr)
def w37 : Con E := ⟨112, _, _, (.cons (Rw.sl 9) (.cons (Rd.fn 113 (.cons (Rd.bp 0 0) .nil)).w .nil)), (.cons (.var 103 (.cons Rd.str (.cons (Rd.sl 9 false) (.cons (Rd.sl 56 false) .nil)))) .nil), 1, xS9, fun a b => um3 (.start a.1 b.1.1 b.1.2.1 b.1.2.2.1), uO6.av, uO6.bx⟩
theorem wG8 : w37.Ok := fun a b r h => ub5 (fn := Tryz.f112) (code := vx3) E_ok (by kernel_rfl) (by kernel_rfl) (by kernel_rfl) (Nat.le_of_ble_eq_true rfl) (xz9 (.start a.1 b.1.1 b.1.2.1 b.1.2.2.1) r h)
inductive wC4 where
 | start (t0_0 : Int) (t0_1 : Int) (t0_2 : ByteArray) (t0_3 : (List ua0))
def vM2 : wC4 → List Bool
 | .start .. => []
def xO0 : wC4 → St E.S
 | .start t0_0 t0_1 t0_2 t0_3 => st0 5 [.agg [.v (.int .i64 t0_0), .v (.int .i64 t0_1), .v (.string t0_2), .sl 25 t0_3 false]] []
abbrev xT0 : Type := (((List ua0) × Unit) × Unit)
def ve5 : Res E ((List ua0) × Unit) Unit := { rows := [], flat := [], keep := 0, done := [0], rl := (.cons (Rd.sl 25 false) .nil), rb := .nil }
def u17 : wC4 → Option xT0
 | .start t0_0 t0_1 t0_2 t0_3 =>
  some ((t0_3, ()), ())
def xl4 : List (Plc E wC4) := []
theorem wS3 : All (ub7 5 0 vM2 xO0) xl4 := trivial
def wk6 : Code := Tryz.f140.body.getD .skip
def wr9 : Spec E.S := ub0
theorem v91 : ua9 E wr9 := ua7
theorem xA0 : ∀ pt r, u17 pt = some r → Good E Tryz.f140 wk6 0 (ve5.av r) (ve5.bx r) (vM2 pt) (xO0 pt) := by
 intro pt r hr
 cases pt <;> exact ua8 (spec := wr9) (wr := (mkWr [] [])) (l := xl4) (z := 5) (p := ve5) (run' := fun _ => none) E_ok wS3.mem rfl v91 (fun _ _ h => by cases h) (Eq.trans (by kernel_rfl) hr)
def w38 : Con E := ⟨140, _, _, (.cons (Rw.agg (.cons (Rd.int .i64).w (.cons (Rd.int .i64).w (.cons Rd.str.w (.cons (Rw.sl 25) .nil))))) .nil), .nil, 0, xT0, fun a b => u17 (.start a.1.1 a.1.2.1 a.1.2.2.1 a.1.2.2.2.1), ve5.av, ve5.bx⟩
theorem wG9 : w38.Ok := fun a b r h => ub5 (fn := Tryz.f140) (code := wk6) E_ok (by kernel_rfl) (by kernel_rfl) (by kernel_rfl) (Nat.le_of_ble_eq_true rfl) (xA0 (.start a.1.1 a.1.2.1 a.1.2.2.1 a.1.2.2.2.1) r h)
inductive vm2 where
 | start (x0_0 : Int) (x0_1 : Int) (x0_2 : ByteArray) (x0_3 : (List ua0)) (depth1 : Int) (B0 : Int)
 | p15 (depth1 : Int) (B0 : Int) (H0 : Int) (H1 : Int) (H2 : ByteArray) (H3 : (List ua0))
 | p244 (depth1 : Int) (s20 : (List ua0)) (s21 : Int) (s22 : Int) (B0 : Int)
def uF5 : vm2 → List Bool
 | .start .. => []
 | .p15 .. => [true, true, true]
 | .p244 .. => [false, false, true, false, true, true, true]
def vT2 : vm2 → St E.S
 | .start x0_0 x0_1 x0_2 x0_3 depth1 B0 => st0 33 [.agg [.v (.int .i64 x0_0), .v (.int .i64 x0_1), .v (.string x0_2), .sl 25 x0_3 false], .v (.int .i64 depth1), .bp 0 0, .bp 1 0, .bp 2 0] [.var 3 [.v (.int .i64 B0)], .var 182 [.fn 140 []], .var 200 [.fn 158 [.bp 0 0, .bp 1 0, .bp 2 0]]]
 | .p15 depth1 B0 H0 H1 H2 H3 => mkSt 33 [1, 3, 4, 5] [.v (.int .i64 depth1), .bp 1 0, .bp 2 0, .bp 3 0] [.var 3 [.v (.int .i64 B0)], .var 182 [.fn 140 []], .var 200 [.fn 158 [.bp 0 0, .bp 1 0, .bp 2 0]], .var 25 [.v (.int .i64 H0), .v (.int .i64 H1), .v (.string H2), .sl 25 H3 false]]
 | .p244 depth1 s20 s21 s22 B0 => mkSt 33 [1, 4, 20, 21, 22] [.v (.int .i64 depth1), .bp 2 0, .sl 25 s20 false, .v (.int .i64 s21), .v (.int .i64 s22)] [.var 3 [.v (.int .i64 B0)], .var 182 [.fn 140 []], .var 200 [.fn 158 [.bp 0 0, .bp 1 0, .bp 2 0]]]
abbrev vG5 : Type := ((Bool × Unit) × ((Int × Unit) × ((Unit × Unit) × (((Unit × (Unit × (Unit × Unit))) × Unit) × Unit))))
def un6 : Res E (Bool × Unit) ((Int × Unit) × ((Unit × Unit) × (((Unit × (Unit × (Unit × Unit))) × Unit) × Unit))) := { rows := [], flat := [], keep := 3, done := [0], rl := (.cons Rd.bool .nil), rb := (.cons (.var 3 (.cons (Rd.int .i64) .nil)) (.cons (.var 182 (.cons (Rd.fn 140 .nil) .nil)) (.cons (.var 200 (.cons (Rd.fn 158 (.cons (Rd.bp 0 0) (.cons (Rd.bp 1 0) (.cons (Rd.bp 2 0) .nil)))) .nil)) .nil))) }
def ui8 : vm2 → Option vG5
 | .start x0_0 x0_1 x0_2 x0_3 depth1 B0 =>
  if (decide ((IntKind.wrap .i64 (B0 + (1 : Int))) > (200 : Int))) = true then
   some ((false, ()), ((IntKind.wrap .i64 (B0 + (1 : Int)), ()), (((), ()), ((((), ((), ((), ()))), ()), ()))))
  else
   if (decide (depth1 > (40 : Int))) = true then
    some ((false, ()), ((IntKind.wrap .i64 (B0 + (1 : Int)), ()), (((), ()), ((((), ((), ((), ()))), ()), ()))))
   else
    ui8 (.p15 depth1 (IntKind.wrap .i64 (B0 + (1 : Int))) x0_0 x0_1 x0_2 x0_3)
 | .p15 depth1 B0 H0 H1 H2 H3 =>
  (u17 (.start H0 H1 H2 H3)) >>= fun t1 =>
  ui8 (.p244 depth1 t1.1.1 (List.length t1.1.1 : Int) (0 : Int) B0)
 | .p244 depth1 s20 s21 s22 B0 =>
  if (decide (s22 < s21)) = true then
   (idx s20 s22) >>= fun t1 =>
   (ui8 (.start t1.Kind t1.Value t1.Name t1.Parts (IntKind.wrap .i64 (depth1 + (1 : Int))) B0)) >>= fun t2 =>
   if (!t2.1.1) = true then
    some ((false, ()), ((t2.2.1.1, ()), (((), ()), ((((), ((), ((), ()))), ()), ()))))
   else
    ui8 (.p244 depth1 s20 s21 (IntKind.wrap .i64 (s22 + (1 : Int))) t2.2.1.1)
  else
   some ((true, ()), ((B0, ()), (((), ()), ((((), ((), ((), ()))), ()), ()))))
 partial_fixpoint
def xl5 : List (Plc E vm2) := [⟨15, [true, true, true], { slots := [1, 3, 4, 5], rows := [], flat := [], keep := 3 }, _, _, (.cons (Rd.int .i64) (.cons (Rd.bp 1 0) (.cons (Rd.bp 2 0) (.cons (Rd.bp 3 0) .nil)))), (.cons (.var 3 (.cons (Rd.int .i64) .nil)) (.cons (.var 182 (.cons (Rd.fn 140 .nil) .nil)) (.cons (.var 200 (.cons (Rd.fn 158 (.cons (Rd.bp 0 0) (.cons (Rd.bp 1 0) (.cons (Rd.bp 2 0) .nil)))) .nil)) (.cons (.var 25 (.cons (Rd.int .i64) (.cons (Rd.int .i64) (.cons Rd.str (.cons (Rd.sl 25 false) .nil))))) .nil)))), fun a b => .p15 a.1 b.1.1 b.2.2.2.1.1 b.2.2.2.1.2.1 b.2.2.2.1.2.2.1 b.2.2.2.1.2.2.2.1⟩,
 ⟨244, [false, false, true, false, true, true, true], { slots := [1, 4, 20, 21, 22], rows := [], flat := [], keep := 3 }, _, _, (.cons (Rd.int .i64) (.cons (Rd.bp 2 0) (.cons (Rd.sl 25 false) (.cons (Rd.int .i64) (.cons (Rd.int .i64) .nil))))), (.cons (.var 3 (.cons (Rd.int .i64) .nil)) (.cons (.var 182 (.cons (Rd.fn 140 .nil) .nil)) (.cons (.var 200 (.cons (Rd.fn 158 (.cons (Rd.bp 0 0) (.cons (Rd.bp 1 0) (.cons (Rd.bp 2 0) .nil)))) .nil)) .nil))), fun a b => .p244 a.1 a.2.2.1 a.2.2.2.1 a.2.2.2.2.1 b.1.1⟩]
theorem wS4 : All (ub7 33 3 uF5 vT2) xl5 := ⟨⟨rfl, rfl, fun _ _ => rfl, fun _ _ => rfl⟩, ⟨⟨rfl, rfl, fun _ _ => rfl, fun _ _ => rfl⟩, trivial⟩⟩
def uI7 : Code := Tryz.f158.body.getD .skip
def xd5 (run' : vm2 → Option vG5) : Con E := ⟨158, ((Int × (Int × (ByteArray × ((List ua0) × Unit)))) × (Int × (Unit × (Unit × (Unit × Unit))))), ((Int × Unit) × ((Unit × Unit) × (((Unit × (Unit × (Unit × Unit))) × Unit) × Unit))), (RwL.cons (Rw.agg (RwL.cons (Rd.int .i64).w (RwL.cons (Rd.int .i64).w (RwL.cons Rd.str.w (RwL.cons (Rw.sl 25) RwL.nil))))) (RwL.cons (Rd.int .i64).w (RwL.cons (Rd.bp 0 0).w (RwL.cons (Rd.bp 1 0).w (RwL.cons (Rd.bp 2 0).w RwL.nil))))), (RdBL.cons (RdB.var 3 (RdL.cons (Rd.int .i64) RdL.nil)) (RdBL.cons (RdB.var 182 (RdL.cons (Rd.fn 140 RdL.nil) RdL.nil)) (RdBL.cons (RdB.var 200 (RdL.cons (Rd.fn 158 (RdL.cons (Rd.bp 0 0) (RdL.cons (Rd.bp 1 0) (RdL.cons (Rd.bp 2 0) RdL.nil)))) RdL.nil)) RdBL.nil))), 3, vG5, fun a b => run' (.start a.1.1 a.1.2.1 a.1.2.2.1 a.1.2.2.2.1 a.2.1 b.1.1), un6.av, un6.bx⟩
theorem wN8 {run' : vm2 → Option vG5} (ih : ∀ pt r, run' pt = some r → Good E Tryz.f158 uI7 3 (un6.av r) (un6.bx r) (uF5 pt) (vT2 pt)) : (xd5 run').Ok := fun a b r h => ub5 (fn := Tryz.f158) (code := uI7) E_ok (by kernel_rfl) (by kernel_rfl) (by kernel_rfl) (Nat.le_of_ble_eq_true rfl) (ih (.start a.1.1 a.1.2.1 a.1.2.2.1 a.1.2.2.2.1 a.2.1 b.1.1) r h)
def ws1 (run' : vm2 → Option vG5) : Spec E.S := (Con.add (xd5 run') (Con.add w38 ub0))
theorem v92 {run' : vm2 → Option vG5} (ih : ∀ pt r, run' pt = some r → Good E Tryz.f158 uI7 3 (un6.av r) (un6.bx r) (uF5 pt) (vT2 pt)) : ua9 E (ws1 run') := (Con.add_ok (wN8 ih) (Con.add_ok wG9 ua7))
theorem xA1 : ∀ pt r, ui8 pt = some r → Good E Tryz.f158 uI7 3 (un6.av r) (un6.bx r) (uF5 pt) (vT2 pt) := by
 refine ui8.partial_correctness (fun pt r => Good E Tryz.f158 uI7 3 (un6.av r) (un6.bx r) (uF5 pt) (vT2 pt)) ?_
 intro run' ih pt r hr
 cases pt <;> exact ua8 (spec := (ws1 run')) (wr := (mkWr [] [])) (l := xl5) (z := 33) (p := un6) E_ok wS4.mem rfl (v92 ih) ih (Eq.trans (by kernel_rfl) hr)
def w39 : Con E := ⟨158, _, _, (.cons (Rw.agg (.cons (Rd.int .i64).w (.cons (Rd.int .i64).w (.cons Rd.str.w (.cons (Rw.sl 25) .nil))))) (.cons (Rd.int .i64).w (.cons (Rd.bp 0 0).w (.cons (Rd.bp 1 0).w (.cons (Rd.bp 2 0).w .nil))))), (.cons (.var 3 (.cons (Rd.int .i64) .nil)) (.cons (.var 182 (.cons (Rd.fn 140 .nil) .nil)) (.cons (.var 200 (.cons (Rd.fn 158 (.cons (Rd.bp 0 0) (.cons (Rd.bp 1 0) (.cons (Rd.bp 2 0) .nil)))) .nil)) .nil))), 3, vG5, fun a b => ui8 (.start a.1.1 a.1.2.1 a.1.2.2.1 a.1.2.2.2.1 a.2.1 b.1.1), un6.av, un6.bx⟩
theorem wH0 : w39.Ok := fun a b r h => ub5 (fn := Tryz.f158) (code := uI7) E_ok (by kernel_rfl) (by kernel_rfl) (by kernel_rfl) (Nat.le_of_ble_eq_true rfl) (xA1 (.start a.1.1 a.1.2.1 a.1.2.2.1 a.1.2.2.2.1 a.2.1 b.1.1) r h)
inductive wC5 where
 | start (root0_0 : Int) (root0_1 : Int) (root0_2 : ByteArray) (root0_3 : (List ua0))
def vM3 : wC5 → List Bool
 | .start .. => []
def xO1 : wC5 → St E.S
 | .start root0_0 root0_1 root0_2 root0_3 => st0 12 [.agg [.v (.int .i64 root0_0), .v (.int .i64 root0_1), .v (.string root0_2), .sl 25 root0_3 false], .fn 140 []] []
abbrev xT1 : Type := ((Int × Unit) × Unit)
def ve6 : Res E (Int × Unit) Unit := { rows := [], flat := [], keep := 0, done := [0], rl := (.cons (Rd.int .i64) .nil), rb := .nil }
def uH3 : wC5 → Option xT1
 | .start root0_0 root0_1 root0_2 root0_3 =>
  (ui8 (.start root0_0 root0_1 root0_2 root0_3 (1 : Int) (0 : Int))) >>= fun t1 =>
  (uc4 (.start t1.1.1 (8 : Int))) >>= fun t2 =>
  some ((t2.1.1, ()), ())
def xl6 : List (Plc E wC5) := []
theorem wS5 : All (ub7 12 0 vM3 xO1) xl6 := trivial
def wk7 : Code := Tryz.f139.body.getD .skip
def ws2 : Spec E.S := (Con.add uS9 (Con.add w39 ub0))
theorem v93 : ua9 E ws2 := (Con.add_ok uq6 (Con.add_ok wH0 ua7))
theorem xA2 : ∀ pt r, uH3 pt = some r → Good E Tryz.f139 wk7 0 (ve6.av r) (ve6.bx r) (vM3 pt) (xO1 pt) := by
 intro pt r hr
 cases pt <;> exact ua8 (spec := ws2) (wr := (mkWr [] [])) (l := xl6) (z := 12) (p := ve6) (run' := fun _ => none) E_ok wS5.mem rfl v93 (fun _ _ h => by cases h) (Eq.trans (by kernel_rfl) hr)
def vX8 : Con E := ⟨139, _, _, (.cons (Rw.agg (.cons (Rd.int .i64).w (.cons (Rd.int .i64).w (.cons Rd.str.w (.cons (Rw.sl 25) .nil))))) (.cons (Rd.fn 140 .nil).w .nil)), .nil, 0, xT1, fun a b => uH3 (.start a.1.1 a.1.2.1 a.1.2.2.1 a.1.2.2.2.1), ve6.av, ve6.bx⟩
theorem vp4 : vX8.Ok := fun a b r h => ub5 (fn := Tryz.f139) (code := wk7) E_ok (by kernel_rfl) (by kernel_rfl) (by kernel_rfl) (Nat.le_of_ble_eq_true rfl) (xA2 (.start a.1.1 a.1.2.1 a.1.2.2.1 a.1.2.2.2.1) r h)
inductive wC6 where
 | start (d0_0 : ByteArray) (d0_1 : (List ByteArray)) (d0_2 : (List ua1)) (s1 : ByteArray)
def vM4 : wC6 → List Bool
 | .start .. => []
def xO2 : wC6 → St E.S
 | .start d0_0 d0_1 d0_2 s1 => st0 8 [.agg [.v (.string d0_0), .sl 9 d0_1 false, .sl 56 d0_2 false], .el 9 s1 0] []
abbrev xT2 : Type := ((Bool × Unit) × Unit)
def ve7 : Res E (Bool × Unit) Unit := { rows := [], flat := [], keep := 0, done := [0], rl := (.cons Rd.bool .nil), rb := .nil }
def u18 : wC6 → Option xT2
 | .start d0_0 d0_1 d0_2 s1 =>
  some ((seq d0_0 s1, ()), ())
def xl7 : List (Plc E wC6) := []
theorem wS6 : All (ub7 8 0 vM4 xO2) xl7 := trivial
def wk8 : Code := Tryz.f178.body.getD .skip
def ws3 : Spec E.S := ub0
theorem v94 : ua9 E ws3 := ua7
theorem xA3 : ∀ pt r, u18 pt = some r → Good E Tryz.f178 wk8 0 (ve7.av r) (ve7.bx r) (vM4 pt) (xO2 pt) := by
 intro pt r hr
 cases pt <;> exact ua8 (spec := ws3) (wr := (mkWr [] [])) (l := xl7) (z := 8) (p := ve7) (run' := fun _ => none) E_ok wS6.mem rfl v94 (fun _ _ h => by cases h) (Eq.trans (by kernel_rfl) hr)
def w40 : Con E := ⟨178, _, _, (.cons (Rw.agg (.cons Rd.str.w (.cons (Rw.sl 9) (.cons (Rw.sl 56) .nil)))) (.cons (Rd.el 9 0).w .nil)), .nil, 0, xT2, fun a b => u18 (.start a.1.1 a.1.2.1 a.1.2.2.1 a.2.1), ve7.av, ve7.bx⟩
theorem wH1 : w40.Ok := fun a b r h => ub5 (fn := Tryz.f178) (code := wk8) E_ok (by kernel_rfl) (by kernel_rfl) (by kernel_rfl) (Nat.le_of_ble_eq_true rfl) (xA3 (.start a.1.1 a.1.2.1 a.1.2.2.1 a.2.1) r h)
inductive wC7 where
 | start (s0 : (List ua3)) (B0 : ByteArray)
 | p52 (s0 : (List ua3)) (s7 : Int) (s8 : Int) (B0 : ByteArray)
def vb9 : wC7 → List Bool
 | .start .. => []
 | .p52 .. => [false, false, true, false, true]
def xi6 : wC7 → St E.S
 | .start s0 B0 => st0 19 [.sl 103 s0 false, .fn 178 [.bp 0 0]] [.var 9 [.v (.string B0)]]
 | .p52 s0 s7 s8 B0 => mkSt 19 [0, 1, 7, 8] [.sl 103 s0 false, .fn 178 [.bp 0 0], .v (.int .i64 s7), .v (.int .i64 s8)] [.var 9 [.v (.string B0)]]
abbrev xT3 : Type := ((Int × Unit) × ((ByteArray × Unit) × Unit))
def uO7 : Res E (Int × Unit) ((ByteArray × Unit) × Unit) := { rows := [], flat := [], keep := 1, done := [0], rl := (.cons (Rd.int .i64) .nil), rb := (.cons (.var 9 (.cons Rd.str .nil)) .nil) }
def um4 : wC7 → Option xT3
 | .start s0 B0 =>
  um4 (.p52 s0 (List.length s0 : Int) (0 : Int) B0)
 | .p52 s0 s7 s8 B0 =>
  if (decide (s8 < s7)) = true then
   (idx s0 s8) >>= fun t1 =>
   (u18 (.start t1.Name t1.Params t1.Constructors B0)) >>= fun t2 =>
   if t2.1.1 = true then
    some ((s8, ()), ((B0, ()), ()))
   else
    um4 (.p52 s0 s7 (IntKind.wrap .i64 (s8 + (1 : Int))) B0)
  else
   some (((-1 : Int), ()), ((B0, ()), ()))
 partial_fixpoint
def xl8 : List (Plc E wC7) := [⟨52, [false, false, true, false, true], { slots := [0, 1, 7, 8], rows := [], flat := [], keep := 1 }, _, _, (.cons (Rd.sl 103 false) (.cons (Rd.fn 178 (.cons (Rd.bp 0 0) .nil)) (.cons (Rd.int .i64) (.cons (Rd.int .i64) .nil)))), (.cons (.var 9 (.cons Rd.str .nil)) .nil), fun a b => .p52 a.1 a.2.2.1 a.2.2.2.1 b.1.1⟩]
theorem wS7 : All (ub7 19 1 vb9 xi6) xl8 := ⟨⟨rfl, rfl, fun _ _ => rfl, fun _ _ => rfl⟩, trivial⟩
def vx4 : Code := Tryz.f177.body.getD .skip
def ws4 : Spec E.S := (Con.add w40 ub0)
theorem v95 : ua9 E ws4 := (Con.add_ok wH1 ua7)
theorem xA4 : ∀ pt r, um4 pt = some r → Good E Tryz.f177 vx4 1 (uO7.av r) (uO7.bx r) (vb9 pt) (xi6 pt) := by
 refine um4.partial_correctness (fun pt r => Good E Tryz.f177 vx4 1 (uO7.av r) (uO7.bx r) (vb9 pt) (xi6 pt)) ?_
 intro run' ih pt r hr
 cases pt <;> exact ua8 (spec := ws4) (wr := (mkWr [] [])) (l := xl8) (z := 19) (p := uO7) E_ok wS7.mem rfl v95 ih (Eq.trans (by kernel_rfl) hr)
def w41 : Con E := ⟨177, _, _, (.cons (Rw.sl 103) (.cons (Rd.fn 178 (.cons (Rd.bp 0 0) .nil)).w .nil)), (.cons (.var 9 (.cons Rd.str .nil)) .nil), 1, xT3, fun a b => um4 (.start a.1 b.1.1), uO7.av, uO7.bx⟩
theorem wH2 : w41.Ok := fun a b r h => ub5 (fn := Tryz.f177) (code := vx4) E_ok (by kernel_rfl) (by kernel_rfl) (by kernel_rfl) (Nat.le_of_ble_eq_true rfl) (xA4 (.start a.1 b.1.1) r h)
inductive wC8 where
 | start (s0_0 : (List ua3)) (s0_1 : (List ByteArray)) (name1 : ByteArray)
def vM5 : wC8 → List Bool
 | .start .. => []
def xO3 : wC8 → St E.S
 | .start s0_0 s0_1 name1 => st0 19 [.agg [.sl 103 s0_0 false, .sl 9 s0_1 false], .v (.string name1)] []
abbrev xT4 : Type := (((ByteArray × ((List ByteArray) × ((List ua1) × Unit))) × (Bool × Unit)) × Unit)
def ve8 : Res E ((ByteArray × ((List ByteArray) × ((List ua1) × Unit))) × (Bool × Unit)) Unit := { rows := [], flat := [], keep := 0, deep := [(false, 0, 1, 9), (false, 0, 2, 56)], done := [0, 1], rl := (.cons (Rd.agg (.cons Rd.str (.cons (Rd.sl 9 false) (.cons (Rd.sl 56 false) .nil)))) (.cons Rd.bool .nil)), rb := .nil }
def uH4 : wC8 → Option xT4
 | .start s0_0 s0_1 name1 =>
  (um4 (.start s0_0 name1)) >>= fun t1 =>
  if (decide (t1.1.1 < (0 : Int))) = true then
   some ((((⟨#[]⟩ : ByteArray), ([], ([], ()))), (false, ())), ())
  else
   (idx s0_0 t1.1.1) >>= fun t2 =>
   some (((t2.Name, (t2.Params, (t2.Constructors, ()))), (true, ())), ())
def xl9 : List (Plc E wC8) := []
theorem wS8 : All (ub7 19 0 vM5 xO3) xl9 := trivial
def wk9 : Code := Tryz.f159.body.getD .skip
def ws5 : Spec E.S := (Con.add w41 ub0)
theorem v96 : ua9 E ws5 := (Con.add_ok wH2 ua7)
theorem xA5 : ∀ pt r, uH4 pt = some r → Good E Tryz.f159 wk9 0 (ve8.av r) (ve8.bx r) (vM5 pt) (xO3 pt) := by
 intro pt r hr
 cases pt <;> exact ua8 (spec := ws5) (wr := (mkWr [] [])) (l := xl9) (z := 19) (p := ve8) (run' := fun _ => none) E_ok wS8.mem rfl v96 (fun _ _ h => by cases h) (Eq.trans (by kernel_rfl) hr)
def vX9 : Con E := ⟨159, _, _, (.cons (Rw.agg (.cons (Rw.sl 103) (.cons (Rw.sl 9) .nil))) (.cons Rd.str.w .nil)), .nil, 0, xT4, fun a b => uH4 (.start a.1.1 a.1.2.1 a.2.1), ve8.av, ve8.bx⟩
theorem vp5 : vX9.Ok := fun a b r h => ub5 (fn := Tryz.f159) (code := wk9) E_ok (by kernel_rfl) (by kernel_rfl) (by kernel_rfl) (Nat.le_of_ble_eq_true rfl) (xA5 (.start a.1.1 a.1.2.1 a.2.1) r h)
inductive vm3 where
 | start (s0 : Int) (x1_0 : Int) (x1_1 : Int) (x1_2 : ByteArray) (x1_3 : (List ua0)) (s2 : un4)
def uF6 : vm3 → List Bool
 | .start .. => []
def vT3 : vm3 → St E.S
 | .start s0 x1_0 x1_1 x1_2 x1_3 s2 => st0 9 [.v (.int .i64 s0), .agg [.v (.int .i64 x1_0), .v (.int .i64 x1_1), .v (.string x1_2), .sl 25 x1_3 false], .el 107 s2 0] []
abbrev vV4 : Type := ((Int × Unit) × Unit)
def uu4 : Res E (Int × Unit) Unit := { rows := [], flat := [], keep := 0, done := [0], rl := (.cons (Rd.int .i64) .nil), rb := .nil }
inductive uX7 where
 | start (s0_0 : (List ua3)) (s0_1 : (List ByteArray)) (t1_0 : Int) (t1_1 : Int) (t1_2 : ByteArray) (t1_3 : (List ua0))
 | p15 (count5 : Int) (C0 : (List ua3)) (C1 : (List ByteArray)) (D0 : Int) (D1 : Int) (D2 : ByteArray) (D3 : (List ua0))
 | p63 (C0 : (List ua3)) (C1 : (List ByteArray)) (D0 : Int) (D1 : Int) (D2 : ByteArray) (D3 : (List ua0))
def ut8 : uX7 → List Bool
 | .start .. => []
 | .p15 .. => [true, true, true]
 | .p63 .. => [true, true, true, true, true]
def vk2 : uX7 → St E.S
 | .start s0_0 s0_1 t1_0 t1_1 t1_2 t1_3 => st0 66 [.agg [.sl 103 s0_0 false, .sl 9 s0_1 false], .agg [.v (.int .i64 t1_0), .v (.int .i64 t1_1), .v (.string t1_2), .sl 25 t1_3 false]] []
 | .p15 count5 C0 C1 D0 D1 D2 D3 => mkSt 66 [2, 3, 5] [.bp 0 0, .bp 1 0, .v (.int .i64 count5)] [.var 107 [.sl 103 C0 false, .sl 9 C1 false], .var 25 [.v (.int .i64 D0), .v (.int .i64 D1), .v (.string D2), .sl 25 D3 false]]
 | .p63 C0 C1 D0 D1 D2 D3 => mkSt 66 [2, 3] [.bp 0 0, .bp 1 0] [.var 107 [.sl 103 C0 false, .sl 9 C1 false], .var 25 [.v (.int .i64 D0), .v (.int .i64 D1), .v (.string D2), .sl 25 D3 false]]
abbrev vn6 : Type := ((Int × Unit) × Unit)
def ui2 : Res E (Int × Unit) Unit := { rows := [], flat := [], keep := 0, done := [0], rl := (.cons (Rd.int .i64) .nil), rb := .nil }
inductive u53 where
 | start (l0 : (List ua0)) (C0 : (List ua3)) (C1 : (List ByteArray))
 | p52 (s9 : (List ua0)) (s10 : Int) (s11 : Int) (C0 : (List ua3)) (C1 : (List ByteArray))
def uy8 : u53 → List Bool
 | .start .. => []
 | .p52 .. => [false, false, true, false, true]
def vu5 : u53 → St E.S
 | .start l0 C0 C1 => st0 25 [.sl 25 l0 false, .fn 161 [.bp 0 0]] [.var 107 [.sl 103 C0 false, .sl 9 C1 false]]
 | .p52 s9 s10 s11 C0 C1 => mkSt 25 [1, 9, 10, 11] [.fn 161 [.bp 0 0], .sl 25 s9 false, .v (.int .i64 s10), .v (.int .i64 s11)] [.var 107 [.sl 103 C0 false, .sl 9 C1 false]]
abbrev vv8 : Type := ((Int × (Int × Unit)) × (((List ua3) × ((List ByteArray) × Unit)) × Unit))
def un7 : Res E (Int × (Int × Unit)) (((List ua3) × ((List ByteArray) × Unit)) × Unit) := { rows := [], flat := [], keep := 1, done := [0, 1], rl := (.cons (Rd.int .i64) (.cons (Rd.int .i64) .nil)), rb := (.cons (.var 107 (.cons (Rd.sl 103 false) (.cons (Rd.sl 9 false) .nil))) .nil) }
mutual
def u19 : vm3 → Option vV4
 | .start s0 x1_0 x1_1 x1_2 x1_3 s2 =>
  (run_z21 (.start s2.list s2.params x1_0 x1_1 x1_2 x1_3)) >>= fun t1 =>
  some ((t1.1.1, ()), ())
 partial_fixpoint
def run_z21 : uX7 → Option vn6
 | .start s0_0 s0_1 t1_0 t1_1 t1_2 t1_3 =>
  if (t1_0 == (0 : Int)) = true then
   (u47 (.start s0_1 t1_2)) >>= fun t1 =>
   if (!t1.1.1) = true then
    some (((6 : Int), ()), ())
   else
    run_z21 (.p15 (0 : Int) s0_0 s0_1 t1_0 t1_1 t1_2 t1_3)
  else
   if (t1_0 == (1 : Int)) = true then
    (uH4 (.start s0_0 s0_1 t1_2)) >>= fun t2 =>
    if t2.1.2.1 = true then
     run_z21 (.p15 (List.length t2.1.1.2.1 : Int) s0_0 s0_1 t1_0 t1_1 t1_2 t1_3)
    else
     if (seq t1_2 (⟨#[66, 105, 116]⟩ : ByteArray)) = true then
      run_z21 (.p15 (1 : Int) s0_0 s0_1 t1_0 t1_1 t1_2 t1_3)
     else
      if (!(seq t1_2 (⟨#[66, 111, 111, 108]⟩ : ByteArray))) = true then
       some (((6 : Int), ()), ())
      else
       run_z21 (.p15 (0 : Int) s0_0 s0_1 t1_0 t1_1 t1_2 t1_3)
   else
    if (t1_0 == (2 : Int)) = true then
     run_z21 (.p15 (0 : Int) s0_0 s0_1 t1_0 t1_1 t1_2 t1_3)
    else
     some (((15 : Int), ()), ())
 | .p15 count5 C0 C1 D0 D1 D2 D3 =>
  if ((List.length D3 : Int) != count5) = true then
   some (((10 : Int), ()), ())
  else
   if (D0 == (2 : Int)) = true then
    (uj9 (.start D1 (0 : Int) (1000000000 : Int))) >>= fun t1 =>
    if (!t1.1.1) = true then
     some (((2 : Int), ()), ())
    else
     run_z21 (.p63 C0 C1 D0 D1 D2 D3)
   else
    run_z21 (.p63 C0 C1 D0 D1 D2 D3)
 | .p63 C0 C1 D0 D1 D2 D3 =>
  (run_z22 (.start D3 C0 C1)) >>= fun t1 =>
  some ((t1.1.2.1, ()), ())
 partial_fixpoint
def run_z22 : u53 → Option vv8
 | .start l0 C0 C1 =>
  run_z22 (.p52 l0 (List.length l0 : Int) (0 : Int) C0 C1)
 | .p52 s9 s10 s11 C0 C1 =>
  if (decide (s11 < s10)) = true then
   (idx s9 s11) >>= fun t1 =>
   (u19 (.start s11 t1.Kind t1.Value t1.Name t1.Parts (⟨C0, C1⟩ : un4))) >>= fun t2 =>
   if (t2.1.1 != (0 : Int)) = true then
    some ((s11, (t2.1.1, ())), ((C0, (C1, ())), ()))
   else
    run_z22 (.p52 s9 s10 (IntKind.wrap .i64 (s11 + (1 : Int))) C0 C1)
  else
   some (((0 : Int), ((0 : Int), ())), ((C0, (C1, ())), ()))
 partial_fixpoint
end
def xm1 : List (Plc E vm3) := []
theorem wS9 : All (ub7 9 0 uF6 vT3) xm1 := trivial
def uS4 : Code := Tryz.f161.body.getD .skip
def xd6 (run' : vm3 → Option vV4) : Con E := ⟨161, (Int × ((Int × (Int × (ByteArray × ((List ua0) × Unit)))) × (un4 × Unit))), Unit, (RwL.cons (Rd.int .i64).w (RwL.cons (Rw.agg (RwL.cons (Rd.int .i64).w (RwL.cons (Rd.int .i64).w (RwL.cons Rd.str.w (RwL.cons (Rw.sl 25) RwL.nil))))) (RwL.cons (Rd.el 107 0).w RwL.nil))), RdBL.nil, 0, vV4, fun a b => run' (.start a.1 a.2.1.1 a.2.1.2.1 a.2.1.2.2.1 a.2.1.2.2.2.1 a.2.2.1), uu4.av, uu4.bx⟩
theorem wN9 {run' : vm3 → Option vV4} (ih : ∀ pt r, run' pt = some r → Good E Tryz.f161 uS4 0 (uu4.av r) (uu4.bx r) (uF6 pt) (vT3 pt)) : (xd6 run').Ok := fun a b r h => ub5 (fn := Tryz.f161) (code := uS4) E_ok (by kernel_rfl) (by kernel_rfl) (by kernel_rfl) (Nat.le_of_ble_eq_true rfl) (ih (.start a.1 a.2.1.1 a.2.1.2.1 a.2.1.2.2.1 a.2.1.2.2.2.1 a.2.2.1) r h)
def xm2 : List (Plc E uX7) := [⟨15, [true, true, true], { slots := [2, 3, 5], rows := [], flat := [], keep := 0 }, _, _, (.cons (Rd.bp 0 0) (.cons (Rd.bp 1 0) (.cons (Rd.int .i64) .nil))), (.cons (.var 107 (.cons (Rd.sl 103 false) (.cons (Rd.sl 9 false) .nil))) (.cons (.var 25 (.cons (Rd.int .i64) (.cons (Rd.int .i64) (.cons Rd.str (.cons (Rd.sl 25 false) .nil))))) .nil)), fun a b => .p15 a.2.2.1 b.1.1 b.1.2.1 b.2.1.1 b.2.1.2.1 b.2.1.2.2.1 b.2.1.2.2.2.1⟩,
 ⟨63, [true, true, true, true, true], { slots := [2, 3], rows := [], flat := [], keep := 0 }, _, _, (.cons (Rd.bp 0 0) (.cons (Rd.bp 1 0) .nil)), (.cons (.var 107 (.cons (Rd.sl 103 false) (.cons (Rd.sl 9 false) .nil))) (.cons (.var 25 (.cons (Rd.int .i64) (.cons (Rd.int .i64) (.cons Rd.str (.cons (Rd.sl 25 false) .nil))))) .nil)), fun a b => .p63 b.1.1 b.1.2.1 b.2.1.1 b.2.1.2.1 b.2.1.2.2.1 b.2.1.2.2.2.1⟩]
theorem wT0 : All (ub7 66 0 ut8 vk2) xm2 := ⟨⟨rfl, rfl, fun _ _ => rfl, fun _ _ => rfl⟩, ⟨⟨rfl, rfl, fun _ _ => rfl, fun _ _ => rfl⟩, trivial⟩⟩
def uw0 : Code := Tryz.f141.body.getD .skip
def v16 (run' : uX7 → Option vn6) : Con E := ⟨141, (((List ua3) × ((List ByteArray) × Unit)) × ((Int × (Int × (ByteArray × ((List ua0) × Unit)))) × Unit)), Unit, (RwL.cons (Rw.agg (RwL.cons (Rw.sl 103) (RwL.cons (Rw.sl 9) RwL.nil))) (RwL.cons (Rw.agg (RwL.cons (Rd.int .i64).w (RwL.cons (Rd.int .i64).w (RwL.cons Rd.str.w (RwL.cons (Rw.sl 25) RwL.nil))))) RwL.nil)), RdBL.nil, 0, vn6, fun a b => run' (.start a.1.1 a.1.2.1 a.2.1.1 a.2.1.2.1 a.2.1.2.2.1 a.2.1.2.2.2.1), ui2.av, ui2.bx⟩
theorem vs4 {run' : uX7 → Option vn6} (ih : ∀ pt r, run' pt = some r → Good E Tryz.f141 uw0 0 (ui2.av r) (ui2.bx r) (ut8 pt) (vk2 pt)) : (v16 run').Ok := fun a b r h => ub5 (fn := Tryz.f141) (code := uw0) E_ok (by kernel_rfl) (by kernel_rfl) (by kernel_rfl) (Nat.le_of_ble_eq_true rfl) (ih (.start a.1.1 a.1.2.1 a.2.1.1 a.2.1.2.1 a.2.1.2.2.1 a.2.1.2.2.2.1) r h)
def xm3 : List (Plc E u53) := [⟨52, [false, false, true, false, true], { slots := [1, 9, 10, 11], rows := [], flat := [], keep := 1 }, _, _, (.cons (Rd.fn 161 (.cons (Rd.bp 0 0) .nil)) (.cons (Rd.sl 25 false) (.cons (Rd.int .i64) (.cons (Rd.int .i64) .nil)))), (.cons (.var 107 (.cons (Rd.sl 103 false) (.cons (Rd.sl 9 false) .nil))) .nil), fun a b => .p52 a.2.1 a.2.2.1 a.2.2.2.1 b.1.1 b.1.2.1⟩]
theorem wT1 : All (ub7 25 1 uy8 vu5) xm3 := ⟨⟨rfl, rfl, fun _ _ => rfl, fun _ _ => rfl⟩, trivial⟩
def uI8 : Code := Tryz.f160.body.getD .skip
def v17 (run' : u53 → Option vv8) : Con E := ⟨160, ((List ua0) × ((Unit × Unit) × Unit)), (((List ua3) × ((List ByteArray) × Unit)) × Unit), (RwL.cons (Rw.sl 25) (RwL.cons (Rd.fn 161 (RdL.cons (Rd.bp 0 0) RdL.nil)).w RwL.nil)), (RdBL.cons (RdB.var 107 (RdL.cons (Rd.sl 103 false) (RdL.cons (Rd.sl 9 false) RdL.nil))) RdBL.nil), 1, vv8, fun a b => run' (.start a.1 b.1.1 b.1.2.1), un7.av, un7.bx⟩
theorem vs5 {run' : u53 → Option vv8} (ih : ∀ pt r, run' pt = some r → Good E Tryz.f160 uI8 1 (un7.av r) (un7.bx r) (uy8 pt) (vu5 pt)) : (v17 run').Ok := fun a b r h => ub5 (fn := Tryz.f160) (code := uI8) E_ok (by kernel_rfl) (by kernel_rfl) (by kernel_rfl) (Nat.le_of_ble_eq_true rfl) (ih (.start a.1 b.1.1 b.1.2.1) r h)
def ws6 (r_z21 : uX7 → Option vn6) : Spec E.S := (Con.add (v16 r_z21) ub0)
theorem v97 {r_z21 : uX7 → Option vn6} (h_z21 : ∀ pt r, r_z21 pt = some r → Good E Tryz.f141 uw0 0 (ui2.av r) (ui2.bx r) (ut8 pt) (vk2 pt)) : ua9 E (ws6 r_z21) := (Con.add_ok (vs4 h_z21) ua7)
def ws7 (r_z21 : uX7 → Option vn6) (r_z22 : u53 → Option vv8) : Spec E.S := (Con.add (v17 r_z22) (Con.add (v16 r_z21) (Con.add uS8 (Con.add vX9 (Con.add w90 ub0)))))
theorem v98 {r_z21 : uX7 → Option vn6} (h_z21 : ∀ pt r, r_z21 pt = some r → Good E Tryz.f141 uw0 0 (ui2.av r) (ui2.bx r) (ut8 pt) (vk2 pt)) {r_z22 : u53 → Option vv8} (h_z22 : ∀ pt r, r_z22 pt = some r → Good E Tryz.f160 uI8 1 (un7.av r) (un7.bx r) (uy8 pt) (vu5 pt)) : ua9 E (ws7 r_z21 r_z22) := (Con.add_ok (vs5 h_z22) (Con.add_ok (vs4 h_z21) (Con.add_ok uq5 (Con.add_ok vp5 (Con.add_ok vJ7 ua7)))))
def ws8 (r_z20 : vm3 → Option vV4) (r_z22 : u53 → Option vv8) : Spec E.S := (Con.add (v17 r_z22) (Con.add (xd6 r_z20) ub0))
theorem v99 {r_z20 : vm3 → Option vV4} (h_z20 : ∀ pt r, r_z20 pt = some r → Good E Tryz.f161 uS4 0 (uu4.av r) (uu4.bx r) (uF6 pt) (vT3 pt)) {r_z22 : u53 → Option vv8} (h_z22 : ∀ pt r, r_z22 pt = some r → Good E Tryz.f160 uI8 1 (un7.av r) (un7.bx r) (uy8 pt) (vu5 pt)) : ua9 E (ws8 r_z20 r_z22) := (Con.add_ok (vs5 h_z22) (Con.add_ok (wN9 h_z20) ua7))
theorem xb3 : (∀ pt r, u19 pt = some r → Good E Tryz.f161 uS4 0 (uu4.av r) (uu4.bx r) (uF6 pt) (vT3 pt)) ∧ (∀ pt r, run_z21 pt = some r → Good E Tryz.f141 uw0 0 (ui2.av r) (ui2.bx r) (ut8 pt) (vk2 pt)) ∧ (∀ pt r, run_z22 pt = some r → Good E Tryz.f160 uI8 1 (un7.av r) (un7.bx r) (uy8 pt) (vu5 pt)) := by
  refine u19.mutual_partial_correctness (fun pt r => Good E Tryz.f161 uS4 0 (uu4.av r) (uu4.bx r) (uF6 pt) (vT3 pt)) (fun pt r => Good E Tryz.f141 uw0 0 (ui2.av r) (ui2.bx r) (ut8 pt) (vk2 pt)) (fun pt r => Good E Tryz.f160 uI8 1 (un7.av r) (un7.bx r) (uy8 pt) (vu5 pt)) ?_ ?_ ?_
  · intro r_z21 h_z21 pt r hr
    cases pt <;> exact ua8 (spec := (ws6 r_z21)) (wr := (mkWr [] [])) (l := xm1) (z := 9) (p := uu4) (run' := fun _ => none) E_ok wS9.mem rfl (v97 h_z21) (fun _ _ h => by cases h) (Eq.trans (by kernel_rfl) hr)
  · intro r_z21 r_z22 h_z21 h_z22 pt r hr
    cases pt <;> exact ua8 (spec := (ws7 r_z21 r_z22)) (wr := (mkWr [] [])) (l := xm2) (z := 66) (p := ui2) E_ok wT0.mem rfl (v98 h_z21 h_z22) h_z21 (Eq.trans (by kernel_rfl) hr)
  · intro r_z20 r_z22 h_z20 h_z22 pt r hr
    cases pt <;> exact ua8 (spec := (ws8 r_z20 r_z22)) (wr := (mkWr [] [])) (l := xm3) (z := 25) (p := un7) E_ok wT1.mem rfl (v99 h_z20 h_z22) h_z22 (Eq.trans (by kernel_rfl) hr)
theorem xA6 : ∀ pt r, run_z21 pt = some r → Good E Tryz.f141 uw0 0 (ui2.av r) (ui2.bx r) (ut8 pt) (vk2 pt) := xb3.2.1
def w44 : Con E := ⟨141, _, _, (.cons (Rw.agg (.cons (Rw.sl 103) (.cons (Rw.sl 9) .nil))) (.cons (Rw.agg (.cons (Rd.int .i64).w (.cons (Rd.int .i64).w (.cons Rd.str.w (.cons (Rw.sl 25) .nil))))) .nil)), .nil, 0, vn6, fun a b => run_z21 (.start a.1.1 a.1.2.1 a.2.1.1 a.2.1.2.1 a.2.1.2.2.1 a.2.1.2.2.2.1), ui2.av, ui2.bx⟩
theorem wH3 : w44.Ok := fun a b r h => ub5 (fn := Tryz.f141) (code := uw0) E_ok (by kernel_rfl) (by kernel_rfl) (by kernel_rfl) (Nat.le_of_ble_eq_true rfl) (xA6 (.start a.1.1 a.1.2.1 a.2.1.1 a.2.1.2.1 a.2.1.2.2.1 a.2.1.2.2.2.1) r h)
inductive wC9 where
 | start (s0_0 : (List ua3)) (s0_1 : (List ByteArray)) (t1_0 : Int) (t1_1 : Int) (t1_2 : ByteArray) (t1_3 : (List ua0))
def vM6 : wC9 → List Bool
 | .start .. => []
def xO4 : wC9 → St E.S
 | .start s0_0 s0_1 t1_0 t1_1 t1_2 t1_3 => st0 14 [.agg [.sl 103 s0_0 false, .sl 9 s0_1 false], .agg [.v (.int .i64 t1_0), .v (.int .i64 t1_1), .v (.string t1_2), .sl 25 t1_3 false]] []
abbrev xT5 : Type := ((Int × Unit) × Unit)
def ve9 : Res E (Int × Unit) Unit := { rows := [], flat := [], keep := 0, done := [0], rl := (.cons (Rd.int .i64) .nil), rb := .nil }
def uH5 : wC9 → Option xT5
 | .start s0_0 s0_1 t1_0 t1_1 t1_2 t1_3 =>
  (uH3 (.start t1_0 t1_1 t1_2 t1_3)) >>= fun t1 =>
  if (t1.1.1 != (0 : Int)) = true then
   some ((t1.1.1, ()), ())
  else
   (run_z21 (.start s0_0 s0_1 t1_0 t1_1 t1_2 t1_3)) >>= fun t2 =>
   some ((t2.1.1, ()), ())
def xm4 : List (Plc E wC9) := []
theorem wT2 : All (ub7 14 0 vM6 xO4) xm4 := trivial
def wl0 : Code := Tryz.f105.body.getD .skip
def ws9 : Spec E.S := (Con.add w44 (Con.add vX8 ub0))
theorem wa0 : ua9 E ws9 := (Con.add_ok wH3 (Con.add_ok vp4 ua7))
theorem xA7 : ∀ pt r, uH5 pt = some r → Good E Tryz.f105 wl0 0 (ve9.av r) (ve9.bx r) (vM6 pt) (xO4 pt) := by
 intro pt r hr
 cases pt <;> exact ua8 (spec := ws9) (wr := (mkWr [] [])) (l := xm4) (z := 14) (p := ve9) (run' := fun _ => none) E_ok wT2.mem rfl wa0 (fun _ _ h => by cases h) (Eq.trans (by kernel_rfl) hr)
def vY0 : Con E := ⟨105, _, _, (.cons (Rw.agg (.cons (Rw.sl 103) (.cons (Rw.sl 9) .nil))) (.cons (Rw.agg (.cons (Rd.int .i64).w (.cons (Rd.int .i64).w (.cons Rd.str.w (.cons (Rw.sl 25) .nil))))) .nil)), .nil, 0, xT5, fun a b => uH5 (.start a.1.1 a.1.2.1 a.2.1.1 a.2.1.2.1 a.2.1.2.2.1 a.2.1.2.2.2.1), ve9.av, ve9.bx⟩
theorem vp6 : vY0.Ok := fun a b r h => ub5 (fn := Tryz.f105) (code := wl0) E_ok (by kernel_rfl) (by kernel_rfl) (by kernel_rfl) (Nat.le_of_ble_eq_true rfl) (xA7 (.start a.1.1 a.1.2.1 a.2.1.1 a.2.1.2.1 a.2.1.2.2.1 a.2.1.2.2.2.1) r h)
inductive wD0 where
 | start (s0 : Int) (f1_0 : ByteArray) (f1_1 : Int) (f1_2 : Int) (f1_3 : ByteArray) (f1_4 : (List ua0)) (D0 : (List ua3)) (D1 : (List ByteArray)) (B2 : (List ByteArray))
def vM7 : wD0 → List Bool
 | .start .. => []
def xO5 : wD0 → St E.S
 | .start s0 f1_0 f1_1 f1_2 f1_3 f1_4 D0 D1 B2 => st0 24 [.v (.int .i64 s0), .agg [.v (.string f1_0), .v (.int .i64 f1_1), .v (.int .i64 f1_2), .v (.string f1_3), .sl 25 f1_4 false], .bp 0 0, .bp 1 0] [.var 101 [.rw 2], .var 107 [.sl 103 D0 false, .sl 9 D1 false], .row 9 B2 false]
abbrev xT6 : Type := ((Int × Unit) × ((Unit × Unit) × (((List ua3) × ((List ByteArray) × Unit)) × ((List ByteArray) × Unit))))
def vf0 : Res E (Int × Unit) ((Unit × Unit) × (((List ua3) × ((List ByteArray) × Unit)) × ((List ByteArray) × Unit))) := { rows := [], flat := [], keep := 2, done := [0], rl := (.cons (Rd.int .i64) .nil), rb := (.cons (.var 101 (.cons (Rd.rw 2) .nil)) (.cons (.var 107 (.cons (Rd.sl 103 false) (.cons (Rd.sl 9 false) .nil))) (.cons (.row 9 false) .nil))) }
def u20 : wD0 → Option xT6
 | .start s0 f1_0 f1_1 f1_2 f1_3 f1_4 D0 D1 B2 =>
  (ux4 (.start f1_0 B2)) >>= fun t1 =>
  if (t1.1.1 != (0 : Int)) = true then
   some ((t1.1.1, ()), (((), ()), ((D0, (D1, ())), (B2, ()))))
  else
   if (fits (List.length B2) (List.length ([f1_0] : List ByteArray)) 16) = true then
    (uH5 (.start D0 D1 f1_1 f1_2 f1_3 f1_4)) >>= fun t2 =>
    some ((t2.1.1, ()), (((), ()), ((D0, (D1, ())), (B2 ++ ([f1_0] : List ByteArray), ()))))
   else none
def xm5 : List (Plc E wD0) := []
theorem wT3 : All (ub7 24 2 vM7 xO5) xm5 := trivial
def wl1 : Code := Tryz.f117.body.getD .skip
def wt0 : Spec E.S := (Con.add vY0 (Con.add u97 ub0))
theorem wa1 : ua9 E wt0 := (Con.add_ok vp6 (Con.add_ok uK6 ua7))
theorem xA8 : ∀ pt r, u20 pt = some r → Good E Tryz.f117 wl1 2 (vf0.av r) (vf0.bx r) (vM7 pt) (xO5 pt) := by
 intro pt r hr
 cases pt <;> exact ua8 (spec := wt0) (wr := (mkWr [] [])) (l := xm5) (z := 24) (p := vf0) (run' := fun _ => none) E_ok wT3.mem rfl wa1 (fun _ _ h => by cases h) (Eq.trans (by kernel_rfl) hr)
def w45 : Con E := ⟨117, _, _, (.cons (Rd.int .i64).w (.cons (Rw.agg (.cons Rd.str.w (.cons (Rd.int .i64).w (.cons (Rd.int .i64).w (.cons Rd.str.w (.cons (Rw.sl 25) .nil)))))) (.cons (Rd.bp 0 0).w (.cons (Rd.bp 1 0).w .nil)))), (.cons (.var 101 (.cons (Rd.rw 2) .nil)) (.cons (.var 107 (.cons (Rd.sl 103 false) (.cons (Rd.sl 9 false) .nil))) (.cons (.row 9 false) .nil))), 2, xT6, fun a b => u20 (.start a.1 a.2.1.1 a.2.1.2.1 a.2.1.2.2.1 a.2.1.2.2.2.1 a.2.1.2.2.2.2.1 b.2.1.1 b.2.1.2.1 b.2.2.1), vf0.av, vf0.bx⟩
theorem wH4 : w45.Ok := fun a b r h => ub5 (fn := Tryz.f117) (code := wl1) E_ok (by kernel_rfl) (by kernel_rfl) (by kernel_rfl) (Nat.le_of_ble_eq_true rfl) (xA8 (.start a.1 a.2.1.1 a.2.1.2.1 a.2.1.2.2.1 a.2.1.2.2.2.1 a.2.1.2.2.2.2.1 b.2.1.1 b.2.1.2.1 b.2.2.1) r h)
inductive wD1 where
 | start (l0 : (List ua6)) (D0 : (List ua3)) (D1 : (List ByteArray))
 | p52 (s9 : (List ua6)) (s10 : Int) (s11 : Int) (D0 : (List ua3)) (D1 : (List ByteArray)) (B2 : (List ByteArray))
def vc0 : wD1 → List Bool
 | .start .. => []
 | .p52 .. => [false, false, true, false, true]
def xi7 : wD1 → St E.S
 | .start l0 D0 D1 => st0 25 [.sl 58 l0 false, .fn 117 [.bp 0 0, .bp 1 0]] [.var 101 [.nl], .var 107 [.sl 103 D0 false, .sl 9 D1 false]]
 | .p52 s9 s10 s11 D0 D1 B2 => mkSt 25 [1, 9, 10, 11] [.fn 117 [.bp 0 0, .bp 1 0], .sl 58 s9 false, .v (.int .i64 s10), .v (.int .i64 s11)] [.var 101 [.rw 2], .var 107 [.sl 103 D0 false, .sl 9 D1 false], .row 9 B2 false]
abbrev xT7 : Type := ((Int × (Int × Unit)) × ((Unit × Unit) × (((List ua3) × ((List ByteArray) × Unit)) × ((List ByteArray) × Unit))))
def uO8 : Res E (Int × (Int × Unit)) ((Unit × Unit) × (((List ua3) × ((List ByteArray) × Unit)) × ((List ByteArray) × Unit))) := { rows := [], flat := [], keep := 2, done := [0, 1, 100000], rl := (.cons (Rd.int .i64) (.cons (Rd.int .i64) .nil)), rb := (.cons (.var 101 (.cons (Rd.rw 2) .nil)) (.cons (.var 107 (.cons (Rd.sl 103 false) (.cons (Rd.sl 9 false) .nil))) (.cons (.row 9 true) .nil))) }
def um5 : wD1 → Option xT7
 | .start l0 D0 D1 =>
  um5 (.p52 l0 (List.length l0 : Int) (0 : Int) D0 D1 ([] : List ByteArray))
 | .p52 s9 s10 s11 D0 D1 B2 =>
  if (decide (s11 < s10)) = true then
   (idx s9 s11) >>= fun t1 =>
   (u20 (.start s11 t1.Name t1.Type_.Kind t1.Type_.Value t1.Type_.Name t1.Type_.Parts D0 D1 B2)) >>= fun t2 =>
   if (t2.1.1 != (0 : Int)) = true then
    some ((s11, (t2.1.1, ())), (((), ()), ((t2.2.2.1.1, (t2.2.2.1.2.1, ())), (t2.2.2.2.1, ()))))
   else
    um5 (.p52 s9 s10 (IntKind.wrap .i64 (s11 + (1 : Int))) t2.2.2.1.1 t2.2.2.1.2.1 t2.2.2.2.1)
  else
   some (((0 : Int), ((0 : Int), ())), (((), ()), ((D0, (D1, ())), (B2, ()))))
 partial_fixpoint
def xm6 : List (Plc E wD1) := [⟨52, [false, false, true, false, true], { slots := [1, 9, 10, 11], rows := [], flat := [], keep := 2, up := [(true, 100000, 0, 9)] }, _, _, (.cons (Rd.fn 117 (.cons (Rd.bp 0 0) (.cons (Rd.bp 1 0) .nil))) (.cons (Rd.sl 58 false) (.cons (Rd.int .i64) (.cons (Rd.int .i64) .nil)))), (.cons (.var 101 (.cons (Rd.rw 2) .nil)) (.cons (.var 107 (.cons (Rd.sl 103 false) (.cons (Rd.sl 9 false) .nil))) (.cons (.row 9 false) .nil))), fun a b => .p52 a.2.1 a.2.2.1 a.2.2.2.1 b.2.1.1 b.2.1.2.1 b.2.2.1⟩]
theorem wT4 : All (ub7 25 2 vc0 xi7) xm6 := ⟨⟨rfl, rfl, fun _ _ => rfl, fun _ _ => rfl⟩, trivial⟩
def vx5 : Code := Tryz.f116.body.getD .skip
def wt1 : Spec E.S := (Con.add w45 ub0)
theorem wa2 : ua9 E wt1 := (Con.add_ok wH4 ua7)
theorem xA9 : ∀ pt r, um5 pt = some r → Good E Tryz.f116 vx5 2 (uO8.av r) (uO8.bx r) (vc0 pt) (xi7 pt) := by
 refine um5.partial_correctness (fun pt r => Good E Tryz.f116 vx5 2 (uO8.av r) (uO8.bx r) (vc0 pt) (xi7 pt)) ?_
 intro run' ih pt r hr
 cases pt <;> exact ua8 (spec := wt1) (wr := (mkWr [] [])) (l := xm6) (z := 25) (p := uO8) E_ok wT4.mem rfl wa2 ih (Eq.trans (by kernel_rfl) hr)
def w46 : Con E := ⟨116, _, _, (.cons (Rw.sl 58) (.cons (Rd.fn 117 (.cons (Rd.bp 0 0) (.cons (Rd.bp 1 0) .nil))).w .nil)), (.cons (.var 101 (.cons Rd.nl .nil)) (.cons (.var 107 (.cons (Rd.sl 103 false) (.cons (Rd.sl 9 false) .nil))) .nil)), 2, xT7, fun a b => um5 (.start a.1 b.2.1.1 b.2.1.2.1), uO8.av, uO8.bx⟩
theorem wH5 : w46.Ok := fun a b r h => ub5 (fn := Tryz.f116) (code := vx5) E_ok (by kernel_rfl) (by kernel_rfl) (by kernel_rfl) (Nat.le_of_ble_eq_true rfl) (xA9 (.start a.1 b.2.1.1 b.2.1.2.1) r h)
inductive wD2 where
 | start (s0 : Int) (c1_0 : ByteArray) (c1_1 : (List ua6)) (D0 : (List ua3)) (D1 : (List ByteArray)) (B2 : (List ByteArray))
def vM8 : wD2 → List Bool
 | .start .. => []
def xO6 : wD2 → St E.S
 | .start s0 c1_0 c1_1 D0 D1 B2 => st0 38 [.v (.int .i64 s0), .agg [.v (.string c1_0), .sl 58 c1_1 false], .bp 0 0, .bp 1 0] [.var 101 [.rw 2], .var 107 [.sl 103 D0 false, .sl 9 D1 false], .row 9 B2 true]
abbrev xT8 : Type := ((Int × Unit) × ((Unit × Unit) × (((List ua3) × ((List ByteArray) × Unit)) × ((List ByteArray) × Unit))))
def vf1 : Res E (Int × Unit) ((Unit × Unit) × (((List ua3) × ((List ByteArray) × Unit)) × ((List ByteArray) × Unit))) := { rows := [], flat := [], keep := 2, done := [0], rl := (.cons (Rd.int .i64) .nil), rb := (.cons (.var 101 (.cons (Rd.rw 2) .nil)) (.cons (.var 107 (.cons (Rd.sl 103 false) (.cons (Rd.sl 9 false) .nil))) (.cons (.row 9 true) .nil))) }
def u21 : wD2 → Option xT8
 | .start s0 c1_0 c1_1 D0 D1 B2 =>
  (ux4 (.start c1_0 B2)) >>= fun t1 =>
  (uc4 (.start (decide ((List.length c1_1 : Int) ≤ (8 : Int))) (8 : Int))) >>= fun t2 =>
  (uc9 (.start ([t1.1.1, t2.1.1] : List Int))) >>= fun t3 =>
  if (t3.1.1 != (0 : Int)) = true then
   some ((t3.1.1, ()), (((), ()), ((D0, (D1, ())), (B2, ()))))
  else
   if (fits (List.length B2) (List.length ([c1_0] : List ByteArray)) 16) = true then
    (um5 (.start c1_1 D0 D1)) >>= fun t4 =>
    some ((t4.1.2.1, ()), (((), ()), ((t4.2.2.1.1, (t4.2.2.1.2.1, ())), (B2 ++ ([c1_0] : List ByteArray), ()))))
   else none
def xm7 : List (Plc E wD2) := []
theorem wT5 : All (ub7 38 2 vM8 xO6) xm7 := trivial
def wl2 : Code := Tryz.f115.body.getD .skip
def wt2 : Spec E.S := (Con.add w46 (Con.add uE4 (Con.add uS9 (Con.add u97 ub0))))
theorem wa3 : ua9 E wt2 := (Con.add_ok wH5 (Con.add_ok un3 (Con.add_ok uq6 (Con.add_ok uK6 ua7))))
theorem xB0 : ∀ pt r, u21 pt = some r → Good E Tryz.f115 wl2 2 (vf1.av r) (vf1.bx r) (vM8 pt) (xO6 pt) := by
 intro pt r hr
 cases pt <;> exact ua8 (spec := wt2) (wr := (mkWr [] [])) (l := xm7) (z := 38) (p := vf1) (run' := fun _ => none) E_ok wT5.mem rfl wa3 (fun _ _ h => by cases h) (Eq.trans (by kernel_rfl) hr)
def w47 : Con E := ⟨115, _, _, (.cons (Rd.int .i64).w (.cons (Rw.agg (.cons Rd.str.w (.cons (Rw.sl 58) .nil))) (.cons (Rd.bp 0 0).w (.cons (Rd.bp 1 0).w .nil)))), (.cons (.var 101 (.cons (Rd.rw 2) .nil)) (.cons (.var 107 (.cons (Rd.sl 103 false) (.cons (Rd.sl 9 false) .nil))) (.cons (.row 9 true) .nil))), 2, xT8, fun a b => u21 (.start a.1 a.2.1.1 a.2.1.2.1 b.2.1.1 b.2.1.2.1 b.2.2.1), vf1.av, vf1.bx⟩
theorem wH6 : w47.Ok := fun a b r h => ub5 (fn := Tryz.f115) (code := wl2) E_ok (by kernel_rfl) (by kernel_rfl) (by kernel_rfl) (Nat.le_of_ble_eq_true rfl) (xB0 (.start a.1 a.2.1.1 a.2.1.2.1 b.2.1.1 b.2.1.2.1 b.2.2.1) r h)
inductive wD3 where
 | start (l0 : (List ua1)) (D0 : (List ua3)) (D1 : (List ByteArray)) (B2 : (List ByteArray))
 | p52 (s9 : (List ua1)) (s10 : Int) (s11 : Int) (D0 : (List ua3)) (D1 : (List ByteArray)) (B2 : (List ByteArray))
def vc1 : wD3 → List Bool
 | .start .. => []
 | .p52 .. => [false, false, true, false, true]
def xi8 : wD3 → St E.S
 | .start l0 D0 D1 B2 => st0 25 [.sl 56 l0 false, .fn 115 [.bp 0 0, .bp 1 0]] [.var 101 [.rw 2], .var 107 [.sl 103 D0 false, .sl 9 D1 false], .row 9 B2 true]
 | .p52 s9 s10 s11 D0 D1 B2 => mkSt 25 [1, 9, 10, 11] [.fn 115 [.bp 0 0, .bp 1 0], .sl 56 s9 false, .v (.int .i64 s10), .v (.int .i64 s11)] [.var 101 [.rw 2], .var 107 [.sl 103 D0 false, .sl 9 D1 false], .row 9 B2 true]
abbrev xT9 : Type := ((Int × (Int × Unit)) × ((Unit × Unit) × (((List ua3) × ((List ByteArray) × Unit)) × ((List ByteArray) × Unit))))
def uO9 : Res E (Int × (Int × Unit)) ((Unit × Unit) × (((List ua3) × ((List ByteArray) × Unit)) × ((List ByteArray) × Unit))) := { rows := [], flat := [], keep := 2, done := [0, 1], rl := (.cons (Rd.int .i64) (.cons (Rd.int .i64) .nil)), rb := (.cons (.var 101 (.cons (Rd.rw 2) .nil)) (.cons (.var 107 (.cons (Rd.sl 103 false) (.cons (Rd.sl 9 false) .nil))) (.cons (.row 9 true) .nil))) }
def um6 : wD3 → Option xT9
 | .start l0 D0 D1 B2 =>
  um6 (.p52 l0 (List.length l0 : Int) (0 : Int) D0 D1 B2)
 | .p52 s9 s10 s11 D0 D1 B2 =>
  if (decide (s11 < s10)) = true then
   (idx s9 s11) >>= fun t1 =>
   (u21 (.start s11 t1.Name t1.Fields D0 D1 B2)) >>= fun t2 =>
   if (t2.1.1 != (0 : Int)) = true then
    some ((s11, (t2.1.1, ())), (((), ()), ((t2.2.2.1.1, (t2.2.2.1.2.1, ())), (t2.2.2.2.1, ()))))
   else
    um6 (.p52 s9 s10 (IntKind.wrap .i64 (s11 + (1 : Int))) t2.2.2.1.1 t2.2.2.1.2.1 t2.2.2.2.1)
  else
   some (((0 : Int), ((0 : Int), ())), (((), ()), ((D0, (D1, ())), (B2, ()))))
 partial_fixpoint
def xm8 : List (Plc E wD3) := [⟨52, [false, false, true, false, true], { slots := [1, 9, 10, 11], rows := [], flat := [], keep := 2 }, _, _, (.cons (Rd.fn 115 (.cons (Rd.bp 0 0) (.cons (Rd.bp 1 0) .nil))) (.cons (Rd.sl 56 false) (.cons (Rd.int .i64) (.cons (Rd.int .i64) .nil)))), (.cons (.var 101 (.cons (Rd.rw 2) .nil)) (.cons (.var 107 (.cons (Rd.sl 103 false) (.cons (Rd.sl 9 false) .nil))) (.cons (.row 9 true) .nil))), fun a b => .p52 a.2.1 a.2.2.1 a.2.2.2.1 b.2.1.1 b.2.1.2.1 b.2.2.1⟩]
theorem wT6 : All (ub7 25 2 vc1 xi8) xm8 := ⟨⟨rfl, rfl, fun _ _ => rfl, fun _ _ => rfl⟩, trivial⟩
def vx6 : Code := Tryz.f114.body.getD .skip
def wt3 : Spec E.S := (Con.add w47 ub0)
theorem wa4 : ua9 E wt3 := (Con.add_ok wH6 ua7)
theorem xB1 : ∀ pt r, um6 pt = some r → Good E Tryz.f114 vx6 2 (uO9.av r) (uO9.bx r) (vc1 pt) (xi8 pt) := by
 refine um6.partial_correctness (fun pt r => Good E Tryz.f114 vx6 2 (uO9.av r) (uO9.bx r) (vc1 pt) (xi8 pt)) ?_
 intro run' ih pt r hr
 cases pt <;> exact ua8 (spec := wt3) (wr := (mkWr [] [])) (l := xm8) (z := 25) (p := uO9) E_ok wT6.mem rfl wa4 ih (Eq.trans (by kernel_rfl) hr)
def w48 : Con E := ⟨114, _, _, (.cons (Rw.sl 56) (.cons (Rd.fn 115 (.cons (Rd.bp 0 0) (.cons (Rd.bp 1 0) .nil))).w .nil)), (.cons (.var 101 (.cons (Rd.rw 2) .nil)) (.cons (.var 107 (.cons (Rd.sl 103 false) (.cons (Rd.sl 9 false) .nil))) (.cons (.row 9 true) .nil))), 2, xT9, fun a b => um6 (.start a.1 b.2.1.1 b.2.1.2.1 b.2.2.1), uO9.av, uO9.bx⟩
theorem wH7 : w48.Ok := fun a b r h => ub5 (fn := Tryz.f114) (code := vx6) E_ok (by kernel_rfl) (by kernel_rfl) (by kernel_rfl) (Nat.le_of_ble_eq_true rfl) (xB1 (.start a.1 b.2.1.1 b.2.1.2.1 b.2.2.1) r h)
inductive wD4 where
 | start (s0_0 : (List ua3)) (s0_1 : (List ByteArray)) (d1_0 : ByteArray) (d1_1 : (List ByteArray)) (d1_2 : (List ua1)) (names2 : (List ByteArray)) (constructors3 : (List ByteArray))
 | p7 (constructors3 : (List ByteArray)) (e9 : Int) (C0 : (List ua3)) (C1 : (List ByteArray)) (D0 : ByteArray) (D1 : (List ByteArray)) (D2 : (List ua1))
def vc2 : wD4 → List Bool
 | .start .. => []
 | .p7 .. => [true, true]
def xi9 : wD4 → St E.S
 | .start s0_0 s0_1 d1_0 d1_1 d1_2 names2 constructors3 => st0 64 [.agg [.sl 103 s0_0 false, .sl 9 s0_1 false], .agg [.v (.string d1_0), .sl 9 d1_1 false, .sl 56 d1_2 false], .sl 9 names2 true, .sl 9 constructors3 true] []
 | .p7 constructors3 e9 C0 C1 D0 D1 D2 => mkSt 64 [3, 4, 5, 9] [.sl 9 constructors3 true, .bp 0 0, .bp 1 0, .v (.int .i64 e9)] [.var 107 [.sl 103 C0 false, .sl 9 C1 false], .var 103 [.v (.string D0), .sl 9 D1 false, .sl 56 D2 false]]
abbrev xU0 : Type := ((Int × Unit) × Unit)
def uP0 : Res E (Int × Unit) Unit := { rows := [], flat := [], keep := 0, done := [0], rl := (.cons (Rd.int .i64) .nil), rb := .nil }
def ur5 : wD4 → Option xU0
 | .start s0_0 s0_1 d1_0 d1_1 d1_2 names2 constructors3 =>
  if (fits (List.length names2) (List.length ([(⟨#[66, 105, 116]⟩ : ByteArray), (⟨#[66, 111, 111, 108]⟩ : ByteArray), (⟨#[73, 110, 116, 101, 103, 101, 114]⟩ : ByteArray)] : List ByteArray)) 16) = true then
   (ux4 (.start d1_0 (names2 ++ ([(⟨#[66, 105, 116]⟩ : ByteArray), (⟨#[66, 111, 111, 108]⟩ : ByteArray), (⟨#[73, 110, 116, 101, 103, 101, 114]⟩ : ByteArray)] : List ByteArray)))) >>= fun t1 =>
   if (decide ((List.length d1_1 : Int) ≤ (4 : Int))) = true then
    (uc4 (.start (decide ((List.length d1_2 : Int) ≤ (16 : Int))) (8 : Int))) >>= fun t2 =>
    (uc4 (.start (decide ((List.length d1_2 : Int) > (0 : Int))) (10 : Int))) >>= fun t3 =>
    (uc9 (.start ([t1.1.1, t2.1.1, t3.1.1] : List Int))) >>= fun t4 =>
    ur5 (.p7 constructors3 t4.1.1 s0_0 s0_1 d1_0 d1_1 d1_2)
   else
    (uc4 (.start false (8 : Int))) >>= fun t5 =>
    (uc4 (.start (decide ((List.length d1_2 : Int) > (0 : Int))) (10 : Int))) >>= fun t6 =>
    (uc9 (.start ([t1.1.1, t5.1.1, t6.1.1] : List Int))) >>= fun t7 =>
    ur5 (.p7 constructors3 t7.1.1 s0_0 s0_1 d1_0 d1_1 d1_2)
  else none
 | .p7 constructors3 e9 C0 C1 D0 D1 D2 =>
  if (e9 != (0 : Int)) = true then
   some ((e9, ()), ())
  else
   (um3 (.start D1 D0 D1 D2)) >>= fun t1 =>
   if (t1.1.2.1 != (0 : Int)) = true then
    some ((t1.1.2.1, ()), ())
   else
    if (fits (List.length constructors3) (List.length ([(⟨#[70, 97, 108, 115, 101]⟩ : ByteArray), (⟨#[84, 114, 117, 101]⟩ : ByteArray)] : List ByteArray)) 16) = true then
     (um6 (.start t1.2.1.2.2.1 C0 t1.2.1.2.1 (constructors3 ++ ([(⟨#[70, 97, 108, 115, 101]⟩ : ByteArray), (⟨#[84, 114, 117, 101]⟩ : ByteArray)] : List ByteArray)))) >>= fun t2 =>
     some ((t2.1.2.1, ()), ())
    else none
 partial_fixpoint
def xm9 : List (Plc E wD4) := [⟨7, [true, true], { slots := [3, 4, 5, 9], rows := [], flat := [], keep := 0 }, _, _, (.cons (Rd.sl 9 true) (.cons (Rd.bp 0 0) (.cons (Rd.bp 1 0) (.cons (Rd.int .i64) .nil)))), (.cons (.var 107 (.cons (Rd.sl 103 false) (.cons (Rd.sl 9 false) .nil))) (.cons (.var 103 (.cons Rd.str (.cons (Rd.sl 9 false) (.cons (Rd.sl 56 false) .nil)))) .nil)), fun a b => .p7 a.1 a.2.2.2.1 b.1.1 b.1.2.1 b.2.1.1 b.2.1.2.1 b.2.1.2.2.1⟩]
theorem wT7 : All (ub7 64 0 vc2 xi9) xm9 := ⟨⟨rfl, rfl, fun _ _ => rfl, fun _ _ => rfl⟩, trivial⟩
def vx7 : Code := Tryz.f77.body.getD .skip
def wt4 : Spec E.S := (Con.add w48 (Con.add w37 (Con.add uE4 (Con.add uS9 (Con.add u97 ub0)))))
theorem wa5 : ua9 E wt4 := (Con.add_ok wH7 (Con.add_ok wG8 (Con.add_ok un3 (Con.add_ok uq6 (Con.add_ok uK6 ua7)))))
theorem xB2 : ∀ pt r, ur5 pt = some r → Good E Tryz.f77 vx7 0 (uP0.av r) (uP0.bx r) (vc2 pt) (xi9 pt) := by
 refine ur5.partial_correctness (fun pt r => Good E Tryz.f77 vx7 0 (uP0.av r) (uP0.bx r) (vc2 pt) (xi9 pt)) ?_
 intro run' ih pt r hr
 cases pt <;> exact ua8 (spec := wt4) (wr := (mkWr [] [])) (l := xm9) (z := 64) (p := uP0) E_ok wT7.mem rfl wa5 ih (Eq.trans (by kernel_rfl) hr)
def w49 : Con E := ⟨77, _, _, (.cons (Rw.agg (.cons (Rw.sl 103) (.cons (Rw.sl 9) .nil))) (.cons (Rw.agg (.cons Rd.str.w (.cons (Rw.sl 9) (.cons (Rw.sl 56) .nil)))) (.cons (Rd.sl 9 true).w (.cons (Rd.sl 9 true).w .nil)))), .nil, 0, xU0, fun a b => ur5 (.start a.1.1 a.1.2.1 a.2.1.1 a.2.1.2.1 a.2.1.2.2.1 a.2.2.1 a.2.2.2.1), uP0.av, uP0.bx⟩
theorem wH8 : w49.Ok := fun a b r h => ub5 (fn := Tryz.f77) (code := vx7) E_ok (by kernel_rfl) (by kernel_rfl) (by kernel_rfl) (Nat.le_of_ble_eq_true rfl) (xB2 (.start a.1.1 a.1.2.1 a.2.1.1 a.2.1.2.1 a.2.1.2.2.1 a.2.2.1 a.2.2.2.1) r h)
inductive wD5 where
 | start (i0 : Int) (d1_0 : ByteArray) (d1_1 : (List ByteArray)) (d1_2 : (List ua1)) (B0 : (List ua3)) (B3 : (List ByteArray)) (B4 : (List ByteArray))
 | p244 (e8 : Int) (s27 : (List ua1)) (s28 : Int) (s29 : Int) (B0 : (List ua3)) (B3 : (List ByteArray)) (B4 : (List ByteArray))
def vc3 : wD5 → List Bool
 | .start .. => []
 | .p244 .. => [false, false, true, false, true, true, true]
def xj0 : wD5 → St E.S
 | .start i0 d1_0 d1_1 d1_2 B0 B3 B4 => st0 40 [.v (.int .i64 i0), .agg [.v (.string d1_0), .sl 9 d1_1 false, .sl 56 d1_2 false], .bp 0 0, .bp 1 0, .bp 2 0] [.var 22 [.sl 103 B0 false], .var 101 [.rw 3], .var 101 [.rw 4], .row 9 B3 true, .row 9 B4 true]
 | .p244 e8 s27 s28 s29 B0 B3 B4 => mkSt 40 [4, 8, 27, 28, 29] [.bp 2 0, .v (.int .i64 e8), .sl 56 s27 false, .v (.int .i64 s28), .v (.int .i64 s29)] [.var 22 [.sl 103 B0 false], .var 101 [.rw 3], .var 101 [.rw 4], .row 9 B3 true, .row 9 B4 true]
abbrev xU1 : Type := ((Int × Unit) × (((List ua3) × Unit) × ((Unit × Unit) × ((Unit × Unit) × ((List ByteArray) × ((List ByteArray) × Unit))))))
def uP1 : Res E (Int × Unit) (((List ua3) × Unit) × ((Unit × Unit) × ((Unit × Unit) × ((List ByteArray) × ((List ByteArray) × Unit))))) := { rows := [], flat := [], keep := 3, done := [0], rl := (.cons (Rd.int .i64) .nil), rb := (.cons (.var 22 (.cons (Rd.sl 103 false) .nil)) (.cons (.var 101 (.cons (Rd.rw 3) .nil)) (.cons (.var 101 (.cons (Rd.rw 4) .nil)) (.cons (.row 9 true) (.cons (.row 9 true) .nil))))) }
def um7 : wD5 → Option xU1
 | .start i0 d1_0 d1_1 d1_2 B0 B3 B4 =>
  (span (List.length B0) (0 : Int) i0) >>= fun t1 =>
  (u46 (.start B3)) >>= fun t2 =>
  (u46 (.start B4)) >>= fun t3 =>
  (ur5 (.start (cut B0 t1) ([]) d1_0 d1_1 d1_2 t2.1.1 t3.1.1)) >>= fun t4 =>
  if (fits (List.length B3) (List.length ([d1_0] : List ByteArray)) 16) = true then
   um7 (.p244 t4.1.1 d1_2 (List.length d1_2 : Int) (0 : Int) B0 (B3 ++ ([d1_0] : List ByteArray)) B4)
  else none
 | .p244 e8 s27 s28 s29 B0 B3 B4 =>
  if (decide (s29 < s28)) = true then
   (idx s27 s29) >>= fun t1 =>
   if (fits (List.length B4) (List.length ([t1.Name] : List ByteArray)) 16) = true then
    um7 (.p244 e8 s27 s28 (IntKind.wrap .i64 (s29 + (1 : Int))) B0 B3 (B4 ++ ([t1.Name] : List ByteArray)))
   else none
  else
   some ((e8, ()), ((B0, ()), (((), ()), (((), ()), (B3, (B4, ()))))))
 partial_fixpoint
def xn1 : List (Plc E wD5) := [⟨244, [false, false, true, false, true, true, true], { slots := [4, 8, 27, 28, 29], rows := [], flat := [], keep := 3 }, _, _, (.cons (Rd.bp 2 0) (.cons (Rd.int .i64) (.cons (Rd.sl 56 false) (.cons (Rd.int .i64) (.cons (Rd.int .i64) .nil))))), (.cons (.var 22 (.cons (Rd.sl 103 false) .nil)) (.cons (.var 101 (.cons (Rd.rw 3) .nil)) (.cons (.var 101 (.cons (Rd.rw 4) .nil)) (.cons (.row 9 true) (.cons (.row 9 true) .nil))))), fun a b => .p244 a.2.1 a.2.2.1 a.2.2.2.1 a.2.2.2.2.1 b.1.1 b.2.2.2.1 b.2.2.2.2.1⟩]
theorem wT8 : All (ub7 40 3 vc3 xj0) xn1 := ⟨⟨rfl, rfl, fun _ _ => rfl, fun _ _ => rfl⟩, trivial⟩
def vx8 : Code := Tryz.f76.body.getD .skip
def wt5 : Spec E.S := (Con.add w49 (Con.add xM2 ub0))
theorem wa6 : ua9 E wt5 := (Con.add_ok wH8 (Con.add_ok w65 ua7))
theorem xB3 : ∀ pt r, um7 pt = some r → Good E Tryz.f76 vx8 3 (uP1.av r) (uP1.bx r) (vc3 pt) (xj0 pt) := by
 refine um7.partial_correctness (fun pt r => Good E Tryz.f76 vx8 3 (uP1.av r) (uP1.bx r) (vc3 pt) (xj0 pt)) ?_
 intro run' ih pt r hr
 cases pt <;> exact ua8 (spec := wt5) (wr := (mkWr [] [])) (l := xn1) (z := 40) (p := uP1) E_ok wT8.mem rfl wa6 ih (Eq.trans (by kernel_rfl) hr)
def w50 : Con E := ⟨76, _, _, (.cons (Rd.int .i64).w (.cons (Rw.agg (.cons Rd.str.w (.cons (Rw.sl 9) (.cons (Rw.sl 56) .nil)))) (.cons (Rd.bp 0 0).w (.cons (Rd.bp 1 0).w (.cons (Rd.bp 2 0).w .nil))))), (.cons (.var 22 (.cons (Rd.sl 103 false) .nil)) (.cons (.var 101 (.cons (Rd.rw 3) .nil)) (.cons (.var 101 (.cons (Rd.rw 4) .nil)) (.cons (.row 9 true) (.cons (.row 9 true) .nil))))), 3, xU1, fun a b => um7 (.start a.1 a.2.1.1 a.2.1.2.1 a.2.1.2.2.1 b.1.1 b.2.2.2.1 b.2.2.2.2.1), uP1.av, uP1.bx⟩
theorem wH9 : w50.Ok := fun a b r h => ub5 (fn := Tryz.f76) (code := vx8) E_ok (by kernel_rfl) (by kernel_rfl) (by kernel_rfl) (Nat.le_of_ble_eq_true rfl) (xB3 (.start a.1 a.2.1.1 a.2.1.2.1 a.2.1.2.2.1 b.1.1 b.2.2.2.1 b.2.2.2.2.1) r h)
inductive wD6 where
 | start (l0 : (List ua3)) (B0 : (List ua3))
 | p52 (s9 : (List ua3)) (s10 : Int) (s11 : Int) (B0 : (List ua3)) (B3 : (List ByteArray)) (B4 : (List ByteArray))
def vc4 : wD6 → List Bool
 | .start .. => []
 | .p52 .. => [false, false, true, false, true]
def xj1 : wD6 → St E.S
 | .start l0 B0 => st0 25 [.sl 103 l0 false, .fn 76 [.bp 0 0, .bp 1 0, .bp 2 0]] [.var 22 [.sl 103 B0 false], .var 101 [.nl], .var 101 [.nl]]
 | .p52 s9 s10 s11 B0 B3 B4 => mkSt 25 [1, 9, 10, 11] [.fn 76 [.bp 0 0, .bp 1 0, .bp 2 0], .sl 103 s9 false, .v (.int .i64 s10), .v (.int .i64 s11)] [.var 22 [.sl 103 B0 false], .var 101 [.rw 3], .var 101 [.rw 4], .row 9 B3 true, .row 9 B4 true]
abbrev xU2 : Type := ((Int × (Int × Unit)) × (((List ua3) × Unit) × ((Unit × Unit) × ((Unit × Unit) × ((List ByteArray) × ((List ByteArray) × Unit))))))
def uP2 : Res E (Int × (Int × Unit)) (((List ua3) × Unit) × ((Unit × Unit) × ((Unit × Unit) × ((List ByteArray) × ((List ByteArray) × Unit))))) := { rows := [], flat := [], keep := 3, done := [0, 1, 100002], rl := (.cons (Rd.int .i64) (.cons (Rd.int .i64) .nil)), rb := (.cons (.var 22 (.cons (Rd.sl 103 false) .nil)) (.cons (.var 101 (.cons (Rd.rw 3) .nil)) (.cons (.var 101 (.cons (Rd.rw 4) .nil)) (.cons (.row 9 true) (.cons (.row 9 true) .nil))))) }
def up9 : wD6 → Option xU2
 | .start l0 B0 =>
  up9 (.p52 l0 (List.length l0 : Int) (0 : Int) B0 ([] : List ByteArray) ([] : List ByteArray))
 | .p52 s9 s10 s11 B0 B3 B4 =>
  if (decide (s11 < s10)) = true then
   (idx s9 s11) >>= fun t1 =>
   (um7 (.start s11 t1.Name t1.Params t1.Constructors B0 B3 B4)) >>= fun t2 =>
   if (t2.1.1 != (0 : Int)) = true then
    some ((s11, (t2.1.1, ())), ((t2.2.1.1, ()), (((), ()), (((), ()), (t2.2.2.2.2.1, (t2.2.2.2.2.2.1, ()))))))
   else
    up9 (.p52 s9 s10 (IntKind.wrap .i64 (s11 + (1 : Int))) t2.2.1.1 t2.2.2.2.2.1 t2.2.2.2.2.2.1)
  else
   some (((0 : Int), ((0 : Int), ())), ((B0, ()), (((), ()), (((), ()), (B3, (B4, ()))))))
 partial_fixpoint
def xn2 : List (Plc E wD6) := [⟨52, [false, false, true, false, true], { slots := [1, 9, 10, 11], rows := [], flat := [], keep := 3, up := [(true, 100001, 0, 9), (true, 100002, 0, 9)], done := [1] }, _, _, (.cons (Rd.fn 76 (.cons (Rd.bp 0 0) (.cons (Rd.bp 1 0) (.cons (Rd.bp 2 0) .nil)))) (.cons (Rd.sl 103 false) (.cons (Rd.int .i64) (.cons (Rd.int .i64) .nil)))), (.cons (.var 22 (.cons (Rd.sl 103 false) .nil)) (.cons (.var 101 (.cons (Rd.rw 3) .nil)) (.cons (.var 101 (.cons (Rd.rw 4) .nil)) (.cons (.row 9 true) (.cons (.row 9 true) .nil))))), fun a b => .p52 a.2.1 a.2.2.1 a.2.2.2.1 b.1.1 b.2.2.2.1 b.2.2.2.2.1⟩]
theorem wT9 : All (ub7 25 3 vc4 xj1) xn2 := ⟨⟨rfl, rfl, fun _ _ => rfl, fun _ _ => rfl⟩, trivial⟩
def vx9 : Code := Tryz.f75.body.getD .skip
def wt6 : Spec E.S := (Con.add w50 ub0)
theorem wa7 : ua9 E wt6 := (Con.add_ok wH9 ua7)
theorem xB4 : ∀ pt r, up9 pt = some r → Good E Tryz.f75 vx9 3 (uP2.av r) (uP2.bx r) (vc4 pt) (xj1 pt) := by
 refine up9.partial_correctness (fun pt r => Good E Tryz.f75 vx9 3 (uP2.av r) (uP2.bx r) (vc4 pt) (xj1 pt)) ?_
 intro run' ih pt r hr
 cases pt <;> exact ua8 (spec := wt6) (wr := (mkWr [] [])) (l := xn2) (z := 25) (p := uP2) E_ok wT9.mem rfl wa7 ih (Eq.trans (by kernel_rfl) hr)
def w51 : Con E := ⟨75, _, _, (.cons (Rw.sl 103) (.cons (Rd.fn 76 (.cons (Rd.bp 0 0) (.cons (Rd.bp 1 0) (.cons (Rd.bp 2 0) .nil)))).w .nil)), (.cons (.var 22 (.cons (Rd.sl 103 false) .nil)) (.cons (.var 101 (.cons Rd.nl .nil)) (.cons (.var 101 (.cons Rd.nl .nil)) .nil))), 3, xU2, fun a b => up9 (.start a.1 b.1.1), uP2.av, uP2.bx⟩
theorem wI0 : w51.Ok := fun a b r h => ub5 (fn := Tryz.f75) (code := vx9) E_ok (by kernel_rfl) (by kernel_rfl) (by kernel_rfl) (Nat.le_of_ble_eq_true rfl) (xB4 (.start a.1 b.1.1) r h)
inductive wD7 where
 | start (l0 : (List ua3))
def vM9 : wD7 → List Bool
 | .start .. => []
def xO7 : wD7 → St E.S
 | .start l0 => st0 14 [.sl 103 l0 false] []
abbrev xU3 : Type := ((Int × (Int × Unit)) × Unit)
def vf2 : Res E (Int × (Int × Unit)) Unit := { rows := [], flat := [], keep := 0, done := [0, 1], rl := (.cons (Rd.int .i64) (.cons (Rd.int .i64) .nil)), rb := .nil }
def uQ9 : wD7 → Option xU3
 | .start l0 =>
  if (decide ((List.length l0 : Int) > (20 : Int))) = true then
   some (((0 : Int), ((8 : Int), ())), ())
  else
   (up9 (.start l0 l0)) >>= fun t1 =>
   some ((t1.1.1, (t1.1.2.1, ())), ())
def xn3 : List (Plc E wD7) := []
theorem wU0 : All (ub7 14 0 vM9 xO7) xn3 := trivial
def wl3 : Code := Tryz.f23.body.getD .skip
def wt7 : Spec E.S := (Con.add w51 ub0)
theorem wa8 : ua9 E wt7 := (Con.add_ok wI0 ua7)
theorem xB5 : ∀ pt r, uQ9 pt = some r → Good E Tryz.f23 wl3 0 (vf2.av r) (vf2.bx r) (vM9 pt) (xO7 pt) := by
 intro pt r hr
 cases pt <;> exact ua8 (spec := wt7) (wr := (mkWr [] [])) (l := xn3) (z := 14) (p := vf2) (run' := fun _ => none) E_ok wU0.mem rfl wa8 (fun _ _ h => by cases h) (Eq.trans (by kernel_rfl) hr)
def w52 : Con E := ⟨23, _, _, (.cons (Rw.sl 103) .nil), .nil, 0, xU3, fun a b => uQ9 (.start a.1), vf2.av, vf2.bx⟩
theorem wI1 : w52.Ok := fun a b r h => ub5 (fn := Tryz.f23) (code := wl3) E_ok (by kernel_rfl) (by kernel_rfl) (by kernel_rfl) (Nat.le_of_ble_eq_true rfl) (xB5 (.start a.1) r h)
inductive vm4 where
 | start (t0_0 : Int) (t0_1 : Int) (t0_2 : ByteArray) (t0_3 : (List ua0)) (params1 : (List ByteArray)) (args2 : (List ua0))
 | p27 (params1 : (List ByteArray)) (args2 : (List ua0)) (i7 : Int) (s21 : Bool) (C0 : Int) (C1 : Int) (C2 : ByteArray) (C3 : (List ua0)) (D0 : Int) (D1 : Int) (D2 : ByteArray)
 | p500 (params1 : (List ByteArray)) (args2 : (List ua0)) (s30 : (List ua0)) (s31 : Int) (s32 : Int) (C0 : Int) (C1 : Int) (C2 : ByteArray) (D0 : Int) (D1 : Int) (D2 : ByteArray) (B2 : (List ua0))
def uF7 : vm4 → List Bool
 | .start .. => []
 | .p27 .. => [true, true, false, true]
 | .p500 .. => [false, false, true, false, true, true, true, true]
def vT4 : vm4 → St E.S
 | .start t0_0 t0_1 t0_2 t0_3 params1 args2 => st0 47 [.agg [.v (.int .i64 t0_0), .v (.int .i64 t0_1), .v (.string t0_2), .sl 25 t0_3 false], .sl 9 params1 false, .sl 25 args2 false] []
 | .p27 params1 args2 i7 s21 C0 C1 C2 C3 D0 D1 D2 => mkSt 47 [1, 2, 3, 6, 7, 21] [.sl 9 params1 false, .sl 25 args2 false, .bp 0 0, .bp 1 0, .v (.int .i64 i7), .v (.bool s21)] [.var 25 [.v (.int .i64 C0), .v (.int .i64 C1), .v (.string C2), .sl 25 C3 false], .var 25 [.v (.int .i64 D0), .v (.int .i64 D1), .v (.string D2), .nl]]
 | .p500 params1 args2 s30 s31 s32 C0 C1 C2 D0 D1 D2 B2 => mkSt 47 [1, 2, 6, 8, 30, 31, 32] [.sl 9 params1 false, .sl 25 args2 false, .bp 0 0, .bp 1 0, .sl 25 s30 false, .v (.int .i64 s31), .v (.int .i64 s32)] [.var 25 [.v (.int .i64 C0), .v (.int .i64 C1), .v (.string C2), .nl], .var 25 [.v (.int .i64 D0), .v (.int .i64 D1), .v (.string D2), .rw 2], .row 25 B2 false]
abbrev vG6 : Type := (((Int × (Int × (ByteArray × ((List ua0) × Unit)))) × Unit) × Unit)
def un8 : Res E ((Int × (Int × (ByteArray × ((List ua0) × Unit)))) × Unit) Unit := { rows := [], flat := [], keep := 0, deep := [(false, 0, 3, 25)], done := [0], rl := (.cons (Rd.agg (.cons (Rd.int .i64) (.cons (Rd.int .i64) (.cons Rd.str (.cons (Rd.sl 25 false) .nil))))) .nil), rb := .nil }
def uf1 : vm4 → Option vG6
 | .start t0_0 t0_1 t0_2 t0_3 params1 args2 =>
  (uv1 (.start params1 t0_2)) >>= fun t1 =>
  if (t0_0 == (0 : Int)) = true then
   uf1 (.p27 params1 args2 t1.1.1 (decide (t1.1.1 ≥ (0 : Int))) t0_0 t0_1 t0_2 t0_3 (0 : Int) (0 : Int) (⟨#[]⟩ : ByteArray))
  else
   uf1 (.p27 params1 args2 t1.1.1 false t0_0 t0_1 t0_2 t0_3 (0 : Int) (0 : Int) (⟨#[]⟩ : ByteArray))
 | .p27 params1 args2 i7 s21 C0 C1 C2 C3 D0 D1 D2 =>
  if s21 = true then
   (idx args2 i7) >>= fun t1 =>
   (uf1 (.start t1.Kind t1.Value t1.Name t1.Parts ([]) ([]))) >>= fun t2 =>
   some (((t2.1.1.1, (t2.1.1.2.1, (t2.1.1.2.2.1, (t2.1.1.2.2.2.1, ())))), ()), ())
  else
   uf1 (.p500 params1 args2 C3 (List.length C3 : Int) (0 : Int) D0 D1 D2 C0 C1 C2 ([] : List ua0))
 | .p500 params1 args2 s30 s31 s32 C0 C1 C2 D0 D1 D2 B2 =>
  if (decide (s32 < s31)) = true then
   (idx s30 s32) >>= fun t1 =>
   (uf1 (.start t1.Kind t1.Value t1.Name t1.Parts params1 args2)) >>= fun t2 =>
   if (fits (List.length B2) (List.length ([(⟨t2.1.1.1, t2.1.1.2.1, t2.1.1.2.2.1, t2.1.1.2.2.2.1⟩ : ua0)] : List ua0)) 56) = true then
    uf1 (.p500 params1 args2 s30 s31 (IntKind.wrap .i64 (s32 + (1 : Int))) C0 C1 C2 D0 D1 D2 (B2 ++ ([(⟨t2.1.1.1, t2.1.1.2.1, t2.1.1.2.2.1, t2.1.1.2.2.2.1⟩ : ua0)] : List ua0)))
   else none
  else
   some (((D0, (D1, (D2, (B2, ())))), ()), ())
 partial_fixpoint
def xn4 : List (Plc E vm4) := [⟨27, [true, true, false, true], { slots := [1, 2, 3, 6, 7, 21], rows := [], flat := [], keep := 0 }, _, _, (.cons (Rd.sl 9 false) (.cons (Rd.sl 25 false) (.cons (Rd.bp 0 0) (.cons (Rd.bp 1 0) (.cons (Rd.int .i64) (.cons Rd.bool .nil)))))), (.cons (.var 25 (.cons (Rd.int .i64) (.cons (Rd.int .i64) (.cons Rd.str (.cons (Rd.sl 25 false) .nil))))) (.cons (.var 25 (.cons (Rd.int .i64) (.cons (Rd.int .i64) (.cons Rd.str (.cons Rd.nl .nil))))) .nil)), fun a b => .p27 a.1 a.2.1 a.2.2.2.2.1 a.2.2.2.2.2.1 b.1.1 b.1.2.1 b.1.2.2.1 b.1.2.2.2.1 b.2.1.1 b.2.1.2.1 b.2.1.2.2.1⟩,
 ⟨500, [false, false, true, false, true, true, true, true], { slots := [1, 2, 6, 8, 30, 31, 32], rows := [], flat := [], keep := 0, up := [(true, 8, 3, 25)] }, _, _, (.cons (Rd.sl 9 false) (.cons (Rd.sl 25 false) (.cons (Rd.bp 0 0) (.cons (Rd.bp 1 0) (.cons (Rd.sl 25 false) (.cons (Rd.int .i64) (.cons (Rd.int .i64) .nil))))))), (.cons (.var 25 (.cons (Rd.int .i64) (.cons (Rd.int .i64) (.cons Rd.str (.cons Rd.nl .nil))))) (.cons (.var 25 (.cons (Rd.int .i64) (.cons (Rd.int .i64) (.cons Rd.str (.cons (Rd.rw 2) .nil))))) (.cons (.row 25 false) .nil))), fun a b => .p500 a.1 a.2.1 a.2.2.2.2.1 a.2.2.2.2.2.1 a.2.2.2.2.2.2.1 b.1.1 b.1.2.1 b.1.2.2.1 b.2.1.1 b.2.1.2.1 b.2.1.2.2.1 b.2.2.1⟩]
theorem wU1 : All (ub7 47 0 uF7 vT4) xn4 := ⟨⟨rfl, rfl, fun _ _ => rfl, fun _ _ => rfl⟩, ⟨⟨rfl, rfl, fun _ _ => rfl, fun _ _ => rfl⟩, trivial⟩⟩
def uI9 : Code := Tryz.f162.body.getD .skip
def xd7 (run' : vm4 → Option vG6) : Con E := ⟨162, ((Int × (Int × (ByteArray × ((List ua0) × Unit)))) × ((List ByteArray) × ((List ua0) × Unit))), Unit, (RwL.cons (Rw.agg (RwL.cons (Rd.int .i64).w (RwL.cons (Rd.int .i64).w (RwL.cons Rd.str.w (RwL.cons (Rw.sl 25) RwL.nil))))) (RwL.cons (Rw.sl 9) (RwL.cons (Rw.sl 25) RwL.nil))), RdBL.nil, 0, vG6, fun a b => run' (.start a.1.1 a.1.2.1 a.1.2.2.1 a.1.2.2.2.1 a.2.1 a.2.2.1), un8.av, un8.bx⟩
theorem wO0 {run' : vm4 → Option vG6} (ih : ∀ pt r, run' pt = some r → Good E Tryz.f162 uI9 0 (un8.av r) (un8.bx r) (uF7 pt) (vT4 pt)) : (xd7 run').Ok := fun a b r h => ub5 (fn := Tryz.f162) (code := uI9) E_ok (by kernel_rfl) (by kernel_rfl) (by kernel_rfl) (Nat.le_of_ble_eq_true rfl) (ih (.start a.1.1 a.1.2.1 a.1.2.2.1 a.1.2.2.2.1 a.2.1 a.2.2.1) r h)
def wt8 (run' : vm4 → Option vG6) : Spec E.S := (Con.add (xd7 run') (Con.add w84 ub0))
theorem wa9 {run' : vm4 → Option vG6} (ih : ∀ pt r, run' pt = some r → Good E Tryz.f162 uI9 0 (un8.av r) (un8.bx r) (uF7 pt) (vT4 pt)) : ua9 E (wt8 run') := (Con.add_ok (wO0 ih) (Con.add_ok vJ6 ua7))
theorem xB6 : ∀ pt r, uf1 pt = some r → Good E Tryz.f162 uI9 0 (un8.av r) (un8.bx r) (uF7 pt) (vT4 pt) := by
 refine uf1.partial_correctness (fun pt r => Good E Tryz.f162 uI9 0 (un8.av r) (un8.bx r) (uF7 pt) (vT4 pt)) ?_
 intro run' ih pt r hr
 cases pt <;> exact ua8 (spec := (wt8 run')) (wr := (mkWr [] [])) (l := xn4) (z := 47) (p := un8) E_ok wU1.mem rfl (wa9 ih) ih (Eq.trans (by kernel_rfl) hr)
def w53 : Con E := ⟨162, _, _, (.cons (Rw.agg (.cons (Rd.int .i64).w (.cons (Rd.int .i64).w (.cons Rd.str.w (.cons (Rw.sl 25) .nil))))) (.cons (Rw.sl 9) (.cons (Rw.sl 25) .nil))), .nil, 0, vG6, fun a b => uf1 (.start a.1.1 a.1.2.1 a.1.2.2.1 a.1.2.2.2.1 a.2.1 a.2.2.1), un8.av, un8.bx⟩
theorem wI2 : w53.Ok := fun a b r h => ub5 (fn := Tryz.f162) (code := uI9) E_ok (by kernel_rfl) (by kernel_rfl) (by kernel_rfl) (Nat.le_of_ble_eq_true rfl) (xB6 (.start a.1.1 a.1.2.1 a.1.2.2.1 a.1.2.2.2.1 a.2.1 a.2.2.1) r h)
inductive wD8 where
 | start (s0_0 : (List ua3)) (s0_1 : (List ByteArray)) (t1_0 : Int) (t1_1 : Int) (t1_2 : ByteArray) (t1_3 : (List ua0))
 | p500 (s26 : (List ua1)) (s27 : Int) (s28 : Int) (C0 : Int) (C1 : Int) (C2 : ByteArray) (C3 : (List ua0)) (D0 : ByteArray) (D1 : (List ByteArray)) (D2 : (List ua1)) (B2 : (List data_variant))
 | p512820 (s26 : (List ua1)) (s27 : Int) (s28 : Int) (s36 : (List ua6)) (s37 : Int) (s38 : Int) (C0 : Int) (C1 : Int) (C2 : ByteArray) (C3 : (List ua0)) (D0 : ByteArray) (D1 : (List ByteArray)) (D2 : (List ua1)) (B2 : (List data_variant)) (B3 : ByteArray) (B4 : (List ua6))
def vc5 : wD8 → List Bool
 | .start .. => []
 | .p500 .. => [false, false, true, false, true, true, true, true]
 | .p512820 .. => [false, false, true, false, true, true, false, false, true, true, false, false, true, false, true, true, true, true]
def xj2 : wD8 → St E.S
 | .start s0_0 s0_1 t1_0 t1_1 t1_2 t1_3 => st0 64 [.agg [.sl 103 s0_0 false, .sl 9 s0_1 false], .agg [.v (.int .i64 t1_0), .v (.int .i64 t1_1), .v (.string t1_2), .sl 25 t1_3 false]] []
 | .p500 s26 s27 s28 C0 C1 C2 C3 D0 D1 D2 B2 => mkSt 64 [3, 5, 7, 26, 27, 28] [.bp 0 0, .bp 1 0, .rw 2, .sl 56 s26 false, .v (.int .i64 s27), .v (.int .i64 s28)] [.var 25 [.v (.int .i64 C0), .v (.int .i64 C1), .v (.string C2), .sl 25 C3 false], .var 103 [.v (.string D0), .sl 9 D1 false, .sl 56 D2 false], .row 125 B2 false]
 | .p512820 s26 s27 s28 s36 s37 s38 C0 C1 C2 C3 D0 D1 D2 B2 B3 B4 => mkSt 64 [3, 5, 7, 10, 26, 27, 28, 36, 37, 38] [.bp 0 0, .bp 1 0, .rw 2, .bp 3 0, .sl 56 s26 false, .v (.int .i64 s27), .v (.int .i64 s28), .sl 58 s36 false, .v (.int .i64 s37), .v (.int .i64 s38)] [.var 25 [.v (.int .i64 C0), .v (.int .i64 C1), .v (.string C2), .sl 25 C3 false], .var 103 [.v (.string D0), .sl 9 D1 false, .sl 56 D2 false], .row 125 B2 false, .var 125 [.v (.string B3), .rw 4, .nl], .row 58 B4 false]
abbrev xU4 : Type := ((Unit × Unit) × ((List data_variant) × Unit))
def uP3 : Res E (Unit × Unit) ((List data_variant) × Unit) := { rows := [(0, 125)], flat := [], keep := 0, rl := (.cons (Rd.rw 0) .nil), rb := (.cons (.row 125 false) .nil) }
def ug7 : wD8 → Option xU4
 | .start s0_0 s0_1 t1_0 t1_1 t1_2 t1_3 =>
  (uH4 (.start s0_0 s0_1 t1_2)) >>= fun t1 =>
  if (!t1.1.2.1) = true then
   some (((), ()), (([(⟨(⟨#[70, 97, 108, 115, 101]⟩ : ByteArray), [], none⟩ : data_variant), (⟨(⟨#[84, 114, 117, 101]⟩ : ByteArray), [], none⟩ : data_variant)] : List data_variant), ()))
  else
   ug7 (.p500 t1.1.1.2.2.1 (List.length t1.1.1.2.2.1 : Int) (0 : Int) t1_0 t1_1 t1_2 t1_3 t1.1.1.1 t1.1.1.2.1 t1.1.1.2.2.1 ([] : List data_variant))
 | .p500 s26 s27 s28 C0 C1 C2 C3 D0 D1 D2 B2 =>
  if (decide (s28 < s27)) = true then
   (idx s26 s28) >>= fun t1 =>
   ug7 (.p512820 s26 s27 s28 t1.Fields (List.length t1.Fields : Int) (0 : Int) C0 C1 C2 C3 D0 D1 D2 B2 t1.Name ([] : List ua6))
  else
   some (((), ()), (B2, ()))
 | .p512820 s26 s27 s28 s36 s37 s38 C0 C1 C2 C3 D0 D1 D2 B2 B3 B4 =>
  if (decide (s38 < s37)) = true then
   (idx s36 s38) >>= fun t1 =>
   (uf1 (.start t1.Type_.Kind t1.Type_.Value t1.Type_.Name t1.Type_.Parts D1 C3)) >>= fun t2 =>
   if (fits (List.length B4) (List.length ([(⟨t1.Name, (⟨t2.1.1.1, t2.1.1.2.1, t2.1.1.2.2.1, t2.1.1.2.2.2.1⟩ : ua0)⟩ : ua6)] : List ua6)) 72) = true then
    ug7 (.p512820 s26 s27 s28 s36 s37 (IntKind.wrap .i64 (s38 + (1 : Int))) C0 C1 C2 C3 D0 D1 D2 B2 B3 (B4 ++ ([(⟨t1.Name, (⟨t2.1.1.1, t2.1.1.2.1, t2.1.1.2.2.1, t2.1.1.2.2.2.1⟩ : ua0)⟩ : ua6)] : List ua6)))
   else none
  else
   if (fits (List.length B2) (List.length ([(⟨B3, B4, none⟩ : data_variant)] : List data_variant)) 64) = true then
    ug7 (.p500 s26 s27 (IntKind.wrap .i64 (s28 + (1 : Int))) C0 C1 C2 C3 D0 D1 D2 (B2 ++ ([(⟨B3, B4, none⟩ : data_variant)] : List data_variant)))
   else none
 partial_fixpoint
def xn5 : List (Plc E wD8) := [⟨500, [false, false, true, false, true, true, true, true], { slots := [3, 5, 7, 26, 27, 28], rows := [(7, 125)], flat := [], keep := 0 }, _, _, (.cons (Rd.bp 0 0) (.cons (Rd.bp 1 0) (.cons (Rd.rw 2) (.cons (Rd.sl 56 false) (.cons (Rd.int .i64) (.cons (Rd.int .i64) .nil)))))), (.cons (.var 25 (.cons (Rd.int .i64) (.cons (Rd.int .i64) (.cons Rd.str (.cons (Rd.sl 25 false) .nil))))) (.cons (.var 103 (.cons Rd.str (.cons (Rd.sl 9 false) (.cons (Rd.sl 56 false) .nil)))) (.cons (.row 125 false) .nil))), fun a b => .p500 a.2.2.2.1 a.2.2.2.2.1 a.2.2.2.2.2.1 b.1.1 b.1.2.1 b.1.2.2.1 b.1.2.2.2.1 b.2.1.1 b.2.1.2.1 b.2.1.2.2.1 b.2.2.1⟩,
 ⟨512820, [false, false, true, false, true, true, false, false, true, true, false, false, true, false, true, true, true, true], { slots := [3, 5, 7, 10, 26, 27, 28, 36, 37, 38], rows := [], flat := [], keep := 0, up := [(true, 10, 1, 58)] }, _, _, (.cons (Rd.bp 0 0) (.cons (Rd.bp 1 0) (.cons (Rd.rw 2) (.cons (Rd.bp 3 0) (.cons (Rd.sl 56 false) (.cons (Rd.int .i64) (.cons (Rd.int .i64) (.cons (Rd.sl 58 false) (.cons (Rd.int .i64) (.cons (Rd.int .i64) .nil)))))))))), (.cons (.var 25 (.cons (Rd.int .i64) (.cons (Rd.int .i64) (.cons Rd.str (.cons (Rd.sl 25 false) .nil))))) (.cons (.var 103 (.cons Rd.str (.cons (Rd.sl 9 false) (.cons (Rd.sl 56 false) .nil)))) (.cons (.row 125 false) (.cons (.var 125 (.cons Rd.str (.cons (Rd.rw 4) (.cons Rd.nl .nil)))) (.cons (.row 58 false) .nil))))), fun a b => .p512820 a.2.2.2.2.1 a.2.2.2.2.2.1 a.2.2.2.2.2.2.1 a.2.2.2.2.2.2.2.1 a.2.2.2.2.2.2.2.2.1 a.2.2.2.2.2.2.2.2.2.1 b.1.1 b.1.2.1 b.1.2.2.1 b.1.2.2.2.1 b.2.1.1 b.2.1.2.1 b.2.1.2.2.1 b.2.2.1 b.2.2.2.1.1 b.2.2.2.2.1⟩]
theorem wU2 : All (ub7 64 0 vc5 xj2) xn5 := ⟨⟨rfl, rfl, fun _ _ => rfl, fun _ _ => rfl⟩, ⟨⟨rfl, rfl, fun _ _ => rfl, fun _ _ => rfl⟩, trivial⟩⟩
def vy0 : Code := Tryz.f142.body.getD .skip
def wt9 : Spec E.S := (Con.add w53 (Con.add vX9 ub0))
theorem wb0 : ua9 E wt9 := (Con.add_ok wI2 (Con.add_ok vp5 ua7))
theorem xB7 : ∀ pt r, ug7 pt = some r → Good E Tryz.f142 vy0 0 (uP3.av r) (uP3.bx r) (vc5 pt) (xj2 pt) := by
 refine ug7.partial_correctness (fun pt r => Good E Tryz.f142 vy0 0 (uP3.av r) (uP3.bx r) (vc5 pt) (xj2 pt)) ?_
 intro run' ih pt r hr
 cases pt <;> exact ua8 (spec := wt9) (wr := (mkWr [4, 7, 24, 58, 61, 63] [(64103, [10])])) (l := xn5) (z := 64) (p := uP3) E_ok wU2.mem rfl wb0 ih (Eq.trans (by kernel_rfl) hr)
def w54 : Con E := ⟨142, _, _, (.cons (Rw.agg (.cons (Rw.sl 103) (.cons (Rw.sl 9) .nil))) (.cons (Rw.agg (.cons (Rd.int .i64).w (.cons (Rd.int .i64).w (.cons Rd.str.w (.cons (Rw.sl 25) .nil))))) .nil)), .nil, 0, xU4, fun a b => ug7 (.start a.1.1 a.1.2.1 a.2.1.1 a.2.1.2.1 a.2.1.2.2.1 a.2.1.2.2.2.1), uP3.av, uP3.bx⟩
theorem wI3 : w54.Ok := fun a b r h => ub5 (fn := Tryz.f142) (code := vy0) E_ok (by kernel_rfl) (by kernel_rfl) (by kernel_rfl) (Nat.le_of_ble_eq_true rfl) (xB7 (.start a.1.1 a.1.2.1 a.2.1.1 a.2.1.2.1 a.2.1.2.2.1 a.2.1.2.2.2.1) r h)
inductive vm5 where
 | start (s0_0 : (List ua3)) (s0_1 : (List ByteArray)) (t1_0 : Int) (t1_1 : Int) (t1_2 : ByteArray) (t1_3 : (List ua0)) (deep3 : Int) (B0 : Int)
 | p31 (deep3 : Int) (few11 : Int) (B0 : Int) (D0 : (List ua3)) (D1 : (List ByteArray)) (G0 : Int) (G1 : Int) (G2 : ByteArray) (G3 : (List ua0))
 | p8180 (deep3 : Int) (s76 : Int) (s77 : Int) (B0 : Int) (D0 : (List ua3)) (D1 : (List ByteArray)) (B2 : Int) (B3 : (List data_variant))
 | p4188572 (deep3 : Int) (v15 : Int) (s76 : Int) (s77 : Int) (s89 : (List ua6)) (s90 : Int) (s91 : Int) (B0 : Int) (D0 : (List ua3)) (D1 : (List ByteArray)) (B2 : Int) (B3 : ((List data_variant) × Nat)) (B4 : (List (Option ua4)))
def uF8 : vm5 → List Bool
 | .start .. => []
 | .p31 .. => [true, true, true, true]
 | .p8180 .. => [false, false, true, false, true, true, true, true, true, true, true, true]
 | .p4188572 .. => [false, false, true, true, true, false, false, true, true, false, false, true, false, true, true, true, true, true, true, true, true]
def vT5 : vm5 → St E.S
 | .start s0_0 s0_1 t1_0 t1_1 t1_2 t1_3 deep3 B0 => st0 121 [.agg [.sl 103 s0_0 false, .sl 9 s0_1 false], .agg [.v (.int .i64 t1_0), .v (.int .i64 t1_1), .v (.string t1_2), .sl 25 t1_3 false], .bp 0 0, .v (.int .i64 deep3)] [.var 3 [.v (.int .i64 B0)]]
 | .p31 deep3 few11 B0 D0 D1 G0 G1 G2 G3 => mkSt 121 [2, 3, 4, 5, 11] [.bp 0 0, .v (.int .i64 deep3), .bp 1 0, .bp 2 0, .v (.int .i64 few11)] [.var 3 [.v (.int .i64 B0)], .var 107 [.sl 103 D0 false, .sl 9 D1 false], .var 25 [.v (.int .i64 G0), .v (.int .i64 G1), .v (.string G2), .sl 25 G3 false]]
 | .p8180 deep3 s76 s77 B0 D0 D1 B2 B3 => mkSt 121 [2, 3, 4, 13, 76, 77] [.bp 0 0, .v (.int .i64 deep3), .bp 1 0, .bp 2 0, .v (.int .i64 s76), .v (.int .i64 s77)] [.var 3 [.v (.int .i64 B0)], .var 107 [.sl 103 D0 false, .sl 9 D1 false], .var 128 [.v (.int .i64 B2), .rw 3], .row 125 B3 false]
 | .p4188572 deep3 v15 s76 s77 s89 s90 s91 B0 D0 D1 B2 B3 B4 => mkSt 121 [2, 3, 4, 13, 15, 76, 77, 89, 90, 91] [.bp 0 0, .v (.int .i64 deep3), .bp 1 0, .bp 2 0, .rp 3 125 v15 0, .v (.int .i64 s76), .v (.int .i64 s77), .sl 58 s89 false, .v (.int .i64 s90), .v (.int .i64 s91)] [.var 3 [.v (.int .i64 B0)], .var 107 [.sl 103 D0 false, .sl 9 D1 false], .var 128 [.v (.int .i64 B2), .rw 3], .lk 125 B3.1 B3.2 2 (.rw 4), .row 105 B4 false]
abbrev vG7 : Type := (((Option ua4) × (Int × Unit)) × ((Int × Unit) × Unit))
def un9 : Res E ((Option ua4) × (Int × Unit)) ((Int × Unit) × Unit) := { rows := [], flat := [], keep := 1, done := [0, 1], ptrs := [(0, 128)], rl := (.cons (Rd.op 128) (.cons (Rd.int .i64) .nil)), rb := (.cons (.var 3 (.cons (Rd.int .i64) .nil)) .nil) }
def uc6 : vm5 → Option vG7
 | .start s0_0 s0_1 t1_0 t1_1 t1_2 t1_3 deep3 B0 =>
  (uH3 (.start t1_0 t1_1 t1_2 t1_3)) >>= fun t1 =>
  if (t1.1.1 != (0 : Int)) = true then
   some ((none, (t1.1.1, ())), ((B0, ()), ()))
  else
   if (decide ((IntKind.wrap .i64 (B0 + (1 : Int))) ≤ (200 : Int))) = true then
    (uc4 (.start (decide (deep3 ≤ (40 : Int))) (8 : Int))) >>= fun t2 =>
    uc6 (.p31 deep3 t2.1.1 (IntKind.wrap .i64 (B0 + (1 : Int))) s0_0 s0_1 t1_0 t1_1 t1_2 t1_3)
   else
    (uc4 (.start false (8 : Int))) >>= fun t3 =>
    uc6 (.p31 deep3 t3.1.1 (IntKind.wrap .i64 (B0 + (1 : Int))) s0_0 s0_1 t1_0 t1_1 t1_2 t1_3)
 | .p31 deep3 few11 B0 D0 D1 G0 G1 G2 G3 =>
  if (G0 == (2 : Int)) = true then
   some ((none, ((26 : Int), ())), ((B0, ()), ()))
  else
   if (seq G2 (⟨#[66, 105, 116]⟩ : ByteArray)) = true then
    (idx G3 (0 : Int)) >>= fun t1 =>
    (uc4 (.start (t1.Kind == (2 : Int)) (26 : Int))) >>= fun t2 =>
    (uj9 (.start t1.Value (1 : Int) (16 : Int))) >>= fun t3 =>
    (uc4 (.start t3.1.1 (25 : Int))) >>= fun t4 =>
    (uc9 (.start ([t2.1.1, t4.1.1, few11] : List Int))) >>= fun t5 =>
    some ((some (⟨t1.Value, none⟩ : ua4), (t5.1.1, ())), ((B0, ()), ()))
   else
    if (few11 != (0 : Int)) = true then
     some ((none, (few11, ())), ((B0, ()), ()))
    else
     (ug7 (.start D0 D1 G0 G1 G2 G3)) >>= fun t6 =>
     uc6 (.p8180 deep3 (List.length t6.2.1 : Int) (0 : Int) B0 D0 D1 (0 : Int) t6.2.1)
 | .p8180 deep3 s76 s77 B0 D0 D1 B2 B3 =>
  if (decide (s77 < s76)) = true then
   if (decide ((0 : Int) ≤ s77) && decide (s77 < (List.length B3 : Int))) = true then
    (idx B3 s77) >>= fun t1 =>
    if (Option.isNone t1.parts) = true then
     (if s77 = (Int.toNat s77 : Int) then B3[Int.toNat s77]? else none) >>= fun t2 =>
     uc6 (.p4188572 deep3 s77 s76 s77 t2.fields (List.length t2.fields : Int) (0 : Int) B0 D0 D1 B2 (B3, Int.toNat s77) ([] : List (Option ua4)))
    else none
   else none
  else
   some ((some (⟨B2, (some B3)⟩ : ua4), ((0 : Int), ())), ((B0, ()), ()))
 | .p4188572 deep3 v15 s76 s77 s89 s90 s91 B0 D0 D1 B2 B3 B4 =>
  if (decide (s91 < s90)) = true then
   (idx s89 s91) >>= fun t1 =>
   (uc6 (.start D0 D1 t1.Type_.Kind t1.Type_.Value t1.Type_.Name t1.Type_.Parts (IntKind.wrap .i64 (deep3 + (1 : Int))) B0)) >>= fun t2 =>
   if (t2.1.2.1 != (0 : Int)) = true then
    some ((none, (t2.1.2.1, ())), ((t2.2.1.1, ()), ()))
   else
    (if v15 = (B3.2 : Int) then B3.1[B3.2]? else none) >>= fun t3 =>
    if (fits (List.length B4) (List.length ([t2.1.1] : List (Option ua4))) 8) = true then
     if v15 = (B3.2 : Int) then
      uc6 (.p4188572 deep3 v15 s76 s77 s89 s90 (IntKind.wrap .i64 (s91 + (1 : Int))) t2.2.1.1 D0 D1 B2 (B3.1, B3.2) (B4 ++ ([t2.1.1] : List (Option ua4))))
     else none
    else none
  else
   uc6 (.p8180 deep3 s76 (IntKind.wrap .i64 (s77 + (1 : Int))) B0 D0 D1 B2 (List.modify B3.1 B3.2 (fun y => (⟨y.name, y.fields, (some B4)⟩ : data_variant))))
 partial_fixpoint
def xn6 : List (Plc E vm5) := [⟨31, [true, true, true, true], { slots := [2, 3, 4, 5, 11], rows := [], flat := [], keep := 1 }, _, _, (.cons (Rd.bp 0 0) (.cons (Rd.int .i64) (.cons (Rd.bp 1 0) (.cons (Rd.bp 2 0) (.cons (Rd.int .i64) .nil))))), (.cons (.var 3 (.cons (Rd.int .i64) .nil)) (.cons (.var 107 (.cons (Rd.sl 103 false) (.cons (Rd.sl 9 false) .nil))) (.cons (.var 25 (.cons (Rd.int .i64) (.cons (Rd.int .i64) (.cons Rd.str (.cons (Rd.sl 25 false) .nil))))) .nil))), fun a b => .p31 a.2.1 a.2.2.2.2.1 b.1.1 b.2.1.1 b.2.1.2.1 b.2.2.1.1 b.2.2.1.2.1 b.2.2.1.2.2.1 b.2.2.1.2.2.2.1⟩,
 ⟨8180, [false, false, true, false, true, true, true, true, true, true, true, true], { slots := [2, 3, 4, 13, 76, 77], rows := [], flat := [], keep := 1, close := [13] }, _, _, (.cons (Rd.bp 0 0) (.cons (Rd.int .i64) (.cons (Rd.bp 1 0) (.cons (Rd.bp 2 0) (.cons (Rd.int .i64) (.cons (Rd.int .i64) .nil)))))), (.cons (.var 3 (.cons (Rd.int .i64) .nil)) (.cons (.var 107 (.cons (Rd.sl 103 false) (.cons (Rd.sl 9 false) .nil))) (.cons (.var 128 (.cons (Rd.int .i64) (.cons (Rd.rw 3) .nil))) (.cons (.row 125 false) .nil)))), fun a b => .p8180 a.2.1 a.2.2.2.2.1 a.2.2.2.2.2.1 b.1.1 b.2.1.1 b.2.1.2.1 b.2.2.1.1 b.2.2.2.1⟩,
 ⟨4188572, [false, false, true, true, true, false, false, true, true, false, false, true, false, true, true, true, true, true, true, true, true], { slots := [2, 3, 4, 13, 15, 76, 77, 89, 90, 91], rows := [], flat := [], keep := 1 }, _, _, (.cons (Rd.bp 0 0) (.cons (Rd.int .i64) (.cons (Rd.bp 1 0) (.cons (Rd.bp 2 0) (.cons (Rd.rp 3 125 0) (.cons (Rd.int .i64) (.cons (Rd.int .i64) (.cons (Rd.sl 58 false) (.cons (Rd.int .i64) (.cons (Rd.int .i64) .nil)))))))))), (.cons (.var 3 (.cons (Rd.int .i64) .nil)) (.cons (.var 107 (.cons (Rd.sl 103 false) (.cons (Rd.sl 9 false) .nil))) (.cons (.var 128 (.cons (Rd.int .i64) (.cons (Rd.rw 3) .nil))) (.cons (RdB.lk 125 2 4) (.cons (.row 105 false) .nil))))), fun a b => .p4188572 a.2.1 a.2.2.2.2.1 a.2.2.2.2.2.1 a.2.2.2.2.2.2.1 a.2.2.2.2.2.2.2.1 a.2.2.2.2.2.2.2.2.1 a.2.2.2.2.2.2.2.2.2.1 b.1.1 b.2.1.1 b.2.1.2.1 b.2.2.1.1 b.2.2.2.1 b.2.2.2.2.1⟩]
theorem wU3 : All (ub7 121 1 uF8 vT5) xn6 := ⟨⟨rfl, rfl, fun _ _ => rfl, fun _ _ => rfl⟩, ⟨⟨rfl, rfl, fun _ _ => rfl, fun _ _ => rfl⟩, ⟨⟨rfl, rfl, fun _ _ => rfl, fun _ _ => rfl⟩, trivial⟩⟩⟩
def uJ0 : Code := Tryz.f106.body.getD .skip
def xd8 (run' : vm5 → Option vG7) : Con E := ⟨106, (((List ua3) × ((List ByteArray) × Unit)) × ((Int × (Int × (ByteArray × ((List ua0) × Unit)))) × (Unit × (Int × Unit)))), ((Int × Unit) × Unit), (RwL.cons (Rw.agg (RwL.cons (Rw.sl 103) (RwL.cons (Rw.sl 9) RwL.nil))) (RwL.cons (Rw.agg (RwL.cons (Rd.int .i64).w (RwL.cons (Rd.int .i64).w (RwL.cons Rd.str.w (RwL.cons (Rw.sl 25) RwL.nil))))) (RwL.cons (Rd.bp 0 0).w (RwL.cons (Rd.int .i64).w RwL.nil)))), (RdBL.cons (RdB.var 3 (RdL.cons (Rd.int .i64) RdL.nil)) RdBL.nil), 1, vG7, fun a b => run' (.start a.1.1 a.1.2.1 a.2.1.1 a.2.1.2.1 a.2.1.2.2.1 a.2.1.2.2.2.1 a.2.2.2.1 b.1.1), un9.av, un9.bx⟩
theorem wO1 {run' : vm5 → Option vG7} (ih : ∀ pt r, run' pt = some r → Good E Tryz.f106 uJ0 1 (un9.av r) (un9.bx r) (uF8 pt) (vT5 pt)) : (xd8 run').Ok := fun a b r h => ub5 (fn := Tryz.f106) (code := uJ0) E_ok (by kernel_rfl) (by kernel_rfl) (by kernel_rfl) (Nat.le_of_ble_eq_true rfl) (ih (.start a.1.1 a.1.2.1 a.2.1.1 a.2.1.2.1 a.2.1.2.2.1 a.2.1.2.2.2.1 a.2.2.2.1 b.1.1) r h)
def wu0 (run' : vm5 → Option vG7) : Spec E.S := (Con.add (xd8 run') (Con.add w54 (Con.add uE4 (Con.add uS8 (Con.add uS9 (Con.add vX8 ub0))))))
theorem wb1 {run' : vm5 → Option vG7} (ih : ∀ pt r, run' pt = some r → Good E Tryz.f106 uJ0 1 (un9.av r) (un9.bx r) (uF8 pt) (vT5 pt)) : ua9 E (wu0 run') := (Con.add_ok (wO1 ih) (Con.add_ok wI3 (Con.add_ok un3 (Con.add_ok uq5 (Con.add_ok uq6 (Con.add_ok vp4 ua7))))))
theorem xB8 : ∀ pt r, uc6 pt = some r → Good E Tryz.f106 uJ0 1 (un9.av r) (un9.bx r) (uF8 pt) (vT5 pt) := by
 refine uc6.partial_correctness (fun pt r => Good E Tryz.f106 uJ0 1 (un9.av r) (un9.bx r) (uF8 pt) (vT5 pt)) ?_
 intro run' ih pt r hr
 cases pt <;> exact ua8 (spec := (wu0 run')) (wr := (mkWr [8, 13, 15, 17, 50, 51, 52, 69, 70, 71, 72, 73, 74, 75, 80, 81, 82, 83, 85, 86, 87, 88, 89, 93, 94, 97, 98, 108, 109, 110, 111, 112, 115, 116, 117, 120] [] [] [(85, 2)])) (l := xn6) (z := 121) (p := un9) E_ok wU3.mem rfl (wb1 ih) ih (Eq.trans (by kernel_rfl) hr)
def w55 : Con E := ⟨106, _, _, (.cons (Rw.agg (.cons (Rw.sl 103) (.cons (Rw.sl 9) .nil))) (.cons (Rw.agg (.cons (Rd.int .i64).w (.cons (Rd.int .i64).w (.cons Rd.str.w (.cons (Rw.sl 25) .nil))))) (.cons (Rd.bp 0 0).w (.cons (Rd.int .i64).w .nil)))), (.cons (.var 3 (.cons (Rd.int .i64) .nil)) .nil), 1, vG7, fun a b => uc6 (.start a.1.1 a.1.2.1 a.2.1.1 a.2.1.2.1 a.2.1.2.2.1 a.2.1.2.2.2.1 a.2.2.2.1 b.1.1), un9.av, un9.bx⟩
theorem wI4 : w55.Ok := fun a b r h => ub5 (fn := Tryz.f106) (code := uJ0) E_ok (by kernel_rfl) (by kernel_rfl) (by kernel_rfl) (Nat.le_of_ble_eq_true rfl) (xB8 (.start a.1.1 a.1.2.1 a.2.1.1 a.2.1.2.1 a.2.1.2.2.1 a.2.1.2.2.2.1 a.2.2.2.1 b.1.1) r h)
inductive wD9 where
 | start (x0 : (Option ua4))
def vN0 : wD9 → List Bool
 | .start .. => []
def xO8 : wD9 → St E.S
 | .start x0 => st0 8 [.op 128 x0] []
abbrev xU5 : Type := ((Bool × Unit) × Unit)
def vf3 : Res E (Bool × Unit) Unit := { rows := [], flat := [], keep := 0, done := [0], rl := (.cons Rd.bool .nil), rb := .nil }
def ur6 : wD9 → Option xU5
 | .start x0 =>
  x0 >>= fun t1 =>
  (x12 t1.constructors) >>= fun t2 =>
  some ((t2, ()), ())
def xn7 : List (Plc E wD9) := []
theorem wU4 : All (ub7 8 0 vN0 xO8) xn7 := trivial
def wl4 : Code := Tryz.f88.body.getD .skip
def wu1 : Spec E.S := ub0
theorem wb2 : ua9 E wu1 := ua7
theorem xB9 : ∀ pt r, ur6 pt = some r → Good E Tryz.f88 wl4 0 (vf3.av r) (vf3.bx r) (vN0 pt) (xO8 pt) := by
 intro pt r hr
 cases pt <;> exact ua8 (spec := wu1) (wr := (mkWr [] [])) (l := xn7) (z := 8) (p := vf3) (run' := fun _ => none) E_ok wU4.mem rfl wb2 (fun _ _ h => by cases h) (Eq.trans (by kernel_rfl) hr)
def uN6 : Con E := ⟨88, _, _, (.cons (Rd.op 128).w .nil), .nil, 0, xU5, fun a b => ur6 (.start a.1), vf3.av, vf3.bx⟩
theorem ut1 : uN6.Ok := fun a b r h => ub5 (fn := Tryz.f88) (code := wl4) E_ok (by kernel_rfl) (by kernel_rfl) (by kernel_rfl) (Nat.le_of_ble_eq_true rfl) (xB9 (.start a.1) r h)
inductive wE0 where
 | start (x0 : Int)
 | p7 (x0 : Int) (n2 : Int)
 | p15 (x0 : Int) (n2 : Int)
 | p31 (x0 : Int) (n2 : Int)
def vc6 : wE0 → List Bool
 | .start .. => []
 | .p7 .. => [true, true]
 | .p15 .. => [true, true, true]
 | .p31 .. => [true, true, true, true]
def xj3 : wE0 → St E.S
 | .start x0 => st0 25 [.v (.int .u64 x0)] []
 | .p7 x0 n2 => mkSt 25 [0, 2] [.v (.int .u64 x0), .v (.int .i64 n2)] []
 | .p15 x0 n2 => mkSt 25 [0, 2] [.v (.int .u64 x0), .v (.int .i64 n2)] []
 | .p31 x0 n2 => mkSt 25 [0, 2] [.v (.int .u64 x0), .v (.int .i64 n2)] []
abbrev xU6 : Type := ((Int × Unit) × Unit)
def uP4 : Res E (Int × Unit) Unit := { rows := [], flat := [], keep := 0, done := [0], rl := (.cons (Rd.int .i64) .nil), rb := .nil }
def ui9 : wE0 → Option xU6
 | .start x0 =>
  if (decide (x0 ≥ (4294967296 : Int))) = true then
   if (decide ((0 : Int) ≤ (32 : Int))) = true then
    ui9 (.p7 (shr .u64 x0 (32 : Int)) (32 : Int))
   else none
  else
   ui9 (.p7 x0 (0 : Int))
 | .p7 x0 n2 =>
  if (decide (x0 ≥ (65536 : Int))) = true then
   if (decide ((0 : Int) ≤ (16 : Int))) = true then
    ui9 (.p15 (shr .u64 x0 (16 : Int)) (IntKind.wrap .i64 (n2 + (16 : Int))))
   else none
  else
   ui9 (.p15 x0 n2)
 | .p15 x0 n2 =>
  if (decide (x0 ≥ (256 : Int))) = true then
   if (decide ((0 : Int) ≤ (8 : Int))) = true then
    ui9 (.p31 (shr .u64 x0 (8 : Int)) (IntKind.wrap .i64 (n2 + (8 : Int))))
   else none
  else
   ui9 (.p31 x0 n2)
 | .p31 x0 n2 =>
  (sidx (⟨#[0, 1, 2, 2, 3, 3, 3, 3, 4, 4, 4, 4, 4, 4, 4, 4, 5, 5, 5, 5, 5, 5, 5, 5, 5, 5, 5, 5, 5, 5, 5, 5, 6, 6, 6, 6, 6, 6, 6, 6, 6, 6, 6, 6, 6, 6, 6, 6, 6, 6, 6, 6, 6, 6, 6, 6, 6, 6, 6, 6, 6, 6, 6, 6, 7, 7, 7, 7, 7, 7, 7, 7, 7, 7, 7, 7, 7, 7, 7, 7, 7, 7, 7, 7, 7, 7, 7, 7, 7, 7, 7, 7, 7, 7, 7, 7, 7, 7, 7, 7, 7, 7, 7, 7, 7, 7, 7, 7, 7, 7, 7, 7, 7, 7, 7, 7, 7, 7, 7, 7, 7, 7, 7, 7, 7, 7, 7, 7, 8, 8, 8, 8, 8, 8, 8, 8, 8, 8, 8, 8, 8, 8, 8, 8, 8, 8, 8, 8, 8, 8, 8, 8, 8, 8, 8, 8, 8, 8, 8, 8, 8, 8, 8, 8, 8, 8, 8, 8, 8, 8, 8, 8, 8, 8, 8, 8, 8, 8, 8, 8, 8, 8, 8, 8, 8, 8, 8, 8, 8, 8, 8, 8, 8, 8, 8, 8, 8, 8, 8, 8, 8, 8, 8, 8, 8, 8, 8, 8, 8, 8, 8, 8, 8, 8, 8, 8, 8, 8, 8, 8, 8, 8, 8, 8, 8, 8, 8, 8, 8, 8, 8, 8, 8, 8, 8, 8, 8, 8, 8, 8, 8, 8, 8, 8, 8, 8, 8, 8, 8, 8, 8, 8, 8, 8, 8, 8]⟩ : ByteArray) (IntKind.wrap .u8 x0)) >>= fun t1 =>
  some ((IntKind.wrap .i64 (n2 + (IntKind.wrap .i64 t1)), ()), ())
 partial_fixpoint
def xn8 : List (Plc E wE0) := [⟨7, [true, true], { slots := [0, 2], rows := [], flat := [], keep := 0 }, _, _, (.cons (Rd.int .u64) (.cons (Rd.int .i64) .nil)), .nil, fun a b => .p7 a.1 a.2.1⟩,
 ⟨15, [true, true, true], { slots := [0, 2], rows := [], flat := [], keep := 0 }, _, _, (.cons (Rd.int .u64) (.cons (Rd.int .i64) .nil)), .nil, fun a b => .p15 a.1 a.2.1⟩,
 ⟨31, [true, true, true, true], { slots := [0, 2], rows := [], flat := [], keep := 0 }, _, _, (.cons (Rd.int .u64) (.cons (Rd.int .i64) .nil)), .nil, fun a b => .p31 a.1 a.2.1⟩]
theorem wU5 : All (ub7 25 0 vc6 xj3) xn8 := ⟨⟨rfl, rfl, fun _ _ => rfl, fun _ _ => rfl⟩, ⟨⟨rfl, rfl, fun _ _ => rfl, fun _ _ => rfl⟩, ⟨⟨rfl, rfl, fun _ _ => rfl, fun _ _ => rfl⟩, trivial⟩⟩⟩
def vy1 : Code := Tryz.f146.body.getD .skip
def wu2 : Spec E.S := ub0
theorem wb3 : ua9 E wu2 := ua7
theorem xC0 : ∀ pt r, ui9 pt = some r → Good E Tryz.f146 vy1 0 (uP4.av r) (uP4.bx r) (vc6 pt) (xj3 pt) := by
 refine ui9.partial_correctness (fun pt r => Good E Tryz.f146 vy1 0 (uP4.av r) (uP4.bx r) (vc6 pt) (xj3 pt)) ?_
 intro run' ih pt r hr
 cases pt <;> exact ua8 (spec := wu2) (wr := (mkWr [] [])) (l := xn8) (z := 25) (p := uP4) E_ok wU5.mem rfl wb3 ih (Eq.trans (by kernel_rfl) hr)
def w56 : Con E := ⟨146, _, _, (.cons (Rd.int .u64).w .nil), .nil, 0, xU6, fun a b => ui9 (.start a.1), uP4.av, uP4.bx⟩
theorem wI5 : w56.Ok := fun a b r h => ub5 (fn := Tryz.f146) (code := vy1) E_ok (by kernel_rfl) (by kernel_rfl) (by kernel_rfl) (Nat.le_of_ble_eq_true rfl) (xC0 (.start a.1) r h)
inductive wE1 where
 | start (x0 : Int)
def vN1 : wE1 → List Bool
 | .start .. => []
def xO9 : wE1 → St E.S
 | .start x0 => st0 8 [.v (.int .u64 x0)] []
abbrev xU7 : Type := ((Int × Unit) × Unit)
def vf4 : Res E (Int × Unit) Unit := { rows := [], flat := [], keep := 0, done := [0], rl := (.cons (Rd.int .i64) .nil), rb := .nil }
def u22 : wE1 → Option xU7
 | .start x0 =>
  (ui9 (.start x0)) >>= fun t1 =>
  some ((t1.1.1, ()), ())
def xn9 : List (Plc E wE1) := []
theorem wU6 : All (ub7 8 0 vN1 xO9) xn9 := trivial
def wl5 : Code := Tryz.f124.body.getD .skip
def wu3 : Spec E.S := (Con.add w56 ub0)
theorem wb4 : ua9 E wu3 := (Con.add_ok wI5 ua7)
theorem xC1 : ∀ pt r, u22 pt = some r → Good E Tryz.f124 wl5 0 (vf4.av r) (vf4.bx r) (vN1 pt) (xO9 pt) := by
 intro pt r hr
 cases pt <;> exact ua8 (spec := wu3) (wr := (mkWr [] [])) (l := xn9) (z := 8) (p := vf4) (run' := fun _ => none) E_ok wU6.mem rfl wb4 (fun _ _ h => by cases h) (Eq.trans (by kernel_rfl) hr)
def w57 : Con E := ⟨124, _, _, (.cons (Rd.int .u64).w .nil), .nil, 0, xU7, fun a b => u22 (.start a.1), vf4.av, vf4.bx⟩
theorem wI6 : w57.Ok := fun a b r h => ub5 (fn := Tryz.f124) (code := wl5) E_ok (by kernel_rfl) (by kernel_rfl) (by kernel_rfl) (Nat.le_of_ble_eq_true rfl) (xC1 (.start a.1) r h)
inductive wE2 where
 | start (x0 : (Option ua4))
def vN2 : wE2 → List Bool
 | .start .. => []
def xP0 : wE2 → St E.S
 | .start x0 => st0 11 [.op 128 x0] []
abbrev xU8 : Type := ((Int × Unit) × Unit)
def vf5 : Res E (Int × Unit) Unit := { rows := [], flat := [], keep := 0, done := [0], rl := (.cons (Rd.int .i64) .nil), rb := .nil }
def uR0 : wE2 → Option xU8
 | .start x0 =>
  x0 >>= fun t1 =>
  (u22 (.start (IntKind.wrap .u64 (IntKind.wrap .i64 ((List.length (Option.getD t1.constructors []) : Int) - (1 : Int)))))) >>= fun t2 =>
  some ((t2.1.1, ()), ())
def xo0 : List (Plc E wE2) := []
theorem wU7 : All (ub7 11 0 vN2 xP0) xo0 := trivial
def wl6 : Code := Tryz.f91.body.getD .skip
def wu4 : Spec E.S := (Con.add w57 ub0)
theorem wb5 : ua9 E wu4 := (Con.add_ok wI6 ua7)
theorem xC2 : ∀ pt r, uR0 pt = some r → Good E Tryz.f91 wl6 0 (vf5.av r) (vf5.bx r) (vN2 pt) (xP0 pt) := by
 intro pt r hr
 cases pt <;> exact ua8 (spec := wu4) (wr := (mkWr [] [])) (l := xo0) (z := 11) (p := vf5) (run' := fun _ => none) E_ok wU7.mem rfl wb5 (fun _ _ h => by cases h) (Eq.trans (by kernel_rfl) hr)
def w58 : Con E := ⟨91, _, _, (.cons (Rd.op 128).w .nil), .nil, 0, xU8, fun a b => uR0 (.start a.1), vf5.av, vf5.bx⟩
theorem wI7 : w58.Ok := fun a b r h => ub5 (fn := Tryz.f91) (code := wl6) E_ok (by kernel_rfl) (by kernel_rfl) (by kernel_rfl) (Nat.le_of_ble_eq_true rfl) (xC2 (.start a.1) r h)
inductive uX8 where
 | start (v0_0 : ByteArray) (v0_1 : (List ua6)) (v0_2 : (Option (List (Option ua4))))
 | p116 (sum3 : Int) (s7 : (Option (List (Option ua4)))) (s8 : Int) (s9 : Int)
def ut9 : uX8 → List Bool
 | .start .. => []
 | .p116 .. => [false, false, true, false, true, true]
def vk3 : uX8 → St E.S
 | .start v0_0 v0_1 v0_2 => st0 19 [.agg [.v (.string v0_0), .sl 58 v0_1 false, .so 105 v0_2]] []
 | .p116 sum3 s7 s8 s9 => mkSt 19 [3, 7, 8, 9] [.v (.int .i64 sum3), .so 105 s7, .v (.int .i64 s8), .v (.int .i64 s9)] []
abbrev vn7 : Type := ((Int × Unit) × Unit)
def ui3 : Res E (Int × Unit) Unit := { rows := [], flat := [], keep := 0, done := [0], rl := (.cons (Rd.int .i64) .nil), rb := .nil }
inductive u77 where
 | start (x0 : (Option ua4))
def uy9 : u77 → List Bool
 | .start .. => []
def vu6 : u77 → St E.S
 | .start x0 => st0 14 [.op 128 x0] []
abbrev vG8 : Type := ((Int × Unit) × Unit)
def ul1 : Res E (Int × Unit) Unit := { rows := [], flat := [], keep := 0, done := [0], rl := (.cons (Rd.int .i64) .nil), rb := .nil }
inductive uX9 where
 | start (x0 : (Option ua4))
 | p116 (most3 : Int) (s9 : (Option (List data_variant))) (s10 : Int) (s11 : Int)
def uu0 : uX9 → List Bool
 | .start .. => []
 | .p116 .. => [false, false, true, false, true, true]
def vk4 : uX9 → St E.S
 | .start x0 => st0 21 [.op 128 x0] []
 | .p116 most3 s9 s10 s11 => mkSt 21 [3, 9, 10, 11] [.v (.int .i64 most3), .so 125 s9, .v (.int .i64 s10), .v (.int .i64 s11)] []
abbrev vn8 : Type := ((Int × Unit) × Unit)
def ui4 : Res E (Int × Unit) Unit := { rows := [], flat := [], keep := 0, done := [0], rl := (.cons (Rd.int .i64) .nil), rb := .nil }
mutual
def uj0 : uX8 → Option vn7
 | .start v0_0 v0_1 v0_2 =>
  uj0 (.p116 (0 : Int) v0_2 (List.length (Option.getD v0_2 []) : Int) (0 : Int))
 | .p116 sum3 s7 s8 s9 =>
  if (decide (s9 < s8)) = true then
   (idx (Option.getD s7 []) s9) >>= fun t1 =>
   (run_z41 (.start t1)) >>= fun t2 =>
   uj0 (.p116 (IntKind.wrap .i64 (sum3 + t2.1.1)) s7 s8 (IntKind.wrap .i64 (s9 + (1 : Int))))
  else
   some ((sum3, ()), ())
 partial_fixpoint
def run_z41 : u77 → Option vG8
 | .start x0 =>
  (ur6 (.start x0)) >>= fun t1 =>
  if t1.1.1 = true then
   x0 >>= fun t2 =>
   some ((t2.bits, ()), ())
  else
   (uR0 (.start x0)) >>= fun t3 =>
   (run_z42 (.start x0)) >>= fun t4 =>
   some ((IntKind.wrap .i64 (t3.1.1 + t4.1.1), ()), ())
 partial_fixpoint
def run_z42 : uX9 → Option vn8
 | .start x0 =>
  x0 >>= fun t1 =>
  run_z42 (.p116 (0 : Int) t1.constructors (List.length (Option.getD t1.constructors []) : Int) (0 : Int))
 | .p116 most3 s9 s10 s11 =>
  if (decide (s11 < s10)) = true then
   (idx (Option.getD s9 []) s11) >>= fun t1 =>
   (uj0 (.start t1.name t1.fields t1.parts)) >>= fun t2 =>
   run_z42 (.p116 (if t2.1.1 > most3 then t2.1.1 else most3) s9 s10 (IntKind.wrap .i64 (s11 + (1 : Int))))
  else
   some ((most3, ()), ())
 partial_fixpoint
end
def xo2 : List (Plc E uX8) := [⟨116, [false, false, true, false, true, true], { slots := [3, 7, 8, 9], rows := [], flat := [], keep := 0 }, _, _, (.cons (Rd.int .i64) (.cons (Rd.so 105) (.cons (Rd.int .i64) (.cons (Rd.int .i64) .nil)))), .nil, fun a b => .p116 a.1 a.2.1 a.2.2.1 a.2.2.2.1⟩]
theorem wU8 : All (ub7 19 0 ut9 vk3) xo2 := ⟨⟨rfl, rfl, fun _ _ => rfl, fun _ _ => rfl⟩, trivial⟩
def uw1 : Code := Tryz.f89.body.getD .skip
def v18 (run' : uX8 → Option vn7) : Con E := ⟨89, ((ByteArray × ((List ua6) × ((Option (List (Option ua4))) × Unit))) × Unit), Unit, (RwL.cons (Rw.agg (RwL.cons Rd.str.w (RwL.cons (Rw.sl 58) (RwL.cons (Rd.so 105).w RwL.nil)))) RwL.nil), RdBL.nil, 0, vn7, fun a b => run' (.start a.1.1 a.1.2.1 a.1.2.2.1), ui3.av, ui3.bx⟩
theorem vs6 {run' : uX8 → Option vn7} (ih : ∀ pt r, run' pt = some r → Good E Tryz.f89 uw1 0 (ui3.av r) (ui3.bx r) (ut9 pt) (vk3 pt)) : (v18 run').Ok := fun a b r h => ub5 (fn := Tryz.f89) (code := uw1) E_ok (by kernel_rfl) (by kernel_rfl) (by kernel_rfl) (Nat.le_of_ble_eq_true rfl) (ih (.start a.1.1 a.1.2.1 a.1.2.2.1) r h)
def xo3 : List (Plc E u77) := []
theorem wU9 : All (ub7 14 0 uy9 vu6) xo3 := trivial
def uA5 : Code := Tryz.f65.body.getD .skip
def xd9 (run' : u77 → Option vG8) : Con E := ⟨65, ((Option ua4) × Unit), Unit, (RwL.cons (Rd.op 128).w RwL.nil), RdBL.nil, 0, vG8, fun a b => run' (.start a.1), ul1.av, ul1.bx⟩
theorem wO2 {run' : u77 → Option vG8} (ih : ∀ pt r, run' pt = some r → Good E Tryz.f65 uA5 0 (ul1.av r) (ul1.bx r) (uy9 pt) (vu6 pt)) : (xd9 run').Ok := fun a b r h => ub5 (fn := Tryz.f65) (code := uA5) E_ok (by kernel_rfl) (by kernel_rfl) (by kernel_rfl) (Nat.le_of_ble_eq_true rfl) (ih (.start a.1) r h)
def xo4 : List (Plc E uX9) := [⟨116, [false, false, true, false, true, true], { slots := [3, 9, 10, 11], rows := [], flat := [], keep := 0 }, _, _, (.cons (Rd.int .i64) (.cons (Rd.so 125) (.cons (Rd.int .i64) (.cons (Rd.int .i64) .nil)))), .nil, fun a b => .p116 a.1 a.2.1 a.2.2.1 a.2.2.2.1⟩]
theorem wV0 : All (ub7 21 0 uu0 vk4) xo4 := ⟨⟨rfl, rfl, fun _ _ => rfl, fun _ _ => rfl⟩, trivial⟩
def uw2 : Code := Tryz.f90.body.getD .skip
def v19 (run' : uX9 → Option vn8) : Con E := ⟨90, ((Option ua4) × Unit), Unit, (RwL.cons (Rd.op 128).w RwL.nil), RdBL.nil, 0, vn8, fun a b => run' (.start a.1), ui4.av, ui4.bx⟩
theorem vs7 {run' : uX9 → Option vn8} (ih : ∀ pt r, run' pt = some r → Good E Tryz.f90 uw2 0 (ui4.av r) (ui4.bx r) (uu0 pt) (vk4 pt)) : (v19 run').Ok := fun a b r h => ub5 (fn := Tryz.f90) (code := uw2) E_ok (by kernel_rfl) (by kernel_rfl) (by kernel_rfl) (Nat.le_of_ble_eq_true rfl) (ih (.start a.1) r h)
def wu5 (r_z40 : uX8 → Option vn7) (r_z41 : u77 → Option vG8) : Spec E.S := (Con.add (xd9 r_z41) (Con.add (v18 r_z40) ub0))
theorem wb6 {r_z40 : uX8 → Option vn7} (h_z40 : ∀ pt r, r_z40 pt = some r → Good E Tryz.f89 uw1 0 (ui3.av r) (ui3.bx r) (ut9 pt) (vk3 pt)) {r_z41 : u77 → Option vG8} (h_z41 : ∀ pt r, r_z41 pt = some r → Good E Tryz.f65 uA5 0 (ul1.av r) (ul1.bx r) (uy9 pt) (vu6 pt)) : ua9 E (wu5 r_z40 r_z41) := (Con.add_ok (wO2 h_z41) (Con.add_ok (vs6 h_z40) ua7))
def wu6 (r_z42 : uX9 → Option vn8) : Spec E.S := (Con.add (v19 r_z42) (Con.add w58 (Con.add uN6 ub0)))
theorem wb7 {r_z42 : uX9 → Option vn8} (h_z42 : ∀ pt r, r_z42 pt = some r → Good E Tryz.f90 uw2 0 (ui4.av r) (ui4.bx r) (uu0 pt) (vk4 pt)) : ua9 E (wu6 r_z42) := (Con.add_ok (vs7 h_z42) (Con.add_ok wI7 (Con.add_ok ut1 ua7)))
def wu7 (r_z40 : uX8 → Option vn7) (r_z42 : uX9 → Option vn8) : Spec E.S := (Con.add (v19 r_z42) (Con.add (v18 r_z40) ub0))
theorem wb8 {r_z40 : uX8 → Option vn7} (h_z40 : ∀ pt r, r_z40 pt = some r → Good E Tryz.f89 uw1 0 (ui3.av r) (ui3.bx r) (ut9 pt) (vk3 pt)) {r_z42 : uX9 → Option vn8} (h_z42 : ∀ pt r, r_z42 pt = some r → Good E Tryz.f90 uw2 0 (ui4.av r) (ui4.bx r) (uu0 pt) (vk4 pt)) : ua9 E (wu7 r_z40 r_z42) := (Con.add_ok (vs7 h_z42) (Con.add_ok (vs6 h_z40) ua7))
theorem va6 : (∀ pt r, uj0 pt = some r → Good E Tryz.f89 uw1 0 (ui3.av r) (ui3.bx r) (ut9 pt) (vk3 pt)) ∧ (∀ pt r, run_z41 pt = some r → Good E Tryz.f65 uA5 0 (ul1.av r) (ul1.bx r) (uy9 pt) (vu6 pt)) ∧ (∀ pt r, run_z42 pt = some r → Good E Tryz.f90 uw2 0 (ui4.av r) (ui4.bx r) (uu0 pt) (vk4 pt)) := by
  refine uj0.mutual_partial_correctness (fun pt r => Good E Tryz.f89 uw1 0 (ui3.av r) (ui3.bx r) (ut9 pt) (vk3 pt)) (fun pt r => Good E Tryz.f65 uA5 0 (ul1.av r) (ul1.bx r) (uy9 pt) (vu6 pt)) (fun pt r => Good E Tryz.f90 uw2 0 (ui4.av r) (ui4.bx r) (uu0 pt) (vk4 pt)) ?_ ?_ ?_
  · intro r_z40 r_z41 h_z40 h_z41 pt r hr
    cases pt <;> exact ua8 (spec := (wu5 r_z40 r_z41)) (wr := (mkWr [] [])) (l := xo2) (z := 19) (p := ui3) E_ok wU8.mem rfl (wb6 h_z40 h_z41) h_z40 (Eq.trans (by kernel_rfl) hr)
  · intro r_z42 h_z42 pt r hr
    cases pt <;> exact ua8 (spec := (wu6 r_z42)) (wr := (mkWr [] [])) (l := xo3) (z := 14) (p := ul1) (run' := fun _ => none) E_ok wU9.mem rfl (wb7 h_z42) (fun _ _ h => by cases h) (Eq.trans (by kernel_rfl) hr)
  · intro r_z40 r_z42 h_z40 h_z42 pt r hr
    cases pt <;> exact ua8 (spec := (wu7 r_z40 r_z42)) (wr := (mkWr [] [])) (l := xo4) (z := 21) (p := ui4) E_ok wV0.mem rfl (wb8 h_z40 h_z42) h_z42 (Eq.trans (by kernel_rfl) hr)
theorem xC3 : ∀ pt r, uj0 pt = some r → Good E Tryz.f89 uw1 0 (ui3.av r) (ui3.bx r) (ut9 pt) (vk3 pt) := va6.1
theorem xC4 : ∀ pt r, run_z41 pt = some r → Good E Tryz.f65 uA5 0 (ul1.av r) (ul1.bx r) (uy9 pt) (vu6 pt) := va6.2.1
theorem xC5 : ∀ pt r, run_z42 pt = some r → Good E Tryz.f90 uw2 0 (ui4.av r) (ui4.bx r) (uu0 pt) (vk4 pt) := va6.2.2
def w60 : Con E := ⟨89, _, _, (.cons (Rw.agg (.cons Rd.str.w (.cons (Rw.sl 58) (.cons (Rd.so 105).w .nil)))) .nil), .nil, 0, vn7, fun a b => uj0 (.start a.1.1 a.1.2.1 a.1.2.2.1), ui3.av, ui3.bx⟩
theorem wI8 : w60.Ok := fun a b r h => ub5 (fn := Tryz.f89) (code := uw1) E_ok (by kernel_rfl) (by kernel_rfl) (by kernel_rfl) (Nat.le_of_ble_eq_true rfl) (xC3 (.start a.1.1 a.1.2.1 a.1.2.2.1) r h)
def uY8 : Con E := ⟨65, _, _, (.cons (Rd.op 128).w .nil), .nil, 0, vG8, fun a b => run_z41 (.start a.1), ul1.av, ul1.bx⟩
theorem ux8 : uY8.Ok := fun a b r h => ub5 (fn := Tryz.f65) (code := uA5) E_ok (by kernel_rfl) (by kernel_rfl) (by kernel_rfl) (Nat.le_of_ble_eq_true rfl) (xC4 (.start a.1) r h)
def vY1 : Con E := ⟨90, _, _, (.cons (Rd.op 128).w .nil), .nil, 0, vn8, fun a b => run_z42 (.start a.1), ui4.av, ui4.bx⟩
theorem vp7 : vY1.Ok := fun a b r h => ub5 (fn := Tryz.f90) (code := uw2) E_ok (by kernel_rfl) (by kernel_rfl) (by kernel_rfl) (Nat.le_of_ble_eq_true rfl) (xC5 (.start a.1) r h)
inductive wE3 where
 | start (l0 : (List ua3)) (t1_0 : Int) (t1_1 : Int) (t1_2 : ByteArray) (t1_3 : (List ua0))
def vN3 : wE3 → List Bool
 | .start .. => []
def xP1 : wE3 → St E.S
 | .start l0 t1_0 t1_1 t1_2 t1_3 => st0 49 [.sl 103 l0 false, .agg [.v (.int .i64 t1_0), .v (.int .i64 t1_1), .v (.string t1_2), .sl 25 t1_3 false]] []
abbrev xU9 : Type := (((Option ua4) × (((List ua3) × (Unit × Unit)) × (Int × Unit))) × Unit)
def vf6 : Res E ((Option ua4) × (((List ua3) × (Unit × Unit)) × (Int × Unit))) Unit := { rows := [], flat := [], keep := 0, done := [0, 1, 2], ptrs := [(0, 128)], rl := (.cons (Rd.op 128) (.cons (Rd.agg (.cons (Rd.sl 103 false) (.cons Rd.nl .nil))) (.cons (Rd.int .i64) .nil))), rb := .nil }
def uu8 : wE3 → Option xU9
 | .start l0 t1_0 t1_1 t1_2 t1_3 =>
  (uQ9 (.start l0)) >>= fun t1 =>
  if (t1.1.2.1 != (0 : Int)) = true then
   some ((none, ((l0, ((), ())), (t1.1.2.1, ()))), ())
  else
   (uH5 (.start l0 ([]) t1_0 t1_1 t1_2 t1_3)) >>= fun t2 =>
   if (t2.1.1 != (0 : Int)) = true then
    some ((none, ((l0, ((), ())), (t2.1.1, ()))), ())
   else
    (uc6 (.start l0 ([]) t1_0 t1_1 t1_2 t1_3 (1 : Int) (0 : Int))) >>= fun t3 =>
    if (t3.1.2.1 == (0 : Int)) = true then
     (run_z41 (.start t3.1.1)) >>= fun t4 =>
     (uj9 (.start t4.1.1 (1 : Int) (16 : Int))) >>= fun t5 =>
     if (!t5.1.1) = true then
      some ((t3.1.1, ((l0, ((), ())), ((25 : Int), ()))), ())
     else
      some ((t3.1.1, ((l0, ((), ())), (t3.1.2.1, ()))), ())
    else
     some ((t3.1.1, ((l0, ((), ())), (t3.1.2.1, ()))), ())
def xo5 : List (Plc E wE3) := []
theorem wV1 : All (ub7 49 0 vN3 xP1) xo5 := trivial
def wl7 : Code := Tryz.f64.body.getD .skip
def wu8 : Spec E.S := (Con.add uS8 (Con.add uY8 (Con.add w55 (Con.add vY0 (Con.add w52 ub0)))))
theorem wb9 : ua9 E wu8 := (Con.add_ok uq5 (Con.add_ok ux8 (Con.add_ok wI4 (Con.add_ok vp6 (Con.add_ok wI1 ua7)))))
theorem xC6 : ∀ pt r, uu8 pt = some r → Good E Tryz.f64 wl7 0 (vf6.av r) (vf6.bx r) (vN3 pt) (xP1 pt) := by
 intro pt r hr
 cases pt <;> exact ua8 (spec := wu8) (wr := (mkWr [] [])) (l := xo5) (z := 49) (p := vf6) (run' := fun _ => none) E_ok wV1.mem rfl wb9 (fun _ _ h => by cases h) (Eq.trans (by kernel_rfl) hr)
def uY9 : Con E := ⟨64, _, _, (.cons (Rw.sl 103) (.cons (Rw.agg (.cons (Rd.int .i64).w (.cons (Rd.int .i64).w (.cons Rd.str.w (.cons (Rw.sl 25) .nil))))) .nil)), .nil, 0, xU9, fun a b => uu8 (.start a.1 a.2.1.1 a.2.1.2.1 a.2.1.2.2.1 a.2.1.2.2.2.1), vf6.av, vf6.bx⟩
theorem ux9 : uY9.Ok := fun a b r h => ub5 (fn := Tryz.f64) (code := wl7) E_ok (by kernel_rfl) (by kernel_rfl) (by kernel_rfl) (Nat.le_of_ble_eq_true rfl) (xC6 (.start a.1 a.2.1.1 a.2.1.2.1 a.2.1.2.2.1 a.2.1.2.2.2.1) r h)
inductive wE4 where
 | start (l0 : (List ua3)) (t1_0 : Int) (t1_1 : Int) (t1_2 : ByteArray) (t1_3 : (List ua0))
def vN4 : wE4 → List Bool
 | .start .. => []
def xP2 : wE4 → St E.S
 | .start l0 t1_0 t1_1 t1_2 t1_3 => st0 21 [.sl 103 l0 false, .agg [.v (.int .i64 t1_0), .v (.int .i64 t1_1), .v (.string t1_2), .sl 25 t1_3 false]] []
abbrev xV0 : Type := ((Int × (Int × Unit)) × Unit)
def vf7 : Res E (Int × (Int × Unit)) Unit := { rows := [], flat := [], keep := 0, done := [0, 1], rl := (.cons (Rd.int .i64) (.cons (Rd.int .i64) .nil)), rb := .nil }
def uH6 : wE4 → Option xV0
 | .start l0 t1_0 t1_1 t1_2 t1_3 =>
  (uu8 (.start l0 t1_0 t1_1 t1_2 t1_3)) >>= fun t1 =>
  if (t1.1.2.2.1 != (0 : Int)) = true then
   some (((0 : Int), (t1.1.2.2.1, ())), ())
  else
   (run_z41 (.start t1.1.1)) >>= fun t2 =>
   some ((t2.1.1, ((0 : Int), ())), ())
def xo6 : List (Plc E wE4) := []
theorem wV2 : All (ub7 21 0 vN4 xP2) xo6 := trivial
def wl8 : Code := Tryz.f14.body.getD .skip
def wu9 : Spec E.S := (Con.add uY8 (Con.add uY9 ub0))
theorem wc0 : ua9 E wu9 := (Con.add_ok ux8 (Con.add_ok ux9 ua7))
theorem xC7 : ∀ pt r, uH6 pt = some r → Good E Tryz.f14 wl8 0 (vf7.av r) (vf7.bx r) (vN4 pt) (xP2 pt) := by
 intro pt r hr
 cases pt <;> exact ua8 (spec := wu9) (wr := (mkWr [] [])) (l := xo6) (z := 21) (p := vf7) (run' := fun _ => none) E_ok wV2.mem rfl wc0 (fun _ _ h => by cases h) (Eq.trans (by kernel_rfl) hr)
def vY2 : Con E := ⟨14, _, _, (.cons (Rw.sl 103) (.cons (Rw.agg (.cons (Rd.int .i64).w (.cons (Rd.int .i64).w (.cons Rd.str.w (.cons (Rw.sl 25) .nil))))) .nil)), .nil, 0, xV0, fun a b => uH6 (.start a.1 a.2.1.1 a.2.1.2.1 a.2.1.2.2.1 a.2.1.2.2.2.1), vf7.av, vf7.bx⟩
theorem vp8 : vY2.Ok := fun a b r h => ub5 (fn := Tryz.f14) (code := wl8) E_ok (by kernel_rfl) (by kernel_rfl) (by kernel_rfl) (Nat.le_of_ble_eq_true rfl) (xC7 (.start a.1 a.2.1.1 a.2.1.2.1 a.2.1.2.2.1 a.2.1.2.2.2.1) r h)
inductive wE5 where
 | start (name0 : ByteArray) (parts1 : (List ua5))
def vN5 : wE5 → List Bool
 | .start .. => []
def xP3 : wE5 → St E.S
 | .start name0 parts1 => st0 8 [.v (.string name0), .sl 37 parts1 false] []
abbrev xV1 : Type := (((ByteArray × (Int × ((List ua5) × Unit))) × Unit) × Unit)
def vf8 : Res E ((ByteArray × (Int × ((List ua5) × Unit))) × Unit) Unit := { rows := [], flat := [], keep := 0, done := [0], rl := (.cons (Rd.agg (.cons Rd.str (.cons (Rd.int .i64) (.cons (Rd.sl 37 false) .nil)))) .nil), rb := .nil }
def uu9 : wE5 → Option xV1
 | .start name0 parts1 =>
  some (((name0, ((0 : Int), (parts1, ()))), ()), ())
def xo7 : List (Plc E wE5) := []
theorem wV3 : All (ub7 8 0 vN5 xP3) xo7 := trivial
def wl9 : Code := Tryz.f60.body.getD .skip
def wv0 : Spec E.S := ub0
theorem wc1 : ua9 E wv0 := ua7
theorem xC8 : ∀ pt r, uu9 pt = some r → Good E Tryz.f60 wl9 0 (vf8.av r) (vf8.bx r) (vN5 pt) (xP3 pt) := by
 intro pt r hr
 cases pt <;> exact ua8 (spec := wv0) (wr := (mkWr [] [])) (l := xo7) (z := 8) (p := vf8) (run' := fun _ => none) E_ok wV3.mem rfl wc1 (fun _ _ h => by cases h) (Eq.trans (by kernel_rfl) hr)
def w61 : Con E := ⟨60, _, _, (.cons Rd.str.w (.cons (Rw.sl 37) .nil)), .nil, 0, xV1, fun a b => uu9 (.start a.1 a.2.1), vf8.av, vf8.bx⟩
theorem wI9 : w61.Ok := fun a b r h => ub5 (fn := Tryz.f60) (code := wl9) E_ok (by kernel_rfl) (by kernel_rfl) (by kernel_rfl) (Nat.le_of_ble_eq_true rfl) (xC8 (.start a.1 a.2.1) r h)
inductive wE6 where
 | start (v0_0 : ByteArray) (v0_1 : Int) (v0_2 : (List ua5))
def vN6 : wE6 → List Bool
 | .start .. => []
def xP4 : wE6 → St E.S
 | .start v0_0 v0_1 v0_2 => st0 5 [.agg [.v (.string v0_0), .v (.int .i64 v0_1), .sl 37 v0_2 false]] []
abbrev xV2 : Type := (((List ua5) × Unit) × Unit)
def vf9 : Res E ((List ua5) × Unit) Unit := { rows := [], flat := [], keep := 0, done := [0], rl := (.cons (Rd.sl 37 false) .nil), rb := .nil }
def u23 : wE6 → Option xV2
 | .start v0_0 v0_1 v0_2 =>
  some ((v0_2, ()), ())
def xo8 : List (Plc E wE6) := []
theorem wV4 : All (ub7 5 0 vN6 xP4) xo8 := trivial
def wm0 : Code := Tryz.f95.body.getD .skip
def wv1 : Spec E.S := ub0
theorem wc2 : ua9 E wv1 := ua7
theorem xC9 : ∀ pt r, u23 pt = some r → Good E Tryz.f95 wm0 0 (vf9.av r) (vf9.bx r) (vN6 pt) (xP4 pt) := by
 intro pt r hr
 cases pt <;> exact ua8 (spec := wv1) (wr := (mkWr [] [])) (l := xo8) (z := 5) (p := vf9) (run' := fun _ => none) E_ok wV4.mem rfl wc2 (fun _ _ h => by cases h) (Eq.trans (by kernel_rfl) hr)
def w62 : Con E := ⟨95, _, _, (.cons (Rw.agg (.cons Rd.str.w (.cons (Rd.int .i64).w (.cons (Rw.sl 37) .nil)))) .nil), .nil, 0, xV2, fun a b => u23 (.start a.1.1 a.1.2.1 a.1.2.2.1), vf9.av, vf9.bx⟩
theorem wJ0 : w62.Ok := fun a b r h => ub5 (fn := Tryz.f95) (code := wm0) E_ok (by kernel_rfl) (by kernel_rfl) (by kernel_rfl) (Nat.le_of_ble_eq_true rfl) (xC9 (.start a.1.1 a.1.2.1 a.1.2.2.1) r h)
inductive vm6 where
 | start (x0_0 : ByteArray) (x0_1 : Int) (x0_2 : (List ua5)) (depth1 : Int) (B0 : Int)
 | p15 (depth1 : Int) (B0 : Int) (H0 : ByteArray) (H1 : Int) (H2 : (List ua5))
 | p244 (depth1 : Int) (s20 : (List ua5)) (s21 : Int) (s22 : Int) (B0 : Int)
def uF9 : vm6 → List Bool
 | .start .. => []
 | .p15 .. => [true, true, true]
 | .p244 .. => [false, false, true, false, true, true, true]
def vT6 : vm6 → St E.S
 | .start x0_0 x0_1 x0_2 depth1 B0 => st0 33 [.agg [.v (.string x0_0), .v (.int .i64 x0_1), .sl 37 x0_2 false], .v (.int .i64 depth1), .bp 0 0, .bp 1 0, .bp 2 0] [.var 3 [.v (.int .i64 B0)], .var 136 [.fn 95 []], .var 173 [.fn 131 [.bp 0 0, .bp 1 0, .bp 2 0]]]
 | .p15 depth1 B0 H0 H1 H2 => mkSt 33 [1, 3, 4, 5] [.v (.int .i64 depth1), .bp 1 0, .bp 2 0, .bp 3 0] [.var 3 [.v (.int .i64 B0)], .var 136 [.fn 95 []], .var 173 [.fn 131 [.bp 0 0, .bp 1 0, .bp 2 0]], .var 37 [.v (.string H0), .v (.int .i64 H1), .sl 37 H2 false]]
 | .p244 depth1 s20 s21 s22 B0 => mkSt 33 [1, 4, 20, 21, 22] [.v (.int .i64 depth1), .bp 2 0, .sl 37 s20 false, .v (.int .i64 s21), .v (.int .i64 s22)] [.var 3 [.v (.int .i64 B0)], .var 136 [.fn 95 []], .var 173 [.fn 131 [.bp 0 0, .bp 1 0, .bp 2 0]]]
abbrev vG9 : Type := ((Bool × Unit) × ((Int × Unit) × ((Unit × Unit) × (((Unit × (Unit × (Unit × Unit))) × Unit) × Unit))))
def uo0 : Res E (Bool × Unit) ((Int × Unit) × ((Unit × Unit) × (((Unit × (Unit × (Unit × Unit))) × Unit) × Unit))) := { rows := [], flat := [], keep := 3, done := [0], rl := (.cons Rd.bool .nil), rb := (.cons (.var 3 (.cons (Rd.int .i64) .nil)) (.cons (.var 136 (.cons (Rd.fn 95 .nil) .nil)) (.cons (.var 173 (.cons (Rd.fn 131 (.cons (Rd.bp 0 0) (.cons (Rd.bp 1 0) (.cons (Rd.bp 2 0) .nil)))) .nil)) .nil))) }
def uj1 : vm6 → Option vG9
 | .start x0_0 x0_1 x0_2 depth1 B0 =>
  if (decide ((IntKind.wrap .i64 (B0 + (1 : Int))) > (200 : Int))) = true then
   some ((false, ()), ((IntKind.wrap .i64 (B0 + (1 : Int)), ()), (((), ()), ((((), ((), ((), ()))), ()), ()))))
  else
   if (decide (depth1 > (40 : Int))) = true then
    some ((false, ()), ((IntKind.wrap .i64 (B0 + (1 : Int)), ()), (((), ()), ((((), ((), ((), ()))), ()), ()))))
   else
    uj1 (.p15 depth1 (IntKind.wrap .i64 (B0 + (1 : Int))) x0_0 x0_1 x0_2)
 | .p15 depth1 B0 H0 H1 H2 =>
  (u23 (.start H0 H1 H2)) >>= fun t1 =>
  uj1 (.p244 depth1 t1.1.1 (List.length t1.1.1 : Int) (0 : Int) B0)
 | .p244 depth1 s20 s21 s22 B0 =>
  if (decide (s22 < s21)) = true then
   (idx s20 s22) >>= fun t1 =>
   (uj1 (.start t1.Name t1.Number t1.Parts (IntKind.wrap .i64 (depth1 + (1 : Int))) B0)) >>= fun t2 =>
   if (!t2.1.1) = true then
    some ((false, ()), ((t2.2.1.1, ()), (((), ()), ((((), ((), ((), ()))), ()), ()))))
   else
    uj1 (.p244 depth1 s20 s21 (IntKind.wrap .i64 (s22 + (1 : Int))) t2.2.1.1)
  else
   some ((true, ()), ((B0, ()), (((), ()), ((((), ((), ((), ()))), ()), ()))))
 partial_fixpoint
def xo9 : List (Plc E vm6) := [⟨15, [true, true, true], { slots := [1, 3, 4, 5], rows := [], flat := [], keep := 3 }, _, _, (.cons (Rd.int .i64) (.cons (Rd.bp 1 0) (.cons (Rd.bp 2 0) (.cons (Rd.bp 3 0) .nil)))), (.cons (.var 3 (.cons (Rd.int .i64) .nil)) (.cons (.var 136 (.cons (Rd.fn 95 .nil) .nil)) (.cons (.var 173 (.cons (Rd.fn 131 (.cons (Rd.bp 0 0) (.cons (Rd.bp 1 0) (.cons (Rd.bp 2 0) .nil)))) .nil)) (.cons (.var 37 (.cons Rd.str (.cons (Rd.int .i64) (.cons (Rd.sl 37 false) .nil)))) .nil)))), fun a b => .p15 a.1 b.1.1 b.2.2.2.1.1 b.2.2.2.1.2.1 b.2.2.2.1.2.2.1⟩,
 ⟨244, [false, false, true, false, true, true, true], { slots := [1, 4, 20, 21, 22], rows := [], flat := [], keep := 3 }, _, _, (.cons (Rd.int .i64) (.cons (Rd.bp 2 0) (.cons (Rd.sl 37 false) (.cons (Rd.int .i64) (.cons (Rd.int .i64) .nil))))), (.cons (.var 3 (.cons (Rd.int .i64) .nil)) (.cons (.var 136 (.cons (Rd.fn 95 .nil) .nil)) (.cons (.var 173 (.cons (Rd.fn 131 (.cons (Rd.bp 0 0) (.cons (Rd.bp 1 0) (.cons (Rd.bp 2 0) .nil)))) .nil)) .nil))), fun a b => .p244 a.1 a.2.2.1 a.2.2.2.1 a.2.2.2.2.1 b.1.1⟩]
theorem wV5 : All (ub7 33 3 uF9 vT6) xo9 := ⟨⟨rfl, rfl, fun _ _ => rfl, fun _ _ => rfl⟩, ⟨⟨rfl, rfl, fun _ _ => rfl, fun _ _ => rfl⟩, trivial⟩⟩
def uJ1 : Code := Tryz.f131.body.getD .skip
def xe0 (run' : vm6 → Option vG9) : Con E := ⟨131, ((ByteArray × (Int × ((List ua5) × Unit))) × (Int × (Unit × (Unit × (Unit × Unit))))), ((Int × Unit) × ((Unit × Unit) × (((Unit × (Unit × (Unit × Unit))) × Unit) × Unit))), (RwL.cons (Rw.agg (RwL.cons Rd.str.w (RwL.cons (Rd.int .i64).w (RwL.cons (Rw.sl 37) RwL.nil)))) (RwL.cons (Rd.int .i64).w (RwL.cons (Rd.bp 0 0).w (RwL.cons (Rd.bp 1 0).w (RwL.cons (Rd.bp 2 0).w RwL.nil))))), (RdBL.cons (RdB.var 3 (RdL.cons (Rd.int .i64) RdL.nil)) (RdBL.cons (RdB.var 136 (RdL.cons (Rd.fn 95 RdL.nil) RdL.nil)) (RdBL.cons (RdB.var 173 (RdL.cons (Rd.fn 131 (RdL.cons (Rd.bp 0 0) (RdL.cons (Rd.bp 1 0) (RdL.cons (Rd.bp 2 0) RdL.nil)))) RdL.nil)) RdBL.nil))), 3, vG9, fun a b => run' (.start a.1.1 a.1.2.1 a.1.2.2.1 a.2.1 b.1.1), uo0.av, uo0.bx⟩
theorem wO3 {run' : vm6 → Option vG9} (ih : ∀ pt r, run' pt = some r → Good E Tryz.f131 uJ1 3 (uo0.av r) (uo0.bx r) (uF9 pt) (vT6 pt)) : (xe0 run').Ok := fun a b r h => ub5 (fn := Tryz.f131) (code := uJ1) E_ok (by kernel_rfl) (by kernel_rfl) (by kernel_rfl) (Nat.le_of_ble_eq_true rfl) (ih (.start a.1.1 a.1.2.1 a.1.2.2.1 a.2.1 b.1.1) r h)
def wv2 (run' : vm6 → Option vG9) : Spec E.S := (Con.add (xe0 run') (Con.add w62 ub0))
theorem wc3 {run' : vm6 → Option vG9} (ih : ∀ pt r, run' pt = some r → Good E Tryz.f131 uJ1 3 (uo0.av r) (uo0.bx r) (uF9 pt) (vT6 pt)) : ua9 E (wv2 run') := (Con.add_ok (wO3 ih) (Con.add_ok wJ0 ua7))
theorem xD0 : ∀ pt r, uj1 pt = some r → Good E Tryz.f131 uJ1 3 (uo0.av r) (uo0.bx r) (uF9 pt) (vT6 pt) := by
 refine uj1.partial_correctness (fun pt r => Good E Tryz.f131 uJ1 3 (uo0.av r) (uo0.bx r) (uF9 pt) (vT6 pt)) ?_
 intro run' ih pt r hr
 cases pt <;> exact ua8 (spec := (wv2 run')) (wr := (mkWr [] [])) (l := xo9) (z := 33) (p := uo0) E_ok wV5.mem rfl (wc3 ih) ih (Eq.trans (by kernel_rfl) hr)
def w63 : Con E := ⟨131, _, _, (.cons (Rw.agg (.cons Rd.str.w (.cons (Rd.int .i64).w (.cons (Rw.sl 37) .nil)))) (.cons (Rd.int .i64).w (.cons (Rd.bp 0 0).w (.cons (Rd.bp 1 0).w (.cons (Rd.bp 2 0).w .nil))))), (.cons (.var 3 (.cons (Rd.int .i64) .nil)) (.cons (.var 136 (.cons (Rd.fn 95 .nil) .nil)) (.cons (.var 173 (.cons (Rd.fn 131 (.cons (Rd.bp 0 0) (.cons (Rd.bp 1 0) (.cons (Rd.bp 2 0) .nil)))) .nil)) .nil))), 3, vG9, fun a b => uj1 (.start a.1.1 a.1.2.1 a.1.2.2.1 a.2.1 b.1.1), uo0.av, uo0.bx⟩
theorem wJ1 : w63.Ok := fun a b r h => ub5 (fn := Tryz.f131) (code := uJ1) E_ok (by kernel_rfl) (by kernel_rfl) (by kernel_rfl) (Nat.le_of_ble_eq_true rfl) (xD0 (.start a.1.1 a.1.2.1 a.1.2.2.1 a.2.1 b.1.1) r h)
inductive wE7 where
 | start (root0_0 : ByteArray) (root0_1 : Int) (root0_2 : (List ua5))
def vN7 : wE7 → List Bool
 | .start .. => []
def xP5 : wE7 → St E.S
 | .start root0_0 root0_1 root0_2 => st0 12 [.agg [.v (.string root0_0), .v (.int .i64 root0_1), .sl 37 root0_2 false], .fn 95 []] []
abbrev xV3 : Type := ((Int × Unit) × Unit)
def vg0 : Res E (Int × Unit) Unit := { rows := [], flat := [], keep := 0, done := [0], rl := (.cons (Rd.int .i64) .nil), rb := .nil }
def uH7 : wE7 → Option xV3
 | .start root0_0 root0_1 root0_2 =>
  (uj1 (.start root0_0 root0_1 root0_2 (1 : Int) (0 : Int))) >>= fun t1 =>
  (uc4 (.start t1.1.1 (8 : Int))) >>= fun t2 =>
  some ((t2.1.1, ()), ())
def xp0 : List (Plc E wE7) := []
theorem wV6 : All (ub7 12 0 vN7 xP5) xp0 := trivial
def wm1 : Code := Tryz.f94.body.getD .skip
def wv3 : Spec E.S := (Con.add uS9 (Con.add w63 ub0))
theorem wc4 : ua9 E wv3 := (Con.add_ok uq6 (Con.add_ok wJ1 ua7))
theorem xD1 : ∀ pt r, uH7 pt = some r → Good E Tryz.f94 wm1 0 (vg0.av r) (vg0.bx r) (vN7 pt) (xP5 pt) := by
 intro pt r hr
 cases pt <;> exact ua8 (spec := wv3) (wr := (mkWr [] [])) (l := xp0) (z := 12) (p := vg0) (run' := fun _ => none) E_ok wV6.mem rfl wc4 (fun _ _ h => by cases h) (Eq.trans (by kernel_rfl) hr)
def vY3 : Con E := ⟨94, _, _, (.cons (Rw.agg (.cons Rd.str.w (.cons (Rd.int .i64).w (.cons (Rw.sl 37) .nil)))) (.cons (Rd.fn 95 .nil).w .nil)), .nil, 0, xV3, fun a b => uH7 (.start a.1.1 a.1.2.1 a.1.2.2.1), vg0.av, vg0.bx⟩
theorem vp9 : vY3.Ok := fun a b r h => ub5 (fn := Tryz.f94) (code := wm1) E_ok (by kernel_rfl) (by kernel_rfl) (by kernel_rfl) (Nat.le_of_ble_eq_true rfl) (xD1 (.start a.1.1 a.1.2.1 a.1.2.2.1) r h)
inductive wE8 where
 | start (v0_0 : ByteArray) (v0_1 : (List ua6)) (v0_2 : (Option (List (Option ua4)))) (s1 : ByteArray)
def vN8 : wE8 → List Bool
 | .start .. => []
def xP6 : wE8 → St E.S
 | .start v0_0 v0_1 v0_2 s1 => st0 8 [.agg [.v (.string v0_0), .sl 58 v0_1 false, .so 105 v0_2], .el 9 s1 0] []
abbrev xV4 : Type := ((Bool × Unit) × Unit)
def vg1 : Res E (Bool × Unit) Unit := { rows := [], flat := [], keep := 0, done := [0], rl := (.cons Rd.bool .nil), rb := .nil }
def u24 : wE8 → Option xV4
 | .start v0_0 v0_1 v0_2 s1 =>
  some ((seq v0_0 s1, ()), ())
def xp1 : List (Plc E wE8) := []
theorem wV7 : All (ub7 8 0 vN8 xP6) xp1 := trivial
def wm2 : Code := Tryz.f123.body.getD .skip
def wv4 : Spec E.S := ub0
theorem wc5 : ua9 E wv4 := ua7
theorem xD2 : ∀ pt r, u24 pt = some r → Good E Tryz.f123 wm2 0 (vg1.av r) (vg1.bx r) (vN8 pt) (xP6 pt) := by
 intro pt r hr
 cases pt <;> exact ua8 (spec := wv4) (wr := (mkWr [] [])) (l := xp1) (z := 8) (p := vg1) (run' := fun _ => none) E_ok wV7.mem rfl wc5 (fun _ _ h => by cases h) (Eq.trans (by kernel_rfl) hr)
def w64 : Con E := ⟨123, _, _, (.cons (Rw.agg (.cons Rd.str.w (.cons (Rw.sl 58) (.cons (Rd.so 105).w .nil)))) (.cons (Rd.el 9 0).w .nil)), .nil, 0, xV4, fun a b => u24 (.start a.1.1 a.1.2.1 a.1.2.2.1 a.2.1), vg1.av, vg1.bx⟩
theorem wJ2 : w64.Ok := fun a b r h => ub5 (fn := Tryz.f123) (code := wm2) E_ok (by kernel_rfl) (by kernel_rfl) (by kernel_rfl) (Nat.le_of_ble_eq_true rfl) (xD2 (.start a.1.1 a.1.2.1 a.1.2.2.1 a.2.1) r h)
inductive wE9 where
 | start (s0 : (Option (List data_variant))) (B0 : ByteArray)
 | p52 (s0 : (Option (List data_variant))) (s7 : Int) (s8 : Int) (B0 : ByteArray)
def vc7 : wE9 → List Bool
 | .start .. => []
 | .p52 .. => [false, false, true, false, true]
def xj4 : wE9 → St E.S
 | .start s0 B0 => st0 19 [.so 125 s0, .fn 123 [.bp 0 0]] [.var 9 [.v (.string B0)]]
 | .p52 s0 s7 s8 B0 => mkSt 19 [0, 1, 7, 8] [.so 125 s0, .fn 123 [.bp 0 0], .v (.int .i64 s7), .v (.int .i64 s8)] [.var 9 [.v (.string B0)]]
abbrev xV5 : Type := ((Int × Unit) × ((ByteArray × Unit) × Unit))
def uP5 : Res E (Int × Unit) ((ByteArray × Unit) × Unit) := { rows := [], flat := [], keep := 1, done := [0], rl := (.cons (Rd.int .i64) .nil), rb := (.cons (.var 9 (.cons Rd.str .nil)) .nil) }
def um8 : wE9 → Option xV5
 | .start s0 B0 =>
  um8 (.p52 s0 (List.length (Option.getD s0 []) : Int) (0 : Int) B0)
 | .p52 s0 s7 s8 B0 =>
  if (decide (s8 < s7)) = true then
   (idx (Option.getD s0 []) s8) >>= fun t1 =>
   (u24 (.start t1.name t1.fields t1.parts B0)) >>= fun t2 =>
   if t2.1.1 = true then
    some ((s8, ()), ((B0, ()), ()))
   else
    um8 (.p52 s0 s7 (IntKind.wrap .i64 (s8 + (1 : Int))) B0)
  else
   some (((-1 : Int), ()), ((B0, ()), ()))
 partial_fixpoint
def xp3 : List (Plc E wE9) := [⟨52, [false, false, true, false, true], { slots := [0, 1, 7, 8], rows := [], flat := [], keep := 1 }, _, _, (.cons (Rd.so 125) (.cons (Rd.fn 123 (.cons (Rd.bp 0 0) .nil)) (.cons (Rd.int .i64) (.cons (Rd.int .i64) .nil)))), (.cons (.var 9 (.cons Rd.str .nil)) .nil), fun a b => .p52 a.1 a.2.2.1 a.2.2.2.1 b.1.1⟩]
theorem wV8 : All (ub7 19 1 vc7 xj4) xp3 := ⟨⟨rfl, rfl, fun _ _ => rfl, fun _ _ => rfl⟩, trivial⟩
def vy2 : Code := Tryz.f122.body.getD .skip
def wv5 : Spec E.S := (Con.add w64 ub0)
theorem wc6 : ua9 E wv5 := (Con.add_ok wJ2 ua7)
theorem xD3 : ∀ pt r, um8 pt = some r → Good E Tryz.f122 vy2 1 (uP5.av r) (uP5.bx r) (vc7 pt) (xj4 pt) := by
 refine um8.partial_correctness (fun pt r => Good E Tryz.f122 vy2 1 (uP5.av r) (uP5.bx r) (vc7 pt) (xj4 pt)) ?_
 intro run' ih pt r hr
 cases pt <;> exact ua8 (spec := wv5) (wr := (mkWr [] [])) (l := xp3) (z := 19) (p := uP5) E_ok wV8.mem rfl wc6 ih (Eq.trans (by kernel_rfl) hr)
def w66 : Con E := ⟨122, _, _, (.cons (Rd.so 125).w (.cons (Rd.fn 123 (.cons (Rd.bp 0 0) .nil)).w .nil)), (.cons (.var 9 (.cons Rd.str .nil)) .nil), 1, xV5, fun a b => um8 (.start a.1 b.1.1), uP5.av, uP5.bx⟩
theorem wJ3 : w66.Ok := fun a b r h => ub5 (fn := Tryz.f122) (code := vy2) E_ok (by kernel_rfl) (by kernel_rfl) (by kernel_rfl) (Nat.le_of_ble_eq_true rfl) (xD3 (.start a.1 b.1.1) r h)
inductive wF0 where
 | start (x0 : (Option ua4)) (name1 : ByteArray)
def vN9 : wF0 → List Bool
 | .start .. => []
def xP7 : wF0 → St E.S
 | .start x0 name1 => st0 11 [.op 128 x0, .v (.string name1)] []
abbrev xV6 : Type := ((Int × Unit) × Unit)
def vg2 : Res E (Int × Unit) Unit := { rows := [], flat := [], keep := 0, done := [0], rl := (.cons (Rd.int .i64) .nil), rb := .nil }
def uH8 : wF0 → Option xV6
 | .start x0 name1 =>
  x0 >>= fun t1 =>
  (um8 (.start t1.constructors name1)) >>= fun t2 =>
  some ((t2.1.1, ()), ())
def xp4 : List (Plc E wF0) := []
theorem wV9 : All (ub7 11 0 vN9 xP7) xp4 := trivial
def wm3 : Code := Tryz.f80.body.getD .skip
def wv6 : Spec E.S := (Con.add w66 ub0)
theorem wc7 : ua9 E wv6 := (Con.add_ok wJ3 ua7)
theorem xD4 : ∀ pt r, uH8 pt = some r → Good E Tryz.f80 wm3 0 (vg2.av r) (vg2.bx r) (vN9 pt) (xP7 pt) := by
 intro pt r hr
 cases pt <;> exact ua8 (spec := wv6) (wr := (mkWr [] [])) (l := xp4) (z := 11) (p := vg2) (run' := fun _ => none) E_ok wV9.mem rfl wc7 (fun _ _ h => by cases h) (Eq.trans (by kernel_rfl) hr)
def vY4 : Con E := ⟨80, _, _, (.cons (Rd.op 128).w (.cons Rd.str.w .nil)), .nil, 0, xV6, fun a b => uH8 (.start a.1 a.2.1), vg2.av, vg2.bx⟩
theorem vq0 : vY4.Ok := fun a b r h => ub5 (fn := Tryz.f80) (code := wm3) E_ok (by kernel_rfl) (by kernel_rfl) (by kernel_rfl) (Nat.le_of_ble_eq_true rfl) (xD4 (.start a.1 a.2.1) r h)
inductive vm7 where
 | start (i0 : Int) (part1_0 : ByteArray) (part1_1 : Int) (part1_2 : (List ua5)) (C0 : ByteArray) (C1 : (List ua6)) (C2 : (Option (List (Option ua4))))
def uG0 : vm7 → List Bool
 | .start .. => []
def vT7 : vm7 → St E.S
 | .start i0 part1_0 part1_1 part1_2 C0 C1 C2 => st0 13 [.v (.int .i64 i0), .agg [.v (.string part1_0), .v (.int .i64 part1_1), .sl 37 part1_2 false], .bp 0 0] [.var 125 [.v (.string C0), .sl 58 C1 false, .so 105 C2]]
abbrev vV5 : Type := ((Int × Unit) × ((ByteArray × ((List ua6) × ((Option (List (Option ua4))) × Unit))) × Unit))
def uu5 : Res E (Int × Unit) ((ByteArray × ((List ua6) × ((Option (List (Option ua4))) × Unit))) × Unit) := { rows := [], flat := [], keep := 1, done := [0], rl := (.cons (Rd.int .i64) .nil), rb := (.cons (.var 125 (.cons Rd.str (.cons (Rd.sl 58 false) (.cons (Rd.so 105) .nil)))) .nil) }
inductive u78 where
 | start (x0 : (Option ua4)) (v1_0 : ByteArray) (v1_1 : Int) (v1_2 : (List ua5))
def uz0 : u78 → List Bool
 | .start .. => []
def vu7 : u78 → St E.S
 | .start x0 v1_0 v1_1 v1_2 => st0 72 [.op 128 x0, .agg [.v (.string v1_0), .v (.int .i64 v1_1), .sl 37 v1_2 false]] []
abbrev vH0 : Type := ((Int × Unit) × Unit)
def ul2 : Res E (Int × Unit) Unit := { rows := [], flat := [], keep := 0, done := [0], rl := (.cons (Rd.int .i64) .nil), rb := .nil }
inductive u54 where
 | start (l0 : (List ua5)) (C0 : ByteArray) (C1 : (List ua6)) (C2 : (Option (List (Option ua4))))
 | p52 (s9 : (List ua5)) (s10 : Int) (s11 : Int) (C0 : ByteArray) (C1 : (List ua6)) (C2 : (Option (List (Option ua4))))
def uz1 : u54 → List Bool
 | .start .. => []
 | .p52 .. => [false, false, true, false, true]
def vu8 : u54 → St E.S
 | .start l0 C0 C1 C2 => st0 25 [.sl 37 l0 false, .fn 143 [.bp 0 0]] [.var 125 [.v (.string C0), .sl 58 C1 false, .so 105 C2]]
 | .p52 s9 s10 s11 C0 C1 C2 => mkSt 25 [1, 9, 10, 11] [.fn 143 [.bp 0 0], .sl 37 s9 false, .v (.int .i64 s10), .v (.int .i64 s11)] [.var 125 [.v (.string C0), .sl 58 C1 false, .so 105 C2]]
abbrev vv9 : Type := ((Int × (Int × Unit)) × ((ByteArray × ((List ua6) × ((Option (List (Option ua4))) × Unit))) × Unit))
def uo1 : Res E (Int × (Int × Unit)) ((ByteArray × ((List ua6) × ((Option (List (Option ua4))) × Unit))) × Unit) := { rows := [], flat := [], keep := 1, done := [0, 1], rl := (.cons (Rd.int .i64) (.cons (Rd.int .i64) .nil)), rb := (.cons (.var 125 (.cons Rd.str (.cons (Rd.sl 58 false) (.cons (Rd.so 105) .nil)))) .nil) }
mutual
def u25 : vm7 → Option vV5
 | .start i0 part1_0 part1_1 part1_2 C0 C1 C2 =>
  (idx (Option.getD C2 []) i0) >>= fun t1 =>
  (run_z53 (.start t1 part1_0 part1_1 part1_2)) >>= fun t2 =>
  some ((t2.1.1, ()), ((C0, (C1, (C2, ()))), ()))
 partial_fixpoint
def run_z53 : u78 → Option vH0
 | .start x0 v1_0 v1_1 v1_2 =>
  (ur6 (.start x0)) >>= fun t1 =>
  if t1.1.1 = true then
   if (seq v1_0 (⟨#[]⟩ : ByteArray)) = true then
    (uc4 (.start ((List.length v1_2 : Int) == (0 : Int)) (3 : Int))) >>= fun t2 =>
    x0 >>= fun t3 =>
    if (decide ((0 : Int) ≤ t3.bits)) = true then
     (uj9 (.start v1_1 (0 : Int) (IntKind.wrap .i64 ((shl .i64 (1 : Int) t3.bits) - (1 : Int))))) >>= fun t4 =>
     (uc4 (.start t4.1.1 (2 : Int))) >>= fun t5 =>
     (uc9 (.start ([t2.1.1, t5.1.1] : List Int))) >>= fun t6 =>
     some ((t6.1.1, ()), ())
    else none
   else
    (uc4 (.start false (3 : Int))) >>= fun t7 =>
    x0 >>= fun t8 =>
    if (decide ((0 : Int) ≤ t8.bits)) = true then
     (uj9 (.start v1_1 (0 : Int) (IntKind.wrap .i64 ((shl .i64 (1 : Int) t8.bits) - (1 : Int))))) >>= fun t9 =>
     (uc4 (.start t9.1.1 (2 : Int))) >>= fun t10 =>
     (uc9 (.start ([t7.1.1, t10.1.1] : List Int))) >>= fun t11 =>
     some ((t11.1.1, ()), ())
    else none
  else
   (uH8 (.start x0 v1_0)) >>= fun t12 =>
   if (decide (t12.1.1 < (0 : Int))) = true then
    some (((6 : Int), ()), ())
   else
    x0 >>= fun t13 =>
    (idx (Option.getD t13.constructors []) t12.1.1) >>= fun t14 =>
    (uc4 (.start (v1_1 == (0 : Int)) (3 : Int))) >>= fun t15 =>
    (uc4 (.start ((List.length v1_2 : Int) == (List.length (Option.getD t14.parts []) : Int)) (10 : Int))) >>= fun t16 =>
    (uc9 (.start ([t15.1.1, t16.1.1] : List Int))) >>= fun t17 =>
    if (t17.1.1 != (0 : Int)) = true then
     some ((t17.1.1, ()), ())
    else
     (run_z54 (.start v1_2 t14.name t14.fields t14.parts)) >>= fun t18 =>
     some ((t18.1.2.1, ()), ())
 partial_fixpoint
def run_z54 : u54 → Option vv9
 | .start l0 C0 C1 C2 =>
  run_z54 (.p52 l0 (List.length l0 : Int) (0 : Int) C0 C1 C2)
 | .p52 s9 s10 s11 C0 C1 C2 =>
  if (decide (s11 < s10)) = true then
   (idx s9 s11) >>= fun t1 =>
   (u25 (.start s11 t1.Name t1.Number t1.Parts C0 C1 C2)) >>= fun t2 =>
   if (t2.1.1 != (0 : Int)) = true then
    some ((s11, (t2.1.1, ())), ((t2.2.1.1, (t2.2.1.2.1, (t2.2.1.2.2.1, ()))), ()))
   else
    run_z54 (.p52 s9 s10 (IntKind.wrap .i64 (s11 + (1 : Int))) t2.2.1.1 t2.2.1.2.1 t2.2.1.2.2.1)
  else
   some (((0 : Int), ((0 : Int), ())), ((C0, (C1, (C2, ()))), ()))
 partial_fixpoint
end
def xp5 : List (Plc E vm7) := []
theorem wW0 : All (ub7 13 1 uG0 vT7) xp5 := trivial
def uS5 : Code := Tryz.f143.body.getD .skip
def xe1 (run' : vm7 → Option vV5) : Con E := ⟨143, (Int × ((ByteArray × (Int × ((List ua5) × Unit))) × (Unit × Unit))), ((ByteArray × ((List ua6) × ((Option (List (Option ua4))) × Unit))) × Unit), (RwL.cons (Rd.int .i64).w (RwL.cons (Rw.agg (RwL.cons Rd.str.w (RwL.cons (Rd.int .i64).w (RwL.cons (Rw.sl 37) RwL.nil)))) (RwL.cons (Rd.bp 0 0).w RwL.nil))), (RdBL.cons (RdB.var 125 (RdL.cons Rd.str (RdL.cons (Rd.sl 58 false) (RdL.cons (Rd.so 105) RdL.nil)))) RdBL.nil), 1, vV5, fun a b => run' (.start a.1 a.2.1.1 a.2.1.2.1 a.2.1.2.2.1 b.1.1 b.1.2.1 b.1.2.2.1), uu5.av, uu5.bx⟩
theorem wO4 {run' : vm7 → Option vV5} (ih : ∀ pt r, run' pt = some r → Good E Tryz.f143 uS5 1 (uu5.av r) (uu5.bx r) (uG0 pt) (vT7 pt)) : (xe1 run').Ok := fun a b r h => ub5 (fn := Tryz.f143) (code := uS5) E_ok (by kernel_rfl) (by kernel_rfl) (by kernel_rfl) (Nat.le_of_ble_eq_true rfl) (ih (.start a.1 a.2.1.1 a.2.1.2.1 a.2.1.2.2.1 b.1.1 b.1.2.1 b.1.2.2.1) r h)
def xp6 : List (Plc E u78) := []
theorem wW1 : All (ub7 72 0 uz0 vu7) xp6 := trivial
def uA6 : Code := Tryz.f109.body.getD .skip
def xe2 (run' : u78 → Option vH0) : Con E := ⟨109, ((Option ua4) × ((ByteArray × (Int × ((List ua5) × Unit))) × Unit)), Unit, (RwL.cons (Rd.op 128).w (RwL.cons (Rw.agg (RwL.cons Rd.str.w (RwL.cons (Rd.int .i64).w (RwL.cons (Rw.sl 37) RwL.nil)))) RwL.nil)), RdBL.nil, 0, vH0, fun a b => run' (.start a.1 a.2.1.1 a.2.1.2.1 a.2.1.2.2.1), ul2.av, ul2.bx⟩
theorem wO5 {run' : u78 → Option vH0} (ih : ∀ pt r, run' pt = some r → Good E Tryz.f109 uA6 0 (ul2.av r) (ul2.bx r) (uz0 pt) (vu7 pt)) : (xe2 run').Ok := fun a b r h => ub5 (fn := Tryz.f109) (code := uA6) E_ok (by kernel_rfl) (by kernel_rfl) (by kernel_rfl) (Nat.le_of_ble_eq_true rfl) (ih (.start a.1 a.2.1.1 a.2.1.2.1 a.2.1.2.2.1) r h)
def xp7 : List (Plc E u54) := [⟨52, [false, false, true, false, true], { slots := [1, 9, 10, 11], rows := [], flat := [], keep := 1 }, _, _, (.cons (Rd.fn 143 (.cons (Rd.bp 0 0) .nil)) (.cons (Rd.sl 37 false) (.cons (Rd.int .i64) (.cons (Rd.int .i64) .nil)))), (.cons (.var 125 (.cons Rd.str (.cons (Rd.sl 58 false) (.cons (Rd.so 105) .nil)))) .nil), fun a b => .p52 a.2.1 a.2.2.1 a.2.2.2.1 b.1.1 b.1.2.1 b.1.2.2.1⟩]
theorem wW2 : All (ub7 25 1 uz1 vu8) xp7 := ⟨⟨rfl, rfl, fun _ _ => rfl, fun _ _ => rfl⟩, trivial⟩
def uJ2 : Code := Tryz.f134.body.getD .skip
def v21 (run' : u54 → Option vv9) : Con E := ⟨134, ((List ua5) × ((Unit × Unit) × Unit)), ((ByteArray × ((List ua6) × ((Option (List (Option ua4))) × Unit))) × Unit), (RwL.cons (Rw.sl 37) (RwL.cons (Rd.fn 143 (RdL.cons (Rd.bp 0 0) RdL.nil)).w RwL.nil)), (RdBL.cons (RdB.var 125 (RdL.cons Rd.str (RdL.cons (Rd.sl 58 false) (RdL.cons (Rd.so 105) RdL.nil)))) RdBL.nil), 1, vv9, fun a b => run' (.start a.1 b.1.1 b.1.2.1 b.1.2.2.1), uo1.av, uo1.bx⟩
theorem vs8 {run' : u54 → Option vv9} (ih : ∀ pt r, run' pt = some r → Good E Tryz.f134 uJ2 1 (uo1.av r) (uo1.bx r) (uz1 pt) (vu8 pt)) : (v21 run').Ok := fun a b r h => ub5 (fn := Tryz.f134) (code := uJ2) E_ok (by kernel_rfl) (by kernel_rfl) (by kernel_rfl) (Nat.le_of_ble_eq_true rfl) (ih (.start a.1 b.1.1 b.1.2.1 b.1.2.2.1) r h)
def wv7 (r_z53 : u78 → Option vH0) : Spec E.S := (Con.add (xe2 r_z53) ub0)
theorem wc8 {r_z53 : u78 → Option vH0} (h_z53 : ∀ pt r, r_z53 pt = some r → Good E Tryz.f109 uA6 0 (ul2.av r) (ul2.bx r) (uz0 pt) (vu7 pt)) : ua9 E (wv7 r_z53) := (Con.add_ok (wO5 h_z53) ua7)
def wv8 (r_z54 : u54 → Option vv9) : Spec E.S := (Con.add (v21 r_z54) (Con.add vY4 (Con.add uE4 (Con.add uS8 (Con.add uS9 (Con.add uN6 ub0))))))
theorem wc9 {r_z54 : u54 → Option vv9} (h_z54 : ∀ pt r, r_z54 pt = some r → Good E Tryz.f134 uJ2 1 (uo1.av r) (uo1.bx r) (uz1 pt) (vu8 pt)) : ua9 E (wv8 r_z54) := (Con.add_ok (vs8 h_z54) (Con.add_ok vq0 (Con.add_ok un3 (Con.add_ok uq5 (Con.add_ok uq6 (Con.add_ok ut1 ua7))))))
def wv9 (r_z52 : vm7 → Option vV5) (r_z54 : u54 → Option vv9) : Spec E.S := (Con.add (v21 r_z54) (Con.add (xe1 r_z52) ub0))
theorem wd0 {r_z52 : vm7 → Option vV5} (h_z52 : ∀ pt r, r_z52 pt = some r → Good E Tryz.f143 uS5 1 (uu5.av r) (uu5.bx r) (uG0 pt) (vT7 pt)) {r_z54 : u54 → Option vv9} (h_z54 : ∀ pt r, r_z54 pt = some r → Good E Tryz.f134 uJ2 1 (uo1.av r) (uo1.bx r) (uz1 pt) (vu8 pt)) : ua9 E (wv9 r_z52 r_z54) := (Con.add_ok (vs8 h_z54) (Con.add_ok (wO4 h_z52) ua7))
theorem xb4 : (∀ pt r, u25 pt = some r → Good E Tryz.f143 uS5 1 (uu5.av r) (uu5.bx r) (uG0 pt) (vT7 pt)) ∧ (∀ pt r, run_z53 pt = some r → Good E Tryz.f109 uA6 0 (ul2.av r) (ul2.bx r) (uz0 pt) (vu7 pt)) ∧ (∀ pt r, run_z54 pt = some r → Good E Tryz.f134 uJ2 1 (uo1.av r) (uo1.bx r) (uz1 pt) (vu8 pt)) := by
  refine u25.mutual_partial_correctness (fun pt r => Good E Tryz.f143 uS5 1 (uu5.av r) (uu5.bx r) (uG0 pt) (vT7 pt)) (fun pt r => Good E Tryz.f109 uA6 0 (ul2.av r) (ul2.bx r) (uz0 pt) (vu7 pt)) (fun pt r => Good E Tryz.f134 uJ2 1 (uo1.av r) (uo1.bx r) (uz1 pt) (vu8 pt)) ?_ ?_ ?_
  · intro r_z53 h_z53 pt r hr
    cases pt <;> exact ua8 (spec := (wv7 r_z53)) (wr := (mkWr [] [])) (l := xp5) (z := 13) (p := uu5) (run' := fun _ => none) E_ok wW0.mem rfl (wc8 h_z53) (fun _ _ h => by cases h) (Eq.trans (by kernel_rfl) hr)
  · intro r_z54 h_z54 pt r hr
    cases pt <;> exact ua8 (spec := (wv8 r_z54)) (wr := (mkWr [] [])) (l := xp6) (z := 72) (p := ul2) (run' := fun _ => none) E_ok wW1.mem rfl (wc9 h_z54) (fun _ _ h => by cases h) (Eq.trans (by kernel_rfl) hr)
  · intro r_z52 r_z54 h_z52 h_z54 pt r hr
    cases pt <;> exact ua8 (spec := (wv9 r_z52 r_z54)) (wr := (mkWr [] [])) (l := xp7) (z := 25) (p := uo1) E_ok wW2.mem rfl (wd0 h_z52 h_z54) h_z54 (Eq.trans (by kernel_rfl) hr)
theorem xD5 : ∀ pt r, run_z53 pt = some r → Good E Tryz.f109 uA6 0 (ul2.av r) (ul2.bx r) (uz0 pt) (vu7 pt) := xb4.2.1
def w67 : Con E := ⟨109, _, _, (.cons (Rd.op 128).w (.cons (Rw.agg (.cons Rd.str.w (.cons (Rd.int .i64).w (.cons (Rw.sl 37) .nil)))) .nil)), .nil, 0, vH0, fun a b => run_z53 (.start a.1 a.2.1.1 a.2.1.2.1 a.2.1.2.2.1), ul2.av, ul2.bx⟩
theorem wJ4 : w67.Ok := fun a b r h => ub5 (fn := Tryz.f109) (code := uA6) E_ok (by kernel_rfl) (by kernel_rfl) (by kernel_rfl) (Nat.le_of_ble_eq_true rfl) (xD5 (.start a.1 a.2.1.1 a.2.1.2.1 a.2.1.2.2.1) r h)
end
end Go.Proofs.YtaennkkcnhfglaaGreatDoor.Ev.F
