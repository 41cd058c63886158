/- A part of the proof. -/
import Derived.Test.YtjededkgblbamaaGreatDoorIEvShelf
import Derived.Test.YtjededkgblbamaaGreatDoorIEvSplit
import Derived.Test.YtjededkgblbamaaGreatDoorIShelf
import Derived.Test.YtjededkgblbamaaGreatDoorIEvLib
import Derived.Test.YtjededkgblbamaaGreatDoorIEvRun
import Derived.Test.YtjededkgblbamaaGreatDoorProg
set_option linter.unusedVariables false
set_option maxRecDepth 100000
namespace Go.Proofs.YtjededkgblbamaaGreatDoor.Ev.F
open Go.Proofs Go.Proofs.YtjededkgblbamaaGreatDoor.Ev
noncomputable section
structure ua3 where
 Op : Int
 A : Int
 B : Int
 N : Int
structure uo2 where
 name : ByteArray
 a : Bool
 b : Bool
 n : Bool
structure ua1 where
 Name : ByteArray
 Kind : Int
 Width : Int
 Init : Int
 Clock : Int
structure ua0 where
 node : Int
 width : Int
structure ua2 where
 Op : Int
 Width : Int
 Args : (List Int)
 Value : Int
structure ub4 where
 Element : Int
 When : Int
 Value : Int
structure ua5 where
 Name : ByteArray
 Guard : Int
 Writes : (List ub4)
structure ub2 where
 Name : ByteArray
 Width : Int
structure ua9 where
 Name : ByteArray
 Node : Int
structure ua7 where
 Kind : Int
 Rules : (List Int)
structure ub1 where
 a0 : Int
 a1 : Int
structure uB3 where
 code : ua3
 target : ByteArray
 label : ByteArray
 jumps : Bool
 labelled : Bool
structure ug7 where
 lo : Int
 hi : Int
def S : Nat → Type
 | 3 => Int
 | 4 => Bool
 | 5 => Int
 | 9 => ByteArray
 | 28 => Int
 | 40 => ua3
 | 82 => ua1
 | 85 => ua5
 | 133 => ua0
 | 146 => ua7
 | 151 => ub4
 | 157 => uB3
 | 166 => uo2
 | 181 => ub1
 | 190 => ua9
 | 206 => ub2
 | 208 => ua2
 | 230 => Bool
 | 255 => Int
 | 278 => ug7
 | _ => Unit
def pk (e : Nat) : Pk S (S e) :=
 if h : e = 3 then h ▸ ((Pk.int .i64) : Pk S Int) else
 if h : e = 4 then h ▸ (Pk.bool : Pk S Bool) else
 if h : e = 5 then h ▸ ((Pk.int .u8) : Pk S Int) else
 if h : e = 9 then h ▸ (Pk.str : Pk S ByteArray) else
 if h : e = 28 then h ▸ ((Pk.int .i64) : Pk S Int) else
 if h : e = 40 then h ▸ ((Pk.iso (Pk.cons (Pk.int .i64) (Pk.cons (Pk.int .i64) (Pk.cons (Pk.int .i64) (Pk.cons (Pk.int .i64) Pk.unit)))) (fun a => (⟨a.1, a.2.1, a.2.2.1, a.2.2.2.1⟩ : ua3)) (fun x => (x.Op, x.A, x.B, x.N, ())) (fun _ => rfl)) : Pk S ua3) else
 if h : e = 82 then h ▸ ((Pk.iso (Pk.cons Pk.str (Pk.cons (Pk.int .i64) (Pk.cons (Pk.int .i64) (Pk.cons (Pk.int .i64) (Pk.cons (Pk.int .i64) Pk.unit))))) (fun a => (⟨a.1, a.2.1, a.2.2.1, a.2.2.2.1, a.2.2.2.2.1⟩ : ua1)) (fun x => (x.Name, x.Kind, x.Width, x.Init, x.Clock, ())) (fun _ => rfl)) : Pk S ua1) else
 if h : e = 85 then h ▸ ((Pk.iso (Pk.cons Pk.str (Pk.cons (Pk.int .i64) (Pk.cons (Pk.sl 151) Pk.unit))) (fun a => (⟨a.1, a.2.1, a.2.2.1⟩ : ua5)) (fun x => (x.Name, x.Guard, x.Writes, ())) (fun _ => rfl)) : Pk S ua5) else
 if h : e = 133 then h ▸ ((Pk.iso (Pk.cons (Pk.int .i64) (Pk.cons (Pk.int .i64) Pk.unit)) (fun a => (⟨a.1, a.2.1⟩ : ua0)) (fun x => (x.node, x.width, ())) (fun _ => rfl)) : Pk S ua0) else
 if h : e = 146 then h ▸ ((Pk.iso (Pk.cons (Pk.int .i64) (Pk.cons (Pk.sl 3) Pk.unit)) (fun a => (⟨a.1, a.2.1⟩ : ua7)) (fun x => (x.Kind, x.Rules, ())) (fun _ => rfl)) : Pk S ua7) else
 if h : e = 151 then h ▸ ((Pk.iso (Pk.cons (Pk.int .i64) (Pk.cons (Pk.int .i64) (Pk.cons (Pk.int .i64) Pk.unit))) (fun a => (⟨a.1, a.2.1, a.2.2.1⟩ : ub4)) (fun x => (x.Element, x.When, x.Value, ())) (fun _ => rfl)) : Pk S ub4) else
 if h : e = 157 then h ▸ ((Pk.iso (Pk.cons (Pk.iso (Pk.cons (Pk.int .i64) (Pk.cons (Pk.int .i64) (Pk.cons (Pk.int .i64) (Pk.cons (Pk.int .i64) Pk.unit)))) (fun a => (⟨a.1, a.2.1, a.2.2.1, a.2.2.2.1⟩ : ua3)) (fun x => (x.Op, x.A, x.B, x.N, ())) (fun _ => rfl)) (Pk.cons Pk.str (Pk.cons Pk.str (Pk.cons Pk.bool (Pk.cons Pk.bool Pk.unit))))) (fun a => (⟨a.1, a.2.1, a.2.2.1, a.2.2.2.1, a.2.2.2.2.1⟩ : uB3)) (fun x => (x.code, x.target, x.label, x.jumps, x.labelled, ())) (fun _ => rfl)) : Pk S uB3) else
 if h : e = 166 then h ▸ ((Pk.iso (Pk.cons Pk.str (Pk.cons Pk.bool (Pk.cons Pk.bool (Pk.cons Pk.bool Pk.unit)))) (fun a => (⟨a.1, a.2.1, a.2.2.1, a.2.2.2.1⟩ : uo2)) (fun x => (x.name, x.a, x.b, x.n, ())) (fun _ => rfl)) : Pk S uo2) else
 if h : e = 181 then h ▸ ((Pk.iso (Pk.cons (Pk.int .i64) (Pk.cons (Pk.int .i64) Pk.unit)) (fun a => (⟨a.1, a.2.1⟩ : ub1)) (fun x => (x.a0, x.a1, ())) (fun _ => rfl)) : Pk S ub1) else
 if h : e = 190 then h ▸ ((Pk.iso (Pk.cons Pk.str (Pk.cons (Pk.int .i64) Pk.unit)) (fun a => (⟨a.1, a.2.1⟩ : ua9)) (fun x => (x.Name, x.Node, ())) (fun _ => rfl)) : Pk S ua9) else
 if h : e = 206 then h ▸ ((Pk.iso (Pk.cons Pk.str (Pk.cons (Pk.int .i64) Pk.unit)) (fun a => (⟨a.1, a.2.1⟩ : ub2)) (fun x => (x.Name, x.Width, ())) (fun _ => rfl)) : Pk S ub2) else
 if h : e = 208 then h ▸ ((Pk.iso (Pk.cons (Pk.int .i64) (Pk.cons (Pk.int .i64) (Pk.cons (Pk.sl 3) (Pk.cons (Pk.int .i64) Pk.unit)))) (fun a => (⟨a.1, a.2.1, a.2.2.1, a.2.2.2.1⟩ : ua2)) (fun x => (x.Op, x.Width, x.Args, x.Value, ())) (fun _ => rfl)) : Pk S ua2) else
 if h : e = 230 then h ▸ (Pk.err : Pk S Bool) else
 if h : e = 255 then h ▸ ((Pk.int .u64) : Pk S Int) else
 if h : e = 278 then h ▸ ((Pk.iso (Pk.cons (Pk.int .u8) (Pk.cons (Pk.int .u8) Pk.unit)) (fun a => (⟨a.1, a.2.1⟩ : ug7)) (fun x => (x.lo, x.hi, ())) (fun _ => rfl)) : Pk S ug7) else
 Pk.no (Tryz.prog.cellsOf e)
theorem xU7 (e : Nat) : (pk e).len = Tryz.prog.cellsOf e := by
  unfold pk
  by_cases h : e = 3
  · subst h; kernel_rfl
  refine (congrArg Pk.len (dif_neg h)).trans ?_; clear h
  by_cases h : e = 4
  · subst h; kernel_rfl
  refine (congrArg Pk.len (dif_neg h)).trans ?_; clear h
  by_cases h : e = 5
  · subst h; kernel_rfl
  refine (congrArg Pk.len (dif_neg h)).trans ?_; clear h
  by_cases h : e = 9
  · subst h; kernel_rfl
  refine (congrArg Pk.len (dif_neg h)).trans ?_; clear h
  by_cases h : e = 28
  · subst h; kernel_rfl
  refine (congrArg Pk.len (dif_neg h)).trans ?_; clear h
  by_cases h : e = 40
  · subst h; kernel_rfl
  refine (congrArg Pk.len (dif_neg h)).trans ?_; clear h
  by_cases h : e = 82
  · subst h; kernel_rfl
  refine (congrArg Pk.len (dif_neg h)).trans ?_; clear h
  by_cases h : e = 85
  · subst h; kernel_rfl
  refine (congrArg Pk.len (dif_neg h)).trans ?_; clear h
  by_cases h : e = 133
  · subst h; kernel_rfl
  refine (congrArg Pk.len (dif_neg h)).trans ?_; clear h
  by_cases h : e = 146
  · subst h; kernel_rfl
  refine (congrArg Pk.len (dif_neg h)).trans ?_; clear h
  by_cases h : e = 151
  · subst h; kernel_rfl
  refine (congrArg Pk.len (dif_neg h)).trans ?_; clear h
  by_cases h : e = 157
  · subst h; kernel_rfl
  refine (congrArg Pk.len (dif_neg h)).trans ?_; clear h
  by_cases h : e = 166
  · subst h; kernel_rfl
  refine (congrArg Pk.len (dif_neg h)).trans ?_; clear h
  by_cases h : e = 181
  · subst h; kernel_rfl
  refine (congrArg Pk.len (dif_neg h)).trans ?_; clear h
  by_cases h : e = 190
  · subst h; kernel_rfl
  refine (congrArg Pk.len (dif_neg h)).trans ?_; clear h
  by_cases h : e = 206
  · subst h; kernel_rfl
  refine (congrArg Pk.len (dif_neg h)).trans ?_; clear h
  by_cases h : e = 208
  · subst h; kernel_rfl
  refine (congrArg Pk.len (dif_neg h)).trans ?_; clear h
  by_cases h : e = 230
  · subst h; kernel_rfl
  refine (congrArg Pk.len (dif_neg h)).trans ?_; clear h
  by_cases h : e = 255
  · subst h; kernel_rfl
  refine (congrArg Pk.len (dif_neg h)).trans ?_; clear h
  by_cases h : e = 278
  · subst h; kernel_rfl
  refine (congrArg Pk.len (dif_neg h)).trans ?_; clear h
  exact Pk.no_len _
def plain : Nat → Bool := fun t => mem t [181, 157, 40]
def byt (e : Nat) (s : ByteArray) : Option (List (S e)) := if h : e = 5 then some (h ▸ (uK4 s : List Int)) else none
theorem xZ0 : ∀ e s l, byt e s = some l → Tryz.prog.underlying e = some (.int .u8) ∧ Tryz.prog.cellsOf e = 1 ∧ l.length = s.size ∧ ∀ i x, l[i]? = some x → (pk e).wt x = [.v (.int .u8 ((s.data.toList.getD i 0).toNat : Int))] := by
  intro e s l h
  unfold byt at h
  split at h
  · rename_i he; subst he; obtain rfl := Option.some.inj h
    exact ⟨by kernel_rfl, by kernel_rfl, (u58 s).1, fun i x hx => by rw [(u58 s).2 i x hx]; kernel_rfl⟩
  cases h
def xU2 : List Int := [1, 10, 100, 1000, 10000, 100000, 1000000, 10000000, 100000000, 1000000000, 10000000000, 100000000000, 1000000000000, 10000000000000, 100000000000000, 1000000000000000, 10000000000000000, 100000000000000000, 1000000000000000000, 10000000000000000000]
def xU1 : List Int := [0, 1, 28, 2, 29, 14, 24, 3, 30, 22, 20, 15, 25, 17, 4, 8, 31, 27, 13, 23, 21, 19, 16, 7, 26, 12, 18, 6, 11, 5, 10, 9]
def xU6 : List Int := [0, 1, 56, 2, 57, 49, 28, 3, 61, 58, 42, 50, 38, 29, 17, 4, 62, 47, 59, 36, 45, 43, 51, 22, 53, 39, 33, 30, 24, 18, 12, 5, 63, 55, 48, 27, 60, 41, 37, 16, 46, 35, 44, 21, 52, 32, 23, 11, 54, 26, 40, 15, 34, 20, 31, 10, 25, 14, 19, 9, 13, 8, 7, 6]
def wH6 : List uo2 := [⟨⟨#[104, 97, 108, 116]⟩, false, false, false⟩, ⟨⟨#[115, 101, 116]⟩, true, false, true⟩, ⟨⟨#[109, 111, 118, 101]⟩, true, true, false⟩, ⟨⟨#[97, 100, 100]⟩, true, true, false⟩, ⟨⟨#[115, 117, 98]⟩, true, true, false⟩, ⟨⟨#[97, 110, 100]⟩, true, true, false⟩, ⟨⟨#[108, 111, 97, 100]⟩, true, true, false⟩, ⟨⟨#[115, 116, 111, 114, 101]⟩, true, true, false⟩, ⟨⟨#[106, 117, 109, 112]⟩, false, false, true⟩, ⟨⟨#[122, 101, 114, 111]⟩, true, false, true⟩]
def xY5 : List ug7 := [⟨128, 191⟩, ⟨160, 191⟩, ⟨128, 159⟩, ⟨144, 191⟩, ⟨128, 143⟩, ⟨0, 0⟩, ⟨0, 0⟩, ⟨0, 0⟩, ⟨0, 0⟩, ⟨0, 0⟩, ⟨0, 0⟩, ⟨0, 0⟩, ⟨0, 0⟩, ⟨0, 0⟩, ⟨0, 0⟩, ⟨0, 0⟩]
def wR2 : Nat → Option (AV S)
 | 0 => some (.ar 166 wH6)
 | 4 => some (.ar 278 xY5)
 | 1 => some (.ar 255 xU2)
 | 5 => some (.ar 5 xU1)
 | 6 => some (.ar 5 xU6)
 | 7 => some (.el 230 true 0)
 | 8 => some (.el 230 true 0)
 | _ => none
theorem xp6 : ∀ g x, wR2 g = some x → idsV x = [] := by
 intro g x h
 unfold wR2 at h
 split at h <;> first | (cases h; done) | (obtain rfl := Option.some.inj h; rfl)
def nums : (e : Nat) → List (S e) → Option (List Int)
 | 5, l => some l
 | _, _ => none
theorem xO6 : ∀ e l xs, nums e l = some xs → Tryz.prog.underlying e = some (.int .u8) ∧ xs.length = l.length ∧ ∀ (i : Nat) x n, l[i]? = some x → xs[i]? = some n → (pk e).wt x = [.v (.int .u8 n)] := by
  intro e l xs h
  unfold nums at h
  split at h
  · obtain rfl := Option.some.inj h
    exact ⟨by kernel_rfl, rfl, fun i x n hx hn => by obtain rfl : x = n := Option.some.inj (hx.symm.trans hn); kernel_rfl⟩
  · cases h
def held : Nat → Option (String × Array Value)
 | 1 => some ("internal/strconv.uint64pow10", (Go.Lib.pow10Tab.map fun z => Value.int .u64 z).toArray)
 | _ => none
def ro : Nat → Bool := fun f => mem f []
def rc : Nat → List Nat
 | _ => []
def fr : Nat → Bool := fun f => mem f [47, 93, 94, 118]
def flat : Nat → Bool := fun e => mem e [3]
noncomputable abbrev E : Env := xU9 Tryz.prog S pk wR2 plain byt nums held ro rc fr flat
theorem E_ok : E.Ok := xu8 xU7 (by kernel_rfl) xp6 (fun t h => u03 (Q := fun t => Tryz.prog.stoodInHeld t = false ∧ Tryz.prog.eqGuardType Tryz.prog.depth t = false) h ⟨⟨by kernel_rfl, by kernel_rfl⟩, ⟨⟨by kernel_rfl, by kernel_rfl⟩, ⟨⟨by kernel_rfl, by kernel_rfl⟩, trivial⟩⟩⟩) xZ0 xO6 (fun e h => u03 (Q := fun e => ∀ x, ((pk e).wt x).all isV = true) h ⟨fun _ => by kernel_rfl, trivial⟩)
def uo5 : Con E := w74 E 84
theorem uq5 : uo5.Ok := wH7 (fn := Tryz.f84) (by kernel_rfl) (by kernel_rfl) (by kernel_rfl) (g := 1) rfl (fun n w h0 h1 ht => Tryz.strconv_Itoa n h0 h1 w ht)
def uu2 : Con E := vX8 E 95 9 vl5
theorem uD1 : uu2.Ok := vJ6 (ρ := Tryz.lays146_ren) Tryz.lays146 rfl (by kernel_rfl) (fn := Tryz.f95) (by kernel_rfl) (by kernel_rfl) (by kernel_rfl) (fun s => s) (fun _ => rfl) (by kernel_rfl) (fun p u r h => ⟨r.1.1, h, congrArg (fun l => ((l, ()), ())) (List.map_id' r.1.1).symm⟩)
def uy8 : Con E := w16 E 102 9 vb5
theorem uG4 : uy8.Ok := wx7 (fn := Tryz.f102) (by kernel_rfl) (by kernel_rfl) (by kernel_rfl) (fun x => x) (fun _ => rfl) (by kernel_rfl) (fun p u => congrArg (fun l => vb5 (l, p.2) u) (List.map_id' p.1).symm) (fun a c sep w => Tryz.strings_Join_none a c sep w) (fun bk o c xs sep w => Tryz.strings_Join bk o c xs sep w)
def uf7 : Con E := xz2 E 197 Go.Lib.indexByte
theorem ul2 : uf7.Ok := wJ6 (fn := Tryz.f197) (by kernel_rfl) (by kernel_rfl) (by kernel_rfl) Tryz.stringslite_Index_one
def uz2 : Con E := uX8 E 200
theorem uF4 : uz2.Ok := wy0 (ρ := Tryz.laysC172_ren) Tryz.laysC172 rfl rfl rfl (g15 := 7) (g16 := 8) (fn := Tryz.f200) (by kernel_rfl) (by kernel_rfl) (by kernel_rfl) (e := 230) (x15 := (true : Bool)) (x16 := (true : Bool)) rfl rfl (by kernel_rfl) (by kernel_rfl)
def ue0 : Con E := us3 E 219
theorem uh6 : ue0.Ok := uA1 219 (fn := Tryz.f219) (by kernel_rfl) (by kernel_rfl) (by kernel_rfl) (by kernel_rfl) (by kernel_rfl)
def base : Spec E.S := (Con.add ue0 (Con.add uz2 (Con.add uf7 (Con.add uy8 (Con.add uu2 (Con.add uo5 ub3))))))
theorem xM3 : ub0 E base := (Con.add_ok uh6 (Con.add_ok uF4 (Con.add_ok ul2 (Con.add_ok uG4 (Con.add_ok uD1 (Con.add_ok uq5 ua6))))))
def um2 : Con E := wf8 E 11 (.v (.bool true))
def uz5 : Nat → Wr
 | 11 => mkWr [] [(6, [12]), (14, [18, 19])]
 | 13 => mkWr [6, 10, 22, 25, 31, 32, 33, 36, 40] [(12, [13, 15, 17]), (14, [1, 24]), (15666, [0, 10, 30, 31])]
 | 35 => mkWr [] [(28, [18, 19, 20])]
 | 49 => mkWr [2, 10, 58, 62, 64] [(14, [18]), (523571, [60])]
 | 64 => mkWr [0, 7] [(6, [1, 2, 3, 4, 5, 6])]
 | 69 => mkWr [2, 3, 5, 6] [(6, [0, 4])]
 | 70 => mkWr [1, 3, 4, 7, 9, 10, 11, 12, 13, 14, 15, 16, 17, 18, 21, 22, 28, 32, 36, 37, 40, 41, 42, 45, 47, 48, 51, 56, 58, 61, 64, 67, 69, 72, 73, 74, 79, 82, 83, 84, 89, 92, 93, 97, 100, 101, 102, 104, 107, 108, 109, 111, 118, 119, 125, 126] [(6, [3, 10, 11, 13, 14]), (65454, [63]), (261822, [68]), (1047294, [78]), (4189182, [88]), (16756734, [96]), (67026942, [103]), (268107774, [110])]
 | 72 => mkWr [] [(3378, [17, 18])]
 | 73 => mkWr [] [(62, [58, 61])]
 | 95 => mkWr [4, 7] [(6, [5, 6])]
 | 96 => mkWr [] [(3378, [17, 18])]
 | 120 => mkWr [] [(14, [12, 15])]
 | 121 => mkWr [2, 5, 7] []
 | 124 => mkWr [] [(3378, [17, 18])]
 | 146 => mkWr [8, 9, 18, 31, 42, 49, 58, 61, 62, 65] [(116, [16, 17]), (2046, [60]), (130838, [48])]
 | 177 => mkWr [4, 6, 21, 33, 38, 44, 48, 49] [(506, [47]), (16018, [37])]
 | 187 => mkWr [] [(3378, [15])]
 | _ => mkWr [] []
theorem ut4 : um2.Ok := vG9 E_ok xM3 uz5 400 60 (ys := [.v (.bool true)]) rfl (by kernel_rfl)
inductive P_z0 where
 | start (n0 : Int) (lo1 : Int) (hi2 : Int)
def wi3 : P_z0 → List Bool
 | .start .. => []
def xV3 : P_z0 → St E.S
 | .start n0 lo1 hi2 => st0 15 [.v (.int .i64 n0), .v (.int .i64 lo1), .v (.int .i64 hi2)] []
abbrev R_z0 : Type := ((Bool × Unit) × Unit)
def vx0 : Res E (Bool × Unit) Unit := { rows := [], flat := [], keep := 0, done := [0], rl := (.cons Rd.bool .nil), rb := .nil }
def uf8 : P_z0 → Option R_z0
 | .start n0 lo1 hi2 =>
  if (decide (lo1 ≤ n0)) = true then
   some ((decide (n0 ≤ hi2), ()), ())
  else
   some ((false, ()), ())
def xz3 : List (Plc E P_z0) := []
theorem wP1 : All (ub5 15 0 wi3 xV3) xz3 := trivial
def xc9 : Code := Tryz.f54.body.getD .skip
def wQ0 : Spec E.S := ub3
theorem wJ5 : ub0 E wQ0 := ua6
theorem xF5 : ∀ pt r, uf8 pt = some r → Good E Tryz.f54 xc9 0 (vx0.av r) (vx0.bx r) (wi3 pt) (xV3 pt) := by
 intro pt r hr
 cases pt <;> exact ua8 (spec := wQ0) (wr := (mkWr [] [])) (l := xz3) (z := 15) (p := vx0) (run' := fun _ => none) E_ok wP1.mem rfl wJ5 (fun _ _ h => by cases h) (Eq.trans (by kernel_rfl) hr)
def uA8 : Con E := ⟨54, _, _, (.cons (Rd.int .i64).w (.cons (Rd.int .i64).w (.cons (Rd.int .i64).w .nil))), .nil, 0, R_z0, fun a b => uf8 (.start a.1 a.2.1 a.2.2.1), vx0.av, vx0.bx⟩
theorem uj3 : uA8.Ok := fun a b r h => ub6 (fn := Tryz.f54) (code := xc9) E_ok (by kernel_rfl) (by kernel_rfl) (by kernel_rfl) (Nat.le_of_ble_eq_true rfl) (xF5 (.start a.1 a.2.1 a.2.2.1) r h)
inductive P_z1 where
 | start (op0 : Int)
def v69 : P_z1 → List Bool
 | .start .. => []
def x14 : P_z1 → St E.S
 | .start op0 => st0 7 [.v (.int .i64 op0)] []
abbrev R_z1 : Type := ((ByteArray × Unit) × Unit)
def vz5 : Res E (ByteArray × Unit) Unit := { rows := [], flat := [], keep := 0, done := [0], rl := (.cons Rd.str .nil), rb := .nil }
def v19 : P_z1 → Option R_z1
 | .start op0 =>
  (idx ([(⟨#[]⟩ : ByteArray), (⟨#[97, 110]⟩ : ByteArray), (⟨#[97, 98]⟩ : ByteArray), (⟨#[97, 98]⟩ : ByteArray), (⟨#[97, 98]⟩ : ByteArray), (⟨#[97, 98]⟩ : ByteArray), (⟨#[97, 98]⟩ : ByteArray), (⟨#[97, 98]⟩ : ByteArray), (⟨#[112]⟩ : ByteArray), (⟨#[97, 112]⟩ : ByteArray)] : List ByteArray) op0) >>= fun t1 =>
  some ((t1, ()), ())
def xC2 : List (Plc E P_z1) := []
theorem wS5 : All (ub5 7 0 v69 x14) xC2 := trivial
def w29 : Code := Tryz.f106.body.getD .skip
def wT2 : Spec E.S := ub3
theorem wy8 : ub0 E wT2 := ua6
theorem xM8 : ∀ pt r, v19 pt = some r → Good E Tryz.f106 w29 0 (vz5.av r) (vz5.bx r) (v69 pt) (x14 pt) := by
 intro pt r hr
 cases pt <;> exact ua8 (spec := wT2) (wr := (mkWr [] [])) (l := xC2) (z := 7) (p := vz5) (run' := fun _ => none) E_ok wS5.mem rfl wy8 (fun _ _ h => by cases h) (Eq.trans (by kernel_rfl) hr)
def xy2 : Con E := ⟨106, _, _, (.cons (Rd.int .i64).w .nil), .nil, 0, R_z1, fun a b => v19 (.start a.1), vz5.av, vz5.bx⟩
theorem wW5 : xy2.Ok := fun a b r h => ub6 (fn := Tryz.f106) (code := w29) E_ok (by kernel_rfl) (by kernel_rfl) (by kernel_rfl) (Nat.le_of_ble_eq_true rfl) (xM8 (.start a.1) r h)
inductive P_z2 where
 | start (op0 : Int) (kind1 : Int)
 | p116 (kind1 : Int) (s5 : ByteArray) (i6 : Int)
def vq0 : P_z2 → List Bool
 | .start .. => []
 | .p116 .. => [false, false, true, false, true, true]
def xJ4 : P_z2 → St E.S
 | .start op0 kind1 => st0 20 [.v (.int .i64 op0), .v (.int .u8 kind1)] []
 | .p116 kind1 s5 i6 => mkSt 20 [1, 5, 6] [.v (.int .u8 kind1), .v (.string s5), .v (.int .i64 i6)] []
abbrev R_z2 : Type := ((Bool × Unit) × Unit)
def u41 : Res E (Bool × Unit) Unit := { rows := [], flat := [], keep := 0, done := [0], rl := (.cons Rd.bool .nil), rb := .nil }
def ui7 : P_z2 → Option R_z2
 | .start op0 kind1 =>
  (v19 (.start op0)) >>= fun t1 =>
  ui7 (.p116 kind1 t1.1.1 (0 : Int))
 | .p116 kind1 s5 i6 =>
  if (decide (i6 < (s5.size : Int))) = true then
   (sidx s5 i6) >>= fun t1 =>
   if (t1 == kind1) = true then
    some ((true, ()), ())
   else
    ui7 (.p116 kind1 s5 (IntKind.wrap .i64 (i6 + (1 : Int))))
  else
   some ((false, ()), ())
 partial_fixpoint
def xD1 : List (Plc E P_z2) := [⟨116, [false, false, true, false, true, true], { slots := [1, 5, 6], rows := [], flat := [], keep := 0 }, _, _, (.cons (Rd.int .u8) (.cons Rd.str (.cons (Rd.int .i64) .nil))), .nil, fun a b => .p116 a.1 a.2.1 a.2.2.1⟩]
theorem wX4 : All (ub5 20 0 vq0 xJ4) xD1 := ⟨⟨rfl, rfl, fun _ _ => rfl, fun _ _ => rfl⟩, trivial⟩
def vN2 : Code := Tryz.f76.body.getD .skip
def wW3 : Spec E.S := (Con.add xy2 ub3)
theorem wE5 : ub0 E wW3 := (Con.add_ok wW5 ua6)
theorem xN8 : ∀ pt r, ui7 pt = some r → Good E Tryz.f76 vN2 0 (u41.av r) (u41.bx r) (vq0 pt) (xJ4 pt) := by
 refine ui7.partial_correctness (fun pt r => Good E Tryz.f76 vN2 0 (u41.av r) (u41.bx r) (vq0 pt) (xJ4 pt)) ?_
 intro run' ih pt r hr
 cases pt <;> exact ua8 (spec := wW3) (wr := (mkWr [] [])) (l := xD1) (z := 20) (p := u41) E_ok wX4.mem rfl wE5 ih (Eq.trans (by kernel_rfl) hr)
def xz4 : Con E := ⟨76, _, _, (.cons (Rd.int .i64).w (.cons (Rd.int .u8).w .nil)), .nil, 0, R_z2, fun a b => ui7 (.start a.1 a.2.1), u41.av, u41.bx⟩
theorem wO8 : xz4.Ok := fun a b r h => ub6 (fn := Tryz.f76) (code := vN2) E_ok (by kernel_rfl) (by kernel_rfl) (by kernel_rfl) (Nat.le_of_ble_eq_true rfl) (xN8 (.start a.1 a.2.1) r h)
inductive P_z3 where
 | start (c0_0 : Int) (c0_1 : Int) (c0_2 : Int) (c0_3 : Int)
 | p31 (most3 : Int) (C0 : Int) (C1 : Int) (C2 : Int) (C3 : Int)
 | p63 (C0 : Int) (C1 : Int) (C2 : Int) (C3 : Int)
def vq9 : P_z3 → List Bool
 | .start .. => []
 | .p31 .. => [true, true, true, true]
 | .p63 .. => [true, true, true, true, true]
def xJ0 : P_z3 → St E.S
 | .start c0_0 c0_1 c0_2 c0_3 => st0 65 [.agg [.v (.int .i64 c0_0), .v (.int .i64 c0_1), .v (.int .i64 c0_2), .v (.int .i64 c0_3)]] []
 | .p31 most3 C0 C1 C2 C3 => mkSt 65 [1, 3] [.bp 0 0, .v (.int .i64 most3)] [.var 40 [.v (.int .i64 C0), .v (.int .i64 C1), .v (.int .i64 C2), .v (.int .i64 C3)]]
 | .p63 C0 C1 C2 C3 => mkSt 65 [1] [.bp 0 0] [.var 40 [.v (.int .i64 C0), .v (.int .i64 C1), .v (.int .i64 C2), .v (.int .i64 C3)]]
abbrev R_z3 : Type := ((Int × Unit) × Unit)
def u81 : Res E (Int × Unit) Unit := { rows := [], flat := [], keep := 0, done := [0], rl := (.cons (Rd.int .i64) .nil), rb := .nil }
def ut7 : P_z3 → Option R_z3
 | .start c0_0 c0_1 c0_2 c0_3 =>
  (uf8 (.start c0_0 (0 : Int) (9 : Int))) >>= fun t1 =>
  if (!t1.1.1) = true then
   some (((15 : Int), ()), ())
  else
   (ui7 (.start c0_0 (112 : Int))) >>= fun t2 =>
   if t2.1.1 = true then
    ut7 (.p31 (15 : Int) c0_0 c0_1 c0_2 c0_3)
   else
    ut7 (.p31 (255 : Int) c0_0 c0_1 c0_2 c0_3)
 | .p31 most3 C0 C1 C2 C3 =>
  (uf8 (.start C1 (0 : Int) (3 : Int))) >>= fun t1 =>
  if (!t1.1.1) = true then
   some (((2 : Int), ()), ())
  else
   (uf8 (.start C2 (0 : Int) (3 : Int))) >>= fun t2 =>
   if (!t2.1.1) = true then
    some (((2 : Int), ()), ())
   else
    (uf8 (.start C3 (0 : Int) most3)) >>= fun t3 =>
    if (!t3.1.1) = true then
     some (((2 : Int), ()), ())
    else
     ut7 (.p63 C0 C1 C2 C3)
 | .p63 C0 C1 C2 C3 =>
  if (C1 != (0 : Int)) = true then
   (ui7 (.start C0 (97 : Int))) >>= fun t1 =>
   if (!t1.1.1) = true then
    some (((3 : Int), ()), ())
   else
    if (C2 != (0 : Int)) = true then
     (ui7 (.start C0 (98 : Int))) >>= fun t2 =>
     if (!t2.1.1) = true then
      some (((3 : Int), ()), ())
     else
      if (C3 != (0 : Int)) = true then
       (ui7 (.start C0 (110 : Int))) >>= fun t3 =>
       if (!t3.1.1) = true then
        (ui7 (.start C0 (112 : Int))) >>= fun t4 =>
        if (!t4.1.1) = true then
         some (((3 : Int), ()), ())
        else
         some (((0 : Int), ()), ())
       else
        some (((0 : Int), ()), ())
      else
       some (((0 : Int), ()), ())
    else
     if (C3 != (0 : Int)) = true then
      (ui7 (.start C0 (110 : Int))) >>= fun t5 =>
      if (!t5.1.1) = true then
       (ui7 (.start C0 (112 : Int))) >>= fun t6 =>
       if (!t6.1.1) = true then
        some (((3 : Int), ()), ())
       else
        some (((0 : Int), ()), ())
      else
       some (((0 : Int), ()), ())
     else
      some (((0 : Int), ()), ())
  else
   if (C2 != (0 : Int)) = true then
    (ui7 (.start C0 (98 : Int))) >>= fun t7 =>
    if (!t7.1.1) = true then
     some (((3 : Int), ()), ())
    else
     if (C3 != (0 : Int)) = true then
      (ui7 (.start C0 (110 : Int))) >>= fun t8 =>
      if (!t8.1.1) = true then
       (ui7 (.start C0 (112 : Int))) >>= fun t9 =>
       if (!t9.1.1) = true then
        some (((3 : Int), ()), ())
       else
        some (((0 : Int), ()), ())
      else
       some (((0 : Int), ()), ())
     else
      some (((0 : Int), ()), ())
   else
    if (C3 != (0 : Int)) = true then
     (ui7 (.start C0 (110 : Int))) >>= fun t10 =>
     if (!t10.1.1) = true then
      (ui7 (.start C0 (112 : Int))) >>= fun t11 =>
      if (!t11.1.1) = true then
       some (((3 : Int), ()), ())
      else
       some (((0 : Int), ()), ())
     else
      some (((0 : Int), ()), ())
    else
     some (((0 : Int), ()), ())
 partial_fixpoint
def xC3 : List (Plc E P_z3) := [⟨31, [true, true, true, true], { slots := [1, 3], rows := [], flat := [], keep := 0 }, _, _, (.cons (Rd.bp 0 0) (.cons (Rd.int .i64) .nil)), (.cons (.var 40 (.cons (Rd.int .i64) (.cons (Rd.int .i64) (.cons (Rd.int .i64) (.cons (Rd.int .i64) .nil))))) .nil), fun a b => .p31 a.2.1 b.1.1 b.1.2.1 b.1.2.2.1 b.1.2.2.2.1⟩,
 ⟨63, [true, true, true, true, true], { slots := [1], rows := [], flat := [], keep := 0 }, _, _, (.cons (Rd.bp 0 0) .nil), (.cons (.var 40 (.cons (Rd.int .i64) (.cons (Rd.int .i64) (.cons (Rd.int .i64) (.cons (Rd.int .i64) .nil))))) .nil), fun a b => .p63 b.1.1 b.1.2.1 b.1.2.2.1 b.1.2.2.2.1⟩]
theorem w92 : All (ub5 65 0 vq9 xJ0) xC3 := ⟨⟨rfl, rfl, fun _ _ => rfl, fun _ _ => rfl⟩, ⟨⟨rfl, rfl, fun _ _ => rfl, fun _ _ => rfl⟩, trivial⟩⟩
def vQ4 : Code := Tryz.f25.body.getD .skip
def w90 : Spec E.S := (Con.add xz4 (Con.add uA8 ub3))
theorem wn3 : ub0 E w90 := (Con.add_ok wO8 (Con.add_ok uj3 ua6))
theorem xG3 : ∀ pt r, ut7 pt = some r → Good E Tryz.f25 vQ4 0 (u81.av r) (u81.bx r) (vq9 pt) (xJ0 pt) := by
 refine ut7.partial_correctness (fun pt r => Good E Tryz.f25 vQ4 0 (u81.av r) (u81.bx r) (vq9 pt) (xJ0 pt)) ?_
 intro run' ih pt r hr
 cases pt <;> exact ua8 (spec := w90) (wr := (mkWr [] [])) (l := xC3) (z := 65) (p := u81) E_ok w92.mem rfl wn3 ih (Eq.trans (by kernel_rfl) hr)
def xz9 : Con E := ⟨25, _, _, (.cons (Rw.agg (.cons (Rd.int .i64).w (.cons (Rd.int .i64).w (.cons (Rd.int .i64).w (.cons (Rd.int .i64).w .nil))))) .nil), .nil, 0, R_z3, fun a b => ut7 (.start a.1.1 a.1.2.1 a.1.2.2.1 a.1.2.2.2.1), u81.av, u81.bx⟩
theorem w94 : xz9.Ok := fun a b r h => ub6 (fn := Tryz.f25) (code := vQ4) E_ok (by kernel_rfl) (by kernel_rfl) (by kernel_rfl) (Nat.le_of_ble_eq_true rfl) (xG3 (.start a.1.1 a.1.2.1 a.1.2.2.1 a.1.2.2.2.1) r h)
inductive P_z4 where
 | start (l0 : (List ua3))
 | p116 (l0 : (List ua3)) (i4 : Int)
def vh0 : P_z4 → List Bool
 | .start .. => []
 | .p116 .. => [false, false, true, false, true, true]
def xL7 : P_z4 → St E.S
 | .start l0 => st0 24 [.sl 40 l0 false] []
 | .p116 l0 i4 => mkSt 24 [0, 4] [.sl 40 l0 false, .v (.int .i64 i4)] []
abbrev R_z4 : Type := ((Int × (Int × Unit)) × Unit)
def uY2 : Res E (Int × (Int × Unit)) Unit := { rows := [], flat := [], keep := 0, done := [0, 1], rl := (.cons (Rd.int .i64) (.cons (Rd.int .i64) .nil)), rb := .nil }
def uA4 : P_z4 → Option R_z4
 | .start l0 =>
  if (decide ((List.length l0 : Int) > (16 : Int))) = true then
   some (((0 : Int), ((8 : Int), ())), ())
  else
   uA4 (.p116 l0 (0 : Int))
 | .p116 l0 i4 =>
  if (decide (i4 < (List.length l0 : Int))) = true then
   (idx l0 i4) >>= fun t1 =>
   (ut7 (.start t1.Op t1.A t1.B t1.N)) >>= fun t2 =>
   if (t2.1.1 != (0 : Int)) = true then
    some ((i4, (t2.1.1, ())), ())
   else
    uA4 (.p116 l0 (IntKind.wrap .i64 (i4 + (1 : Int))))
  else
   some (((0 : Int), ((0 : Int), ())), ())
 partial_fixpoint
def xw9 : List (Plc E P_z4) := [⟨116, [false, false, true, false, true, true], { slots := [0, 4], rows := [], flat := [], keep := 0 }, _, _, (.cons (Rd.sl 40 false) (.cons (Rd.int .i64) .nil)), .nil, fun a b => .p116 a.1 a.2.1⟩]
theorem w07 : All (ub5 24 0 vh0 xL7) xw9 := ⟨⟨rfl, rfl, fun _ _ => rfl, fun _ _ => rfl⟩, trivial⟩
def vH4 : Code := Tryz.f23.body.getD .skip
def w21 : Spec E.S := (Con.add xz9 ub3)
theorem ww9 : ub0 E w21 := (Con.add_ok w94 ua6)
theorem xP8 : ∀ pt r, uA4 pt = some r → Good E Tryz.f23 vH4 0 (uY2.av r) (uY2.bx r) (vh0 pt) (xL7 pt) := by
 refine uA4.partial_correctness (fun pt r => Good E Tryz.f23 vH4 0 (uY2.av r) (uY2.bx r) (vh0 pt) (xL7 pt)) ?_
 intro run' ih pt r hr
 cases pt <;> exact ua8 (spec := w21) (wr := (mkWr [] [])) (l := xw9) (z := 24) (p := uY2) E_ok w07.mem rfl ww9 ih (Eq.trans (by kernel_rfl) hr)
def xz6 : Con E := ⟨23, _, _, (.cons (Rw.sl 40) .nil), .nil, 0, R_z4, fun a b => uA4 (.start a.1), uY2.av, uY2.bx⟩
theorem wQ6 : xz6.Ok := fun a b r h => ub6 (fn := Tryz.f23) (code := vH4) E_ok (by kernel_rfl) (by kernel_rfl) (by kernel_rfl) (Nat.le_of_ble_eq_true rfl) (xP8 (.start a.1) r h)
inductive P_z5 where
 | start (l0 : (List ua3))
def vZ3 : P_z5 → List Bool
 | .start .. => []
def xY2 : P_z5 → St E.S
 | .start l0 => st0 11 [.sl 40 l0 false] []
abbrev R_z5 : Type := ((Int × Unit) × Unit)
def vv0 : Res E (Int × Unit) Unit := { rows := [], flat := [], keep := 0, done := [0], rl := (.cons (Rd.int .i64) .nil), rb := .nil }
def vu2 : P_z5 → Option R_z5
 | .start l0 =>
  (uA4 (.start l0)) >>= fun t1 =>
  some ((t1.1.2.1, ()), ())
def xD0 : List (Plc E P_z5) := []
theorem wV5 : All (ub5 11 0 vZ3 xY2) xD0 := trivial
def xb7 : Code := Tryz.f16.body.getD .skip
def w84 : Spec E.S := (Con.add xz6 ub3)
theorem wE2 : ub0 E w84 := (Con.add_ok wQ6 ua6)
theorem xN1 : ∀ pt r, vu2 pt = some r → Good E Tryz.f16 xb7 0 (vv0.av r) (vv0.bx r) (vZ3 pt) (xY2 pt) := by
 intro pt r hr
 cases pt <;> exact ua8 (spec := w84) (wr := (mkWr [] [])) (l := xD0) (z := 11) (p := vv0) (run' := fun _ => none) E_ok wV5.mem rfl wE2 (fun _ _ h => by cases h) (Eq.trans (by kernel_rfl) hr)
def xB7 : Con E := ⟨16, _, _, (.cons (Rw.sl 40) .nil), .nil, 0, R_z5, fun a b => vu2 (.start a.1), vv0.av, vv0.bx⟩
theorem w73 : xB7.Ok := fun a b r h => ub6 (fn := Tryz.f16) (code := xb7) E_ok (by kernel_rfl) (by kernel_rfl) (by kernel_rfl) (Nat.le_of_ble_eq_true rfl) (xN1 (.start a.1) r h)
inductive P_z6 where
 | start (l0 : (List Int)) (count1 : Int)
 | p116 (l0 : (List Int)) (i5 : Int)
def vi6 : P_z6 → List Bool
 | .start .. => []
 | .p116 .. => [false, false, true, false, true, true]
def xL1 : P_z6 → St E.S
 | .start l0 count1 => st0 22 [.sl 3 l0 false, .v (.int .i64 count1)] []
 | .p116 l0 i5 => mkSt 22 [0, 5] [.sl 3 l0 false, .v (.int .i64 i5)] []
abbrev R_z6 : Type := ((Int × Unit) × Unit)
def uW3 : Res E (Int × Unit) Unit := { rows := [], flat := [], keep := 0, done := [0], rl := (.cons (Rd.int .i64) .nil), rb := .nil }
def ut8 : P_z6 → Option R_z6
 | .start l0 count1 =>
  if ((List.length l0 : Int) != count1) = true then
   some (((10 : Int), ()), ())
  else
   ut8 (.p116 l0 (0 : Int))
 | .p116 l0 i5 =>
  if (decide (i5 < (List.length l0 : Int))) = true then
   (idx l0 i5) >>= fun t1 =>
   (uf8 (.start t1 (0 : Int) (255 : Int))) >>= fun t2 =>
   if (!t2.1.1) = true then
    some (((2 : Int), ()), ())
   else
    ut8 (.p116 l0 (IntKind.wrap .i64 (i5 + (1 : Int))))
  else
   some (((0 : Int), ()), ())
 partial_fixpoint
def xx8 : List (Plc E P_z6) := [⟨116, [false, false, true, false, true, true], { slots := [0, 5], rows := [], flat := [], keep := 0 }, _, _, (.cons (Rd.sl 3 false) (.cons (Rd.int .i64) .nil)), .nil, fun a b => .p116 a.1 a.2.1⟩]
theorem wP3 : All (ub5 22 0 vi6 xL1) xx8 := ⟨⟨rfl, rfl, fun _ _ => rfl, fun _ _ => rfl⟩, trivial⟩
def vG3 : Code := Tryz.f71.body.getD .skip
def wU5 : Spec E.S := (Con.add uA8 ub3)
theorem wq2 : ub0 E wU5 := (Con.add_ok uj3 ua6)
theorem xF6 : ∀ pt r, ut8 pt = some r → Good E Tryz.f71 vG3 0 (uW3.av r) (uW3.bx r) (vi6 pt) (xL1 pt) := by
 refine ut8.partial_correctness (fun pt r => Good E Tryz.f71 vG3 0 (uW3.av r) (uW3.bx r) (vi6 pt) (xL1 pt)) ?_
 intro run' ih pt r hr
 cases pt <;> exact ua8 (spec := wU5) (wr := (mkWr [] [])) (l := xx8) (z := 22) (p := uW3) E_ok wP3.mem rfl wq2 ih (Eq.trans (by kernel_rfl) hr)
def xB6 : Con E := ⟨71, _, _, (.cons (Rw.sl 3) (.cons (Rd.int .i64).w .nil)), .nil, 0, R_z6, fun a b => ut8 (.start a.1 a.2.1), uW3.av, uW3.bx⟩
theorem xa9 : xB6.Ok := fun a b r h => ub6 (fn := Tryz.f71) (code := vG3) E_ok (by kernel_rfl) (by kernel_rfl) (by kernel_rfl) (Nat.le_of_ble_eq_true rfl) (xF6 (.start a.1 a.2.1) r h)
inductive P_z7 where
 | start (memory0 : (List Int))
def v47 : P_z7 → List Bool
 | .start .. => []
def xW5 : P_z7 → St E.S
 | .start memory0 => st0 5 [.sl 3 memory0 false] []
abbrev R_z7 : Type := ((Int × Unit) × Unit)
def vz2 : Res E (Int × Unit) Unit := { rows := [], flat := [], keep := 0, done := [0], rl := (.cons (Rd.int .i64) .nil), rb := .nil }
def uW4 : P_z7 → Option R_z7
 | .start memory0 =>
  (ut8 (.start memory0 (8 : Int))) >>= fun t1 =>
  some ((t1.1.1, ()), ())
def xA8 : List (Plc E P_z7) := []
theorem w17 : All (ub5 5 0 v47 xW5) xA8 := trivial
def wQ9 : Code := Tryz.f17.body.getD .skip
def wR7 : Spec E.S := (Con.add xB6 ub3)
theorem wp3 : ub0 E wR7 := (Con.add_ok xa9 ua6)
theorem xM5 : ∀ pt r, uW4 pt = some r → Good E Tryz.f17 wQ9 0 (vz2.av r) (vz2.bx r) (v47 pt) (xW5 pt) := by
 intro pt r hr
 cases pt <;> exact ua8 (spec := wR7) (wr := (mkWr [] [])) (l := xA8) (z := 5) (p := vz2) (run' := fun _ => none) E_ok w17.mem rfl wp3 (fun _ _ h => by cases h) (Eq.trans (by kernel_rfl) hr)
def xD4 : Con E := ⟨17, _, _, (.cons (Rw.sl 3) .nil), .nil, 0, R_z7, fun a b => uW4 (.start a.1), vz2.av, vz2.bx⟩
theorem wT6 : xD4.Ok := fun a b r h => ub6 (fn := Tryz.f17) (code := wQ9) E_ok (by kernel_rfl) (by kernel_rfl) (by kernel_rfl) (Nat.le_of_ble_eq_true rfl) (xM5 (.start a.1) r h)
inductive P_z8 where
 | start (l0 : (List ua3))
def vW7 : P_z8 → List Bool
 | .start .. => []
def xW2 : P_z8 → St E.S
 | .start l0 => st0 6 [.sl 40 l0 false] []
abbrev R_z8 : Type := ((Unit × Unit) × ((List ua3) × Unit))
def vv1 : Res E (Unit × Unit) ((List ua3) × Unit) := { rows := [], flat := [], keep := 0, done := [0], rl := (.cons (Rd.rw 0) .nil), rb := (.cons (.row 40 true) .nil) }
def vB0 : P_z8 → Option R_z8
 | .start l0 =>
  if (fits (List.length ([] : List ua3)) (List.length l0) 32) = true then
   some (((), ()), (([] : List ua3) ++ l0, ()))
  else none
def xB5 : List (Plc E P_z8) := []
theorem wV3 : All (ub5 6 0 vW7 xW2) xB5 := trivial
def wN2 : Code := Tryz.f14.body.getD .skip
def wP5 : Spec E.S := ub3
theorem wl0 : ub0 E wP5 := ua6
theorem xG8 : ∀ pt r, vB0 pt = some r → Good E Tryz.f14 wN2 0 (vv1.av r) (vv1.bx r) (vW7 pt) (xW2 pt) := by
 intro pt r hr
 cases pt <;> exact ua8 (spec := wP5) (wr := (mkWr [] [])) (l := xB5) (z := 6) (p := vv1) (run' := fun _ => none) E_ok wV3.mem rfl wl0 (fun _ _ h => by cases h) (Eq.trans (by kernel_rfl) hr)
def xx1 : Con E := ⟨14, _, _, (.cons (Rw.sl 40) .nil), .nil, 0, R_z8, fun a b => vB0 (.start a.1), vv1.av, vv1.bx⟩
theorem w76 : xx1.Ok := fun a b r h => ub6 (fn := Tryz.f14) (code := wN2) E_ok (by kernel_rfl) (by kernel_rfl) (by kernel_rfl) (Nat.le_of_ble_eq_true rfl) (xG8 (.start a.1) r h)
inductive P_z9 where
 | start (l0 : (List Int))
def v94 : P_z9 → List Bool
 | .start .. => []
def xT9 : P_z9 → St E.S
 | .start l0 => st0 6 [.sl 3 l0 false] []
abbrev R_z9 : Type := ((Unit × Unit) × ((List Int) × Unit))
def vy4 : Res E (Unit × Unit) ((List Int) × Unit) := { rows := [], flat := [], keep := 0, done := [0], rl := (.cons (Rd.rw 0) .nil), rb := (.cons (.row 3 true) .nil) }
def uy9 : P_z9 → Option R_z9
 | .start l0 =>
  if (fits (List.length ([] : List Int)) (List.length l0) 8) = true then
   some (((), ()), (([] : List Int) ++ l0, ()))
  else none
def xA3 : List (Plc E P_z9) := []
theorem w18 : All (ub5 6 0 v94 xT9) xA3 := trivial
def wM6 : Code := Tryz.f15.body.getD .skip
def wU0 : Spec E.S := ub3
theorem wy9 : ub0 E wU0 := ua6
theorem xR4 : ∀ pt r, uy9 pt = some r → Good E Tryz.f15 wM6 0 (vy4.av r) (vy4.bx r) (v94 pt) (xT9 pt) := by
 intro pt r hr
 cases pt <;> exact ua8 (spec := wU0) (wr := (mkWr [] [])) (l := xA3) (z := 6) (p := vy4) (run' := fun _ => none) E_ok w18.mem rfl wy9 (fun _ _ h => by cases h) (Eq.trans (by kernel_rfl) hr)
def v97 : Con E := ⟨15, _, _, (.cons (Rw.sl 3) .nil), .nil, 0, R_z9, fun a b => uy9 (.start a.1), vy4.av, vy4.bx⟩
theorem va8 : v97.Ok := fun a b r h => ub6 (fn := Tryz.f15) (code := wM6) E_ok (by kernel_rfl) (by kernel_rfl) (by kernel_rfl) (Nat.le_of_ble_eq_true rfl) (xR4 (.start a.1) r h)
inductive xs7 where
 | start (n0 : Int) (lo1 : Int) (hi2 : Int)
def vA9 : xs7 → List Bool
 | .start .. => []
def xD2 : xs7 → St E.S
 | .start n0 lo1 hi2 => st0 15 [.v (.int .i64 n0), .v (.int .i64 lo1), .v (.int .i64 hi2)] []
abbrev x03 : Type := ((Bool × Unit) × Unit)
def uX5 : Res E (Bool × Unit) Unit := { rows := [], flat := [], keep := 0, done := [0], rl := (.cons Rd.bool .nil), rb := .nil }
def us5 : xs7 → Option x03
 | .start n0 lo1 hi2 =>
  if (decide (lo1 ≤ n0)) = true then
   some ((decide (n0 ≤ hi2), ()), ())
  else
   some ((false, ()), ())
def wK0 : List (Plc E xs7) := []
theorem wB8 : All (ub5 15 0 vA9 xD2) wK0 := trivial
def wd3 : Code := Tryz.f75.body.getD .skip
def v41 : Spec E.S := ub3
theorem vS4 : ub0 E v41 := ua6
theorem xg9 : ∀ pt r, us5 pt = some r → Good E Tryz.f75 wd3 0 (uX5.av r) (uX5.bx r) (vA9 pt) (xD2 pt) := by
 intro pt r hr
 cases pt <;> exact ua8 (spec := v41) (wr := (mkWr [] [])) (l := wK0) (z := 15) (p := uX5) (run' := fun _ => none) E_ok wB8.mem rfl vS4 (fun _ _ h => by cases h) (Eq.trans (by kernel_rfl) hr)
def u57 : Con E := ⟨75, _, _, (.cons (Rd.int .i64).w (.cons (Rd.int .i64).w (.cons (Rd.int .i64).w .nil))), .nil, 0, x03, fun a b => us5 (.start a.1 a.2.1 a.2.2.1), uX5.av, uX5.bx⟩
theorem uC3 : u57.Ok := fun a b r h => ub6 (fn := Tryz.f75) (code := wd3) E_ok (by kernel_rfl) (by kernel_rfl) (by kernel_rfl) (Nat.le_of_ble_eq_true rfl) (xg9 (.start a.1 a.2.1 a.2.2.1) r h)
inductive xo8 where
 | start (n0 : Int)
def vw4 : xo8 → List Bool
 | .start .. => []
def xD8 : xo8 → St E.S
 | .start n0 => st0 5 [.v (.int .i64 n0)] []
abbrev xT5 : Type := ((Bool × Unit) × Unit)
def u06 : Res E (Bool × Unit) Unit := { rows := [], flat := [], keep := 0, done := [0], rl := (.cons Rd.bool .nil), rb := .nil }
def va1 : xo8 → Option xT5
 | .start n0 =>
  (us5 (.start n0 (0 : Int) (3 : Int))) >>= fun t1 =>
  some ((t1.1.1, ()), ())
def w41 : List (Plc E xo8) := []
theorem wF1 : All (ub5 5 0 vw4 xD8) w41 := trivial
def wh5 : Code := Tryz.f122.body.getD .skip
def wc5 : Spec E.S := (Con.add u57 ub3)
theorem vH7 : ub0 E wc5 := (Con.add_ok uC3 ua6)
theorem xu9 : ∀ pt r, va1 pt = some r → Good E Tryz.f122 wh5 0 (u06.av r) (u06.bx r) (vw4 pt) (xD8 pt) := by
 intro pt r hr
 cases pt <;> exact ua8 (spec := wc5) (wr := (mkWr [] [])) (l := w41) (z := 5) (p := u06) (run' := fun _ => none) E_ok wF1.mem rfl vH7 (fun _ _ h => by cases h) (Eq.trans (by kernel_rfl) hr)
def wV1 : Con E := ⟨122, _, _, (.cons (Rd.int .i64).w .nil), .nil, 0, xT5, fun a b => va1 (.start a.1), u06.av, u06.bx⟩
theorem wv7 : wV1.Ok := fun a b r h => ub6 (fn := Tryz.f122) (code := wh5) E_ok (by kernel_rfl) (by kernel_rfl) (by kernel_rfl) (Nat.le_of_ble_eq_true rfl) (xu9 (.start a.1) r h)
inductive xj6 where
 | start (op0 : Int)
def vt9 : xj6 → List Bool
 | .start .. => []
def xD7 : xj6 → St E.S
 | .start op0 => st0 9 [.v (.int .i64 op0)] []
abbrev xZ9 : Type := ((Bool × Unit) × Unit)
def u46 : Res E (Bool × Unit) Unit := { rows := [], flat := [], keep := 0, done := [0], rl := (.cons Rd.bool .nil), rb := .nil }
def uO2 : xj6 → Option xZ9
 | .start op0 =>
  if (op0 == (8 : Int)) = true then
   some ((true, ()), ())
  else
   some ((op0 == (9 : Int), ()), ())
def w47 : List (Plc E xj6) := []
theorem wF6 : All (ub5 9 0 vt9 xD7) w47 := trivial
def v60 : Code := Tryz.f151.body.getD .skip
def wa8 : Spec E.S := ub3
theorem vD9 : ub0 E wa8 := ua6
theorem xh7 : ∀ pt r, uO2 pt = some r → Good E Tryz.f151 v60 0 (u46.av r) (u46.bx r) (vt9 pt) (xD7 pt) := by
 intro pt r hr
 cases pt <;> exact ua8 (spec := wa8) (wr := (mkWr [] [])) (l := w47) (z := 9) (p := u46) (run' := fun _ => none) E_ok wF6.mem rfl vD9 (fun _ _ h => by cases h) (Eq.trans (by kernel_rfl) hr)
def w09 : Con E := ⟨151, _, _, (.cons (Rd.int .i64).w .nil), .nil, 0, xZ9, fun a b => uO2 (.start a.1), u46.av, u46.bx⟩
theorem wt0 : w09.Ok := fun a b r h => ub6 (fn := Tryz.f151) (code := v60) E_ok (by kernel_rfl) (by kernel_rfl) (by kernel_rfl) (Nat.le_of_ble_eq_true rfl) (xh7 (.start a.1) r h)
inductive xs6 where
 | start (n0 : Int)
def vv7 : xs6 → List Bool
 | .start .. => []
def xx2 : xs6 → St E.S
 | .start n0 => st0 5 [.v (.int .i64 n0)] []
abbrev xY8 : Type := ((Bool × Unit) × Unit)
def u66 : Res E (Bool × Unit) Unit := { rows := [], flat := [], keep := 0, done := [0], rl := (.cons Rd.bool .nil), rb := .nil }
def u34 : xs6 → Option xY8
 | .start n0 =>
  (us5 (.start n0 (0 : Int) (15 : Int))) >>= fun t1 =>
  some ((t1.1.1, ()), ())
def wX9 : List (Plc E xs6) := []
theorem wI5 : All (ub5 5 0 vv7 xx2) wX9 := trivial
def wa0 : Code := Tryz.f123.body.getD .skip
def v33 : Spec E.S := (Con.add u57 ub3)
theorem vQ3 : ub0 E v33 := (Con.add_ok uC3 ua6)
theorem xu0 : ∀ pt r, u34 pt = some r → Good E Tryz.f123 wa0 0 (u66.av r) (u66.bx r) (vv7 pt) (xx2 pt) := by
 intro pt r hr
 cases pt <;> exact ua8 (spec := v33) (wr := (mkWr [] [])) (l := wX9) (z := 5) (p := u66) (run' := fun _ => none) E_ok wI5.mem rfl vQ3 (fun _ _ h => by cases h) (Eq.trans (by kernel_rfl) hr)
def w37 : Con E := ⟨123, _, _, (.cons (Rd.int .i64).w .nil), .nil, 0, xY8, fun a b => u34 (.start a.1), u66.av, u66.bx⟩
theorem wB2 : w37.Ok := fun a b r h => ub6 (fn := Tryz.f123) (code := wa0) E_ok (by kernel_rfl) (by kernel_rfl) (by kernel_rfl) (Nat.le_of_ble_eq_true rfl) (xu0 (.start a.1) r h)
inductive xj9 where
 | start (n0 : Int)
def vw8 : xj9 → List Bool
 | .start .. => []
def xv5 : xj9 → St E.S
 | .start n0 => st0 5 [.v (.int .i64 n0)] []
abbrev xW0 : Type := ((Bool × Unit) × Unit)
def vb0 : Res E (Bool × Unit) Unit := { rows := [], flat := [], keep := 0, done := [0], rl := (.cons Rd.bool .nil), rb := .nil }
def uQ7 : xj9 → Option xW0
 | .start n0 =>
  (us5 (.start n0 (0 : Int) (255 : Int))) >>= fun t1 =>
  some ((t1.1.1, ()), ())
def wX3 : List (Plc E xj9) := []
theorem wp1 : All (ub5 5 0 vw8 xv5) wX3 := trivial
def vY7 : Code := Tryz.f152.body.getD .skip
def wc0 : Spec E.S := (Con.add u57 ub3)
theorem vP7 : ub0 E wc0 := (Con.add_ok uC3 ua6)
theorem xh0 : ∀ pt r, uQ7 pt = some r → Good E Tryz.f152 vY7 0 (vb0.av r) (vb0.bx r) (vw8 pt) (xv5 pt) := by
 intro pt r hr
 cases pt <;> exact ua8 (spec := wc0) (wr := (mkWr [] [])) (l := wX3) (z := 5) (p := vb0) (run' := fun _ => none) E_ok wp1.mem rfl vP7 (fun _ _ h => by cases h) (Eq.trans (by kernel_rfl) hr)
def vK7 : Con E := ⟨152, _, _, (.cons (Rd.int .i64).w .nil), .nil, 0, xW0, fun a b => uQ7 (.start a.1), vb0.av, vb0.bx⟩
theorem vd0 : vK7.Ok := fun a b r h => ub6 (fn := Tryz.f152) (code := vY7) E_ok (by kernel_rfl) (by kernel_rfl) (by kernel_rfl) (Nat.le_of_ble_eq_true rfl) (xh0 (.start a.1) r h)
inductive xl4 where
 | start (op0 : Int) (n1 : Int)
def vA5 : xl4 → List Bool
 | .start .. => []
def xw7 : xl4 → St E.S
 | .start op0 n1 => st0 11 [.v (.int .i64 op0), .v (.int .i64 n1)] []
abbrev xU0 : Type := ((Bool × Unit) × Unit)
def u59 : Res E (Bool × Unit) Unit := { rows := [], flat := [], keep := 0, done := [0], rl := (.cons Rd.bool .nil), rb := .nil }
def uH6 : xl4 → Option xU0
 | .start op0 n1 =>
  (uO2 (.start op0)) >>= fun t1 =>
  if t1.1.1 = true then
   (u34 (.start n1)) >>= fun t2 =>
   some ((t2.1.1, ()), ())
  else
   (uQ7 (.start n1)) >>= fun t3 =>
   some ((t3.1.1, ()), ())
def w30 : List (Plc E xl4) := []
theorem wF4 : All (ub5 11 0 vA5 xw7) w30 := trivial
def v92 : Code := Tryz.f101.body.getD .skip
def we5 : Spec E.S := (Con.add vK7 (Con.add w37 (Con.add w09 ub3)))
theorem vE2 : ub0 E we5 := (Con.add_ok vd0 (Con.add_ok wB2 (Con.add_ok wt0 ua6)))
theorem xi4 : ∀ pt r, uH6 pt = some r → Good E Tryz.f101 v92 0 (u59.av r) (u59.bx r) (vA5 pt) (xw7 pt) := by
 intro pt r hr
 cases pt <;> exact ua8 (spec := we5) (wr := (mkWr [] [])) (l := w30) (z := 11) (p := u59) (run' := fun _ => none) E_ok wF4.mem rfl vE2 (fun _ _ h => by cases h) (Eq.trans (by kernel_rfl) hr)
def w11 : Con E := ⟨101, _, _, (.cons (Rd.int .i64).w (.cons (Rd.int .i64).w .nil)), .nil, 0, xU0, fun a b => uH6 (.start a.1 a.2.1), u59.av, u59.bx⟩
theorem wu3 : w11.Ok := fun a b r h => ub6 (fn := Tryz.f101) (code := v92) E_ok (by kernel_rfl) (by kernel_rfl) (by kernel_rfl) (Nat.le_of_ble_eq_true rfl) (xi4 (.start a.1 a.2.1) r h)
inductive xo5 where
 | start (right0 : Bool) (e1 : Int)
def vw7 : xo5 → List Bool
 | .start .. => []
def xv2 : xo5 → St E.S
 | .start right0 e1 => st0 7 [.v (.bool right0), .v (.int .i64 e1)] []
abbrev x10 : Type := ((Int × Unit) × Unit)
def u35 : Res E (Int × Unit) Unit := { rows := [], flat := [], keep := 0, done := [0], rl := (.cons (Rd.int .i64) .nil), rb := .nil }
def uo6 : xo5 → Option x10
 | .start right0 e1 =>
  if right0 = true then
   some (((0 : Int), ()), ())
  else
   some ((e1, ()), ())
def w91 : List (Plc E xo5) := []
theorem wq5 : All (ub5 7 0 vw7 xv2) w91 := trivial
def wc3 : Code := Tryz.f99.body.getD .skip
def v25 : Spec E.S := ub3
theorem vR0 : ub0 E v25 := ua6
theorem xk0 : ∀ pt r, uo6 pt = some r → Good E Tryz.f99 wc3 0 (u35.av r) (u35.bx r) (vw7 pt) (xv2 pt) := by
 intro pt r hr
 cases pt <;> exact ua8 (spec := v25) (wr := (mkWr [] [])) (l := w91) (z := 7) (p := u35) (run' := fun _ => none) E_ok wq5.mem rfl vR0 (fun _ _ h => by cases h) (Eq.trans (by kernel_rfl) hr)
def vH8 : Con E := ⟨99, _, _, (.cons Rd.bool.w (.cons (Rd.int .i64).w .nil)), .nil, 0, x10, fun a b => uo6 (.start a.1 a.2.1), u35.av, u35.bx⟩
theorem ve6 : vH8.Ok := fun a b r h => ub6 (fn := Tryz.f99) (code := wc3) E_ok (by kernel_rfl) (by kernel_rfl) (by kernel_rfl) (Nat.le_of_ble_eq_true rfl) (xk0 (.start a.1 a.2.1) r h)
inductive xg6 where
 | start (l0 : (List Int))
 | p52 (s5 : (List Int)) (s6 : Int) (s7 : Int)
def u19 : xg6 → List Bool
 | .start .. => []
 | .p52 .. => [false, false, true, false, true]
def w03 : xg6 → St E.S
 | .start l0 => st0 15 [.sl 28 l0 false] []
 | .p52 s5 s6 s7 => mkSt 15 [5, 6, 7] [.sl 28 s5 false, .v (.int .i64 s6), .v (.int .i64 s7)] []
abbrev xT8 : Type := ((Int × Unit) × Unit)
def uH0 : Res E (Int × Unit) Unit := { rows := [], flat := [], keep := 0, done := [0], rl := (.cons (Rd.int .i64) .nil), rb := .nil }
def ui8 : xg6 → Option xT8
 | .start l0 =>
  ui8 (.p52 l0 (List.length l0 : Int) (0 : Int))
 | .p52 s5 s6 s7 =>
  if (decide (s7 < s6)) = true then
   (idx s5 s7) >>= fun t1 =>
   if (t1 != (0 : Int)) = true then
    some ((t1, ()), ())
   else
    ui8 (.p52 s5 s6 (IntKind.wrap .i64 (s7 + (1 : Int))))
  else
   some (((0 : Int), ()), ())
 partial_fixpoint
def w06 : List (Plc E xg6) := [⟨52, [false, false, true, false, true], { slots := [5, 6, 7], rows := [], flat := [], keep := 0 }, _, _, (.cons (Rd.sl 28 false) (.cons (Rd.int .i64) (.cons (Rd.int .i64) .nil))), .nil, fun a b => .p52 a.1 a.2.1 a.2.2.1⟩]
theorem wI3 : All (ub5 15 0 u19 w03) w06 := ⟨⟨rfl, rfl, fun _ _ => rfl, fun _ _ => rfl⟩, trivial⟩
def vj0 : Code := Tryz.f65.body.getD .skip
def v39 : Spec E.S := ub3
theorem vH5 : ub0 E v39 := ua6
theorem xq4 : ∀ pt r, ui8 pt = some r → Good E Tryz.f65 vj0 0 (uH0.av r) (uH0.bx r) (u19 pt) (w03 pt) := by
 refine ui8.partial_correctness (fun pt r => Good E Tryz.f65 vj0 0 (uH0.av r) (uH0.bx r) (u19 pt) (w03 pt)) ?_
 intro run' ih pt r hr
 cases pt <;> exact ua8 (spec := v39) (wr := (mkWr [] [])) (l := w06) (z := 15) (p := uH0) E_ok wI3.mem rfl vH5 ih (Eq.trans (by kernel_rfl) hr)
def vm6 : Con E := ⟨65, _, _, (.cons (Rw.sl 28) .nil), .nil, 0, xT8, fun a b => ui8 (.start a.1), uH0.av, uH0.bx⟩
theorem uO8 : vm6.Ok := fun a b r h => ub6 (fn := Tryz.f65) (code := vj0) E_ok (by kernel_rfl) (by kernel_rfl) (by kernel_rfl) (Nat.le_of_ble_eq_true rfl) (xq4 (.start a.1) r h)
inductive xh3 where
 | start (s0 : Int) (c1_0 : Int) (c1_1 : Int) (c1_2 : Int) (c1_3 : Int)
 | p31 (strange6 : Bool) (C0 : Int) (C1 : Int) (C2 : Int) (C3 : Int)
def u89 : xh3 → List Bool
 | .start .. => []
 | .p31 .. => [true, true, true, true]
def w89 : xh3 → St E.S
 | .start s0 c1_0 c1_1 c1_2 c1_3 => st0 64 [.v (.int .i64 s0), .agg [.v (.int .i64 c1_0), .v (.int .i64 c1_1), .v (.int .i64 c1_2), .v (.int .i64 c1_3)]] []
 | .p31 strange6 C0 C1 C2 C3 => mkSt 64 [3, 6] [.bp 0 0, .v (.bool strange6)] [.var 40 [.v (.int .i64 C0), .v (.int .i64 C1), .v (.int .i64 C2), .v (.int .i64 C3)]]
abbrev xT6 : Type := ((Int × Unit) × Unit)
def uG0 : Res E (Int × Unit) Unit := { rows := [], flat := [], keep := 0, done := [0], rl := (.cons (Rd.int .i64) .nil), rb := .nil }
def ug3 : xh3 → Option xT6
 | .start s0 c1_0 c1_1 c1_2 c1_3 =>
  (us5 (.start c1_0 (0 : Int) (9 : Int))) >>= fun t1 =>
  if (!t1.1.1) = true then
   some (((15 : Int), ()), ())
  else
   (idx wH6 c1_0) >>= fun t2 =>
   if (!t2.a) = true then
    if (c1_1 != (0 : Int)) = true then
     ug3 (.p31 true c1_0 c1_1 c1_2 c1_3)
    else
     if (!t2.b) = true then
      if (c1_2 != (0 : Int)) = true then
       ug3 (.p31 true c1_0 c1_1 c1_2 c1_3)
      else
       if (!t2.n) = true then
        ug3 (.p31 (c1_3 != (0 : Int)) c1_0 c1_1 c1_2 c1_3)
       else
        ug3 (.p31 false c1_0 c1_1 c1_2 c1_3)
     else
      if (!t2.n) = true then
       ug3 (.p31 (c1_3 != (0 : Int)) c1_0 c1_1 c1_2 c1_3)
      else
       ug3 (.p31 false c1_0 c1_1 c1_2 c1_3)
   else
    if (!t2.b) = true then
     if (c1_2 != (0 : Int)) = true then
      ug3 (.p31 true c1_0 c1_1 c1_2 c1_3)
     else
      if (!t2.n) = true then
       ug3 (.p31 (c1_3 != (0 : Int)) c1_0 c1_1 c1_2 c1_3)
      else
       ug3 (.p31 false c1_0 c1_1 c1_2 c1_3)
    else
     if (!t2.n) = true then
      ug3 (.p31 (c1_3 != (0 : Int)) c1_0 c1_1 c1_2 c1_3)
     else
      ug3 (.p31 false c1_0 c1_1 c1_2 c1_3)
 | .p31 strange6 C0 C1 C2 C3 =>
  (va1 (.start C1)) >>= fun t1 =>
  if t1.1.1 = true then
   (va1 (.start C2)) >>= fun t2 =>
   if t2.1.1 = true then
    (uH6 (.start C0 C3)) >>= fun t3 =>
    (uo6 (.start t3.1.1 (2 : Int))) >>= fun t4 =>
    (uo6 (.start (!strange6) (3 : Int))) >>= fun t5 =>
    (ui8 (.start ([t4.1.1, t5.1.1] : List Int))) >>= fun t6 =>
    some ((t6.1.1, ()), ())
   else
    (uo6 (.start false (2 : Int))) >>= fun t7 =>
    (uo6 (.start (!strange6) (3 : Int))) >>= fun t8 =>
    (ui8 (.start ([t7.1.1, t8.1.1] : List Int))) >>= fun t9 =>
    some ((t9.1.1, ()), ())
  else
   (uo6 (.start false (2 : Int))) >>= fun t10 =>
   (uo6 (.start (!strange6) (3 : Int))) >>= fun t11 =>
   (ui8 (.start ([t10.1.1, t11.1.1] : List Int))) >>= fun t12 =>
   some ((t12.1.1, ()), ())
 partial_fixpoint
def wW6 : List (Plc E xh3) := [⟨31, [true, true, true, true], { slots := [3, 6], rows := [], flat := [], keep := 0 }, _, _, (.cons (Rd.bp 0 0) (.cons Rd.bool .nil)), (.cons (.var 40 (.cons (Rd.int .i64) (.cons (Rd.int .i64) (.cons (Rd.int .i64) (.cons (Rd.int .i64) .nil))))) .nil), fun a b => .p31 a.2.1 b.1.1 b.1.2.1 b.1.2.2.1 b.1.2.2.2.1⟩]
theorem wl4 : All (ub5 64 0 u89 w89) wW6 := ⟨⟨rfl, rfl, fun _ _ => rfl, fun _ _ => rfl⟩, trivial⟩
def vq5 : Code := Tryz.f73.body.getD .skip
def v61 : Spec E.S := (Con.add vm6 (Con.add vH8 (Con.add w11 (Con.add wV1 (Con.add u57 ub3)))))
theorem vM0 : ub0 E v61 := (Con.add_ok uO8 (Con.add_ok ve6 (Con.add_ok wu3 (Con.add_ok wv7 (Con.add_ok uC3 ua6)))))
theorem xg2 : ∀ pt r, ug3 pt = some r → Good E Tryz.f73 vq5 0 (uG0.av r) (uG0.bx r) (u89 pt) (w89 pt) := by
 refine ug3.partial_correctness (fun pt r => Good E Tryz.f73 vq5 0 (uG0.av r) (uG0.bx r) (u89 pt) (w89 pt)) ?_
 intro run' ih pt r hr
 cases pt <;> exact ua8 (spec := v61) (wr := (mkWr [] [])) (l := wW6) (z := 64) (p := uG0) E_ok wl4.mem rfl vM0 ih (Eq.trans (by kernel_rfl) hr)
def wZ8 : Con E := ⟨73, _, _, (.cons (Rd.int .i64).w (.cons (Rw.agg (.cons (Rd.int .i64).w (.cons (Rd.int .i64).w (.cons (Rd.int .i64).w (.cons (Rd.int .i64).w .nil))))) .nil)), .nil, 0, xT6, fun a b => ug3 (.start a.1 a.2.1.1 a.2.1.2.1 a.2.1.2.2.1 a.2.1.2.2.2.1), uG0.av, uG0.bx⟩
theorem wF9 : wZ8.Ok := fun a b r h => ub6 (fn := Tryz.f73) (code := vq5) E_ok (by kernel_rfl) (by kernel_rfl) (by kernel_rfl) (Nat.le_of_ble_eq_true rfl) (xg2 (.start a.1 a.2.1.1 a.2.1.2.1 a.2.1.2.2.1 a.2.1.2.2.2.1) r h)
inductive xo6 where
 | start (l0 : (List ua3))
 | p52 (s9 : (List ua3)) (s10 : Int) (s11 : Int)
def va4 : xo6 → List Bool
 | .start .. => []
 | .p52 .. => [false, false, true, false, true]
def w26 : xo6 → St E.S
 | .start l0 => st0 25 [.sl 40 l0 false, .fn 73 []] []
 | .p52 s9 s10 s11 => mkSt 25 [1, 9, 10, 11] [.fn 73 [], .sl 40 s9 false, .v (.int .i64 s10), .v (.int .i64 s11)] []
abbrev xX8 : Type := ((Int × (Int × Unit)) × Unit)
def uF1 : Res E (Int × (Int × Unit)) Unit := { rows := [], flat := [], keep := 0, done := [0, 1], rl := (.cons (Rd.int .i64) (.cons (Rd.int .i64) .nil)), rb := .nil }
def us9 : xo6 → Option xX8
 | .start l0 =>
  us9 (.p52 l0 (List.length l0 : Int) (0 : Int))
 | .p52 s9 s10 s11 =>
  if (decide (s11 < s10)) = true then
   (idx s9 s11) >>= fun t1 =>
   (ug3 (.start s11 t1.Op t1.A t1.B t1.N)) >>= fun t2 =>
   if (t2.1.1 != (0 : Int)) = true then
    some ((s11, (t2.1.1, ())), ())
   else
    us9 (.p52 s9 s10 (IntKind.wrap .i64 (s11 + (1 : Int))))
  else
   some (((0 : Int), ((0 : Int), ())), ())
 partial_fixpoint
def xb5 : List (Plc E xo6) := [⟨52, [false, false, true, false, true], { slots := [1, 9, 10, 11], rows := [], flat := [], keep := 0 }, _, _, (.cons (Rd.fn 73 .nil) (.cons (Rd.sl 40 false) (.cons (Rd.int .i64) (.cons (Rd.int .i64) .nil)))), .nil, fun a b => .p52 a.2.1 a.2.2.1 a.2.2.2.1⟩]
theorem wr1 : All (ub5 25 0 va4 w26) xb5 := ⟨⟨rfl, rfl, fun _ _ => rfl, fun _ _ => rfl⟩, trivial⟩
def vj5 : Code := Tryz.f72.body.getD .skip
def wg9 : Spec E.S := (Con.add wZ8 ub3)
theorem vJ3 : ub0 E wg9 := (Con.add_ok wF9 ua6)
theorem xk6 : ∀ pt r, us9 pt = some r → Good E Tryz.f72 vj5 0 (uF1.av r) (uF1.bx r) (va4 pt) (w26 pt) := by
 refine us9.partial_correctness (fun pt r => Good E Tryz.f72 vj5 0 (uF1.av r) (uF1.bx r) (va4 pt) (w26 pt)) ?_
 intro run' ih pt r hr
 cases pt <;> exact ua8 (spec := wg9) (wr := (mkWr [] [])) (l := xb5) (z := 25) (p := uF1) E_ok wr1.mem rfl vJ3 ih (Eq.trans (by kernel_rfl) hr)
def w69 : Con E := ⟨72, _, _, (.cons (Rw.sl 40) (.cons (Rd.fn 73 .nil).w .nil)), .nil, 0, xX8, fun a b => us9 (.start a.1), uF1.av, uF1.bx⟩
theorem wu4 : w69.Ok := fun a b r h => ub6 (fn := Tryz.f72) (code := vj5) E_ok (by kernel_rfl) (by kernel_rfl) (by kernel_rfl) (Nat.le_of_ble_eq_true rfl) (xk6 (.start a.1) r h)
inductive xe8 where
 | start (l0 : (List ua3))
def vw3 : xe8 → List Bool
 | .start .. => []
def xB8 : xe8 → St E.S
 | .start l0 => st0 11 [.sl 40 l0 false] []
abbrev x13 : Type := ((Int × (Int × Unit)) × Unit)
def vb3 : Res E (Int × (Int × Unit)) Unit := { rows := [], flat := [], keep := 0, done := [0, 1], rl := (.cons (Rd.int .i64) (.cons (Rd.int .i64) .nil)), rb := .nil }
def u01 : xe8 → Option x13
 | .start l0 =>
  if (decide ((List.length l0 : Int) > (16 : Int))) = true then
   some (((0 : Int), ((8 : Int), ())), ())
  else
   (us9 (.start l0)) >>= fun t1 =>
   some ((t1.1.1, (t1.1.2.1, ())), ())
def wX0 : List (Plc E xe8) := []
theorem wq4 : All (ub5 11 0 vw3 xB8) wX0 := trivial
def v02 : Code := Tryz.f20.body.getD .skip
def vZ0 : Spec E.S := (Con.add w69 ub3)
theorem vF8 : ub0 E vZ0 := (Con.add_ok wu4 ua6)
theorem xn8 : ∀ pt r, u01 pt = some r → Good E Tryz.f20 v02 0 (vb3.av r) (vb3.bx r) (vw3 pt) (xB8 pt) := by
 intro pt r hr
 cases pt <;> exact ua8 (spec := vZ0) (wr := (mkWr [] [])) (l := wX0) (z := 11) (p := vb3) (run' := fun _ => none) E_ok wq4.mem rfl vF8 (fun _ _ h => by cases h) (Eq.trans (by kernel_rfl) hr)
def w01 : Con E := ⟨20, _, _, (.cons (Rw.sl 40) .nil), .nil, 0, x13, fun a b => u01 (.start a.1), vb3.av, vb3.bx⟩
theorem wC1 : w01.Ok := fun a b r h => ub6 (fn := Tryz.f20) (code := v02) E_ok (by kernel_rfl) (by kernel_rfl) (by kernel_rfl) (Nat.le_of_ble_eq_true rfl) (xn8 (.start a.1) r h)
inductive xj8 where
 | start (l0 : (List ua3))
def vx6 : xj8 → List Bool
 | .start .. => []
def xC9 : xj8 → St E.S
 | .start l0 => st0 11 [.sl 40 l0 false] []
abbrev xV1 : Type := ((Int × Unit) × Unit)
def u55 : Res E (Int × Unit) Unit := { rows := [], flat := [], keep := 0, done := [0], rl := (.cons (Rd.int .i64) .nil), rb := .nil }
def uV6 : xj8 → Option xV1
 | .start l0 =>
  (u01 (.start l0)) >>= fun t1 =>
  some ((t1.1.2.1, ()), ())
def wY9 : List (Plc E xj8) := []
theorem ws5 : All (ub5 11 0 vx6 xC9) wY9 := trivial
def vX7 : Code := Tryz.f66.body.getD .skip
def wa1 : Spec E.S := (Con.add w01 ub3)
theorem vL7 : ub0 E wa1 := (Con.add_ok wC1 ua6)
theorem xt2 : ∀ pt r, uV6 pt = some r → Good E Tryz.f66 vX7 0 (u55.av r) (u55.bx r) (vx6 pt) (xC9 pt) := by
 intro pt r hr
 cases pt <;> exact ua8 (spec := wa1) (wr := (mkWr [] [])) (l := wY9) (z := 11) (p := u55) (run' := fun _ => none) E_ok ws5.mem rfl vL7 (fun _ _ h => by cases h) (Eq.trans (by kernel_rfl) hr)
def wT4 : Con E := ⟨66, _, _, (.cons (Rw.sl 40) .nil), .nil, 0, xV1, fun a b => uV6 (.start a.1), u55.av, u55.bx⟩
theorem wJ3 : wT4.Ok := fun a b r h => ub6 (fn := Tryz.f66) (code := vX7) E_ok (by kernel_rfl) (by kernel_rfl) (by kernel_rfl) (Nat.le_of_ble_eq_true rfl) (xt2 (.start a.1) r h)
inductive xk9 where
 | start (n0 : Int)
def vy3 : xk9 → List Bool
 | .start .. => []
def xC0 : xk9 → St E.S
 | .start n0 => st0 6 [.v (.int .i64 n0)] []
abbrev xT7 : Type := ((Bool × Unit) × Unit)
def uV4 : Res E (Bool × Unit) Unit := { rows := [], flat := [], keep := 0, done := [0], rl := (.cons Rd.bool .nil), rb := .nil }
def vq4 : xk9 → Option xT7
 | .start n0 =>
  (uQ7 (.start n0)) >>= fun t1 =>
  some ((!t1.1.1, ()), ())
def wY7 : List (Plc E xk9) := []
theorem wH9 : All (ub5 6 0 vy3 xC0) wY7 := trivial
def v96 : Code := Tryz.f170.body.getD .skip
def wh0 : Spec E.S := (Con.add vK7 ub3)
theorem vV1 : ub0 E wh0 := (Con.add_ok vd0 ua6)
theorem xm2 : ∀ pt r, vq4 pt = some r → Good E Tryz.f170 v96 0 (uV4.av r) (uV4.bx r) (vy3 pt) (xC0 pt) := by
 intro pt r hr
 cases pt <;> exact ua8 (spec := wh0) (wr := (mkWr [] [])) (l := wY7) (z := 6) (p := uV4) (run' := fun _ => none) E_ok wH9.mem rfl vV1 (fun _ _ h => by cases h) (Eq.trans (by kernel_rfl) hr)
def wM1 : Con E := ⟨170, _, _, (.cons (Rd.int .i64).w .nil), .nil, 0, xT7, fun a b => vq4 (.start a.1), uV4.av, uV4.bx⟩
theorem wp8 : wM1.Ok := fun a b r h => ub6 (fn := Tryz.f170) (code := v96) E_ok (by kernel_rfl) (by kernel_rfl) (by kernel_rfl) (Nat.le_of_ble_eq_true rfl) (xm2 (.start a.1) r h)
inductive xu1 where
 | start (s0 : (List Int))
 | p52 (s0 : (List Int)) (s7 : Int) (s8 : Int)
def u49 : xu1 → List Bool
 | .start .. => []
 | .p52 .. => [false, false, true, false, true]
def wZ6 : xu1 → St E.S
 | .start s0 => st0 19 [.sl 3 s0 false, .fn 170 []] []
 | .p52 s0 s7 s8 => mkSt 19 [0, 1, 7, 8] [.sl 3 s0 false, .fn 170 [], .v (.int .i64 s7), .v (.int .i64 s8)] []
abbrev xZ1 : Type := ((Int × Unit) × Unit)
def uI1 : Res E (Int × Unit) Unit := { rows := [], flat := [], keep := 0, done := [0], rl := (.cons (Rd.int .i64) .nil), rb := .nil }
def ut0 : xu1 → Option xZ1
 | .start s0 =>
  ut0 (.p52 s0 (List.length s0 : Int) (0 : Int))
 | .p52 s0 s7 s8 =>
  if (decide (s8 < s7)) = true then
   (idx s0 s8) >>= fun t1 =>
   (vq4 (.start t1)) >>= fun t2 =>
   if t2.1.1 = true then
    some ((s8, ()), ())
   else
    ut0 (.p52 s0 s7 (IntKind.wrap .i64 (s8 + (1 : Int))))
  else
   some (((-1 : Int), ()), ())
 partial_fixpoint
def xb0 : List (Plc E xu1) := [⟨52, [false, false, true, false, true], { slots := [0, 1, 7, 8], rows := [], flat := [], keep := 0 }, _, _, (.cons (Rd.sl 3 false) (.cons (Rd.fn 170 .nil) (.cons (Rd.int .i64) (.cons (Rd.int .i64) .nil)))), .nil, fun a b => .p52 a.1 a.2.2.1 a.2.2.2.1⟩]
theorem wj7 : All (ub5 19 0 u49 wZ6) xb0 := ⟨⟨rfl, rfl, fun _ _ => rfl, fun _ _ => rfl⟩, trivial⟩
def vn7 : Code := Tryz.f187.body.getD .skip
def v87 : Spec E.S := (Con.add wM1 ub3)
theorem vU9 : ub0 E v87 := (Con.add_ok wp8 ua6)
theorem xn4 : ∀ pt r, ut0 pt = some r → Good E Tryz.f187 vn7 0 (uI1.av r) (uI1.bx r) (u49 pt) (wZ6 pt) := by
 refine ut0.partial_correctness (fun pt r => Good E Tryz.f187 vn7 0 (uI1.av r) (uI1.bx r) (u49 pt) (wZ6 pt)) ?_
 intro run' ih pt r hr
 cases pt <;> exact ua8 (spec := v87) (wr := (mkWr [] [])) (l := xb0) (z := 19) (p := uI1) E_ok wj7.mem rfl vU9 ih (Eq.trans (by kernel_rfl) hr)
def wV0 : Con E := ⟨187, _, _, (.cons (Rw.sl 3) (.cons (Rd.fn 170 .nil).w .nil)), .nil, 0, xZ1, fun a b => ut0 (.start a.1), uI1.av, uI1.bx⟩
theorem wJ2 : wV0.Ok := fun a b r h => ub6 (fn := Tryz.f187) (code := vn7) E_ok (by kernel_rfl) (by kernel_rfl) (by kernel_rfl) (Nat.le_of_ble_eq_true rfl) (xn4 (.start a.1) r h)
inductive xg4 where
 | start (s0 : (List Int))
def vy1 : xg4 → List Bool
 | .start .. => []
def xC7 : xg4 → St E.S
 | .start s0 => st0 9 [.sl 3 s0 false, .fn 170 []] []
abbrev xT0 : Type := ((Bool × Unit) × Unit)
def uZ2 : Res E (Bool × Unit) Unit := { rows := [], flat := [], keep := 0, done := [0], rl := (.cons Rd.bool .nil), rb := .nil }
def vj1 : xg4 → Option xT0
 | .start s0 =>
  (ut0 (.start s0)) >>= fun t1 =>
  some ((decide (t1.1.1 ≥ (0 : Int)), ()), ())
def w27 : List (Plc E xg4) := []
theorem wm8 : All (ub5 9 0 vy1 xC7) w27 := trivial
def vX5 : Code := Tryz.f169.body.getD .skip
def v11 : Spec E.S := (Con.add wV0 ub3)
theorem vK0 : ub0 E v11 := (Con.add_ok wJ2 ua6)
theorem xq5 : ∀ pt r, vj1 pt = some r → Good E Tryz.f169 vX5 0 (uZ2.av r) (uZ2.bx r) (vy1 pt) (xC7 pt) := by
 intro pt r hr
 cases pt <;> exact ua8 (spec := v11) (wr := (mkWr [] [])) (l := w27) (z := 9) (p := uZ2) (run' := fun _ => none) E_ok wm8.mem rfl vK0 (fun _ _ h => by cases h) (Eq.trans (by kernel_rfl) hr)
def wN3 : Con E := ⟨169, _, _, (.cons (Rw.sl 3) (.cons (Rd.fn 170 .nil).w .nil)), .nil, 0, xT0, fun a b => vj1 (.start a.1), uZ2.av, uZ2.bx⟩
theorem wq0 : wN3.Ok := fun a b r h => ub6 (fn := Tryz.f169) (code := vX5) E_ok (by kernel_rfl) (by kernel_rfl) (by kernel_rfl) (Nat.le_of_ble_eq_true rfl) (xq5 (.start a.1) r h)
inductive xo9 where
 | start (l0 : (List Int)) (count1 : Int)
def vx4 : xo9 → List Bool
 | .start .. => []
def xv6 : xo9 → St E.S
 | .start l0 count1 => st0 18 [.sl 3 l0 false, .v (.int .i64 count1)] []
abbrev xV6 : Type := ((Int × Unit) × Unit)
def u53 : Res E (Int × Unit) Unit := { rows := [], flat := [], keep := 0, done := [0], rl := (.cons (Rd.int .i64) .nil), rb := .nil }
def uX6 : xo9 → Option xV6
 | .start l0 count1 =>
  (vj1 (.start l0)) >>= fun t1 =>
  (uo6 (.start ((List.length l0 : Int) == count1) (10 : Int))) >>= fun t2 =>
  (uo6 (.start (!t1.1.1) (2 : Int))) >>= fun t3 =>
  (ui8 (.start ([t2.1.1, t3.1.1] : List Int))) >>= fun t4 =>
  some ((t4.1.1, ()), ())
def w38 : List (Plc E xo9) := []
theorem wr2 : All (ub5 18 0 vx4 xv6) w38 := trivial
def wb6 : Code := Tryz.f120.body.getD .skip
def v15 : Spec E.S := (Con.add vm6 (Con.add vH8 (Con.add wN3 ub3)))
theorem vF9 : ub0 E v15 := (Con.add_ok uO8 (Con.add_ok ve6 (Con.add_ok wq0 ua6)))
theorem xj0 : ∀ pt r, uX6 pt = some r → Good E Tryz.f120 wb6 0 (u53.av r) (u53.bx r) (vx4 pt) (xv6 pt) := by
 intro pt r hr
 cases pt <;> exact ua8 (spec := v15) (wr := (mkWr [] [])) (l := w38) (z := 18) (p := u53) (run' := fun _ => none) E_ok wr2.mem rfl vF9 (fun _ _ h => by cases h) (Eq.trans (by kernel_rfl) hr)
def xe2 : Con E := ⟨120, _, _, (.cons (Rw.sl 3) (.cons (Rd.int .i64).w .nil)), .nil, 0, xV6, fun a b => uX6 (.start a.1 a.2.1), u53.av, u53.bx⟩
theorem wz6 : xe2.Ok := fun a b r h => ub6 (fn := Tryz.f120) (code := wb6) E_ok (by kernel_rfl) (by kernel_rfl) (by kernel_rfl) (Nat.le_of_ble_eq_true rfl) (xj0 (.start a.1 a.2.1) r h)
inductive xq2 where
 | start (l0 : (List Int))
def vy7 : xq2 → List Bool
 | .start .. => []
def xy4 : xq2 → St E.S
 | .start l0 => st0 5 [.sl 3 l0 false] []
abbrev xS8 : Type := ((Int × Unit) × Unit)
def u93 : Res E (Int × Unit) Unit := { rows := [], flat := [], keep := 0, done := [0], rl := (.cons (Rd.int .i64) .nil), rb := .nil }
def u11 : xq2 → Option xS8
 | .start l0 =>
  (uX6 (.start l0 (8 : Int))) >>= fun t1 =>
  some ((t1.1.1, ()), ())
def wQ2 : List (Plc E xq2) := []
theorem ws4 : All (ub5 5 0 vy7 xy4) wQ2 := trivial
def vX1 : Code := Tryz.f67.body.getD .skip
def wh2 : Spec E.S := (Con.add xe2 ub3)
theorem vO1 : ub0 E wh2 := (Con.add_ok wz6 ua6)
theorem xf8 : ∀ pt r, u11 pt = some r → Good E Tryz.f67 vX1 0 (u93.av r) (u93.bx r) (vy7 pt) (xy4 pt) := by
 intro pt r hr
 cases pt <;> exact ua8 (spec := wh2) (wr := (mkWr [] [])) (l := wQ2) (z := 5) (p := u93) (run' := fun _ => none) E_ok ws4.mem rfl vO1 (fun _ _ h => by cases h) (Eq.trans (by kernel_rfl) hr)
def wL6 : Con E := ⟨67, _, _, (.cons (Rw.sl 3) .nil), .nil, 0, xS8, fun a b => u11 (.start a.1), u93.av, u93.bx⟩
theorem wo4 : wL6.Ok := fun a b r h => ub6 (fn := Tryz.f67) (code := vX1) E_ok (by kernel_rfl) (by kernel_rfl) (by kernel_rfl) (Nat.le_of_ble_eq_true rfl) (xf8 (.start a.1) r h)
inductive wG4 where
 | start (op1 : Int) (width2 : Int) (value3 : Int) (args4 : (List ua0)) (B0 : ByteArray) (B1 : (List ua1))
 | p116 (op1 : Int) (width2 : Int) (value3 : Int) (s14 : (List ua0)) (s15 : Int) (s16 : Int) (B0 : ByteArray) (G0 : Int) (G1 : Int) (B3 : (List Int)) (B4 : (List ua1))
def u21 : wG4 → List Bool
 | .start .. => []
 | .p116 .. => [false, false, true, false, true, true]
def w68 : wG4 → St E.S
 | .start op1 width2 value3 args4 B0 B1 => st0 51 [.agg [.bp 0 0], .v (.int .i64 op1), .v (.int .i64 width2), .v (.int .i64 value3), .sl 133 args4 false] [.var 75 [.v (.string B0), .nl, .rw 1, .nl, .nl, .nl, .nl], .row 82 B1 true]
 | .p116 op1 width2 value3 s14 s15 s16 B0 G0 G1 B3 B4 => mkSt 51 [1, 2, 3, 5, 10, 11, 14, 15, 16] [.v (.int .i64 op1), .v (.int .i64 width2), .v (.int .i64 value3), .bp 1 0, .bp 2 0, .rw 3, .sl 133 s14 false, .v (.int .i64 s15), .v (.int .i64 s16)] [.var 75 [.v (.string B0), .nl, .rw 4, .nl, .nl, .nl, .nl], .var 131 [.bp 0 0], .var 133 [.v (.int .i64 G0), .v (.int .i64 G1)], .row 3 B3 false, .row 82 B4 true]
abbrev xP7 : Type := (((Int × (Int × Unit)) × Unit) × ((ByteArray × (Unit × (Unit × (Unit × (Unit × (Unit × (Unit × Unit))))))) × ((List ua1) × ((List ua2) × Unit))))
def uE9 : Res E ((Int × (Int × Unit)) × Unit) ((ByteArray × (Unit × (Unit × (Unit × (Unit × (Unit × (Unit × Unit))))))) × ((List ua1) × ((List ua2) × Unit))) := { rows := [], flat := [], keep := 1, done := [0], rl := (.cons (Rd.agg (.cons (Rd.int .i64) (.cons (Rd.int .i64) .nil))) .nil), rb := (.cons (.var 75 (.cons Rd.str (.cons Rd.nl (.cons (Rd.rw 1) (.cons (Rd.rw 2) (.cons Rd.nl (.cons Rd.nl (.cons Rd.nl .nil)))))))) (.cons (.row 82 true) (.cons (.row 208 true) .nil))) }
def uB5 : wG4 → Option xP7
 | .start op1 width2 value3 args4 B0 B1 =>
  uB5 (.p116 op1 width2 value3 args4 (List.length args4 : Int) (0 : Int) B0 (0 : Int) (0 : Int) ([] : List Int) B1)
 | .p116 op1 width2 value3 s14 s15 s16 B0 G0 G1 B3 B4 =>
  if (decide (s16 < s15)) = true then
   (idx s14 s16) >>= fun t1 =>
   if (fits (List.length B3) (List.length ([t1.node] : List Int)) 8) = true then
    uB5 (.p116 op1 width2 value3 s14 s15 (IntKind.wrap .i64 (s16 + (1 : Int))) B0 G0 G1 (B3 ++ ([t1.node] : List Int)) B4)
   else none
  else
   if (fits (List.length ([] : List ua2)) (List.length ([(⟨op1, width2, B3, value3⟩ : ua2)] : List ua2)) 48) = true then
    some (((IntKind.wrap .i64 ((List.length (([] : List ua2) ++ ([(⟨op1, width2, B3, value3⟩ : ua2)] : List ua2)) : Int) - (1 : Int)), (width2, ())), ()), ((B0, ((), ((), ((), ((), ((), ((), ()))))))), (B4, (([] : List ua2) ++ ([(⟨op1, width2, B3, value3⟩ : ua2)] : List ua2), ()))))
   else none
 partial_fixpoint
def wX5 : List (Plc E wG4) := [⟨116, [false, false, true, false, true, true], { slots := [1, 2, 3, 5, 10, 11, 14, 15, 16], rows := [(11, 3)], flat := [], keep := 1 }, _, _, (.cons (Rd.int .i64) (.cons (Rd.int .i64) (.cons (Rd.int .i64) (.cons (Rd.bp 1 0) (.cons (Rd.bp 2 0) (.cons (Rd.rw 3) (.cons (Rd.sl 133 false) (.cons (Rd.int .i64) (.cons (Rd.int .i64) .nil))))))))), (.cons (.var 75 (.cons Rd.str (.cons Rd.nl (.cons (Rd.rw 4) (.cons Rd.nl (.cons Rd.nl (.cons Rd.nl (.cons Rd.nl .nil)))))))) (.cons (.var 131 (.cons (Rd.bp 0 0) .nil)) (.cons (.var 133 (.cons (Rd.int .i64) (.cons (Rd.int .i64) .nil))) (.cons (.row 3 false) (.cons (.row 82 true) .nil))))), fun a b => .p116 a.1 a.2.1 a.2.2.1 a.2.2.2.2.2.2.1 a.2.2.2.2.2.2.2.1 a.2.2.2.2.2.2.2.2.1 b.1.1 b.2.2.1.1 b.2.2.1.2.1 b.2.2.2.1 b.2.2.2.2.1⟩]
theorem wD3 : All (ub5 51 1 u21 w68) wX5 := ⟨⟨rfl, rfl, fun _ _ => rfl, fun _ _ => rfl⟩, trivial⟩
def vh2 : Code := Tryz.f127.body.getD .skip
def wc8 : Spec E.S := ub3
theorem vE1 : ub0 E wc8 := ua6
theorem xl3 : ∀ pt r, uB5 pt = some r → Good E Tryz.f127 vh2 1 (uE9.av r) (uE9.bx r) (u21 pt) (w68 pt) := by
 refine uB5.partial_correctness (fun pt r => Good E Tryz.f127 vh2 1 (uE9.av r) (uE9.bx r) (u21 pt) (w68 pt)) ?_
 intro run' ih pt r hr
 cases pt <;> exact ua8 (spec := wc8) (wr := (mkWr [] [(30, [11])])) (l := wX5) (z := 51) (p := uE9) E_ok wD3.mem rfl vE1 ih (Eq.trans (by kernel_rfl) hr)
def w05 : Con E := ⟨127, _, _, (.cons (Rw.agg (.cons (Rd.bp 0 0).w .nil)) (.cons (Rd.int .i64).w (.cons (Rd.int .i64).w (.cons (Rd.int .i64).w (.cons (Rw.sl 133) .nil))))), (.cons (.var 75 (.cons Rd.str (.cons Rd.nl (.cons (Rd.rw 1) (.cons Rd.nl (.cons Rd.nl (.cons Rd.nl (.cons Rd.nl .nil)))))))) (.cons (.row 82 true) .nil)), 1, xP7, fun a b => uB5 (.start a.2.1 a.2.2.1 a.2.2.2.1 a.2.2.2.2.1 b.1.1 b.2.1), uE9.av, uE9.bx⟩
theorem wm3 : w05.Ok := fun a b r h => ub6 (fn := Tryz.f127) (code := vh2) E_ok (by kernel_rfl) (by kernel_rfl) (by kernel_rfl) (Nat.le_of_ble_eq_true rfl) (xl3 (.start a.2.1 a.2.2.1 a.2.2.2.1 a.2.2.2.2.1 b.1.1 b.2.1) r h)
inductive wq7 where
 | start (name1 : ByteArray) (width2 : Int) (init3 : Int) (B0 : ByteArray)
def vt4 : wq7 → List Bool
 | .start .. => []
def xy6 : wq7 → St E.S
 | .start name1 width2 init3 B0 => st0 35 [.agg [.bp 0 0], .v (.string name1), .v (.int .i64 width2), .v (.int .i64 init3)] [.var 75 [.v (.string B0), .nl, .nl, .nl, .nl, .nl, .nl]]
abbrev xL9 : Type := (((Int × (Int × Unit)) × Unit) × ((ByteArray × (Unit × (Unit × (Unit × (Unit × (Unit × (Unit × Unit))))))) × ((List ua1) × ((List ua2) × Unit))))
def u02 : Res E ((Int × (Int × Unit)) × Unit) ((ByteArray × (Unit × (Unit × (Unit × (Unit × (Unit × (Unit × Unit))))))) × ((List ua1) × ((List ua2) × Unit))) := { rows := [], flat := [], keep := 1, done := [0], rl := (.cons (Rd.agg (.cons (Rd.int .i64) (.cons (Rd.int .i64) .nil))) .nil), rb := (.cons (.var 75 (.cons Rd.str (.cons Rd.nl (.cons (Rd.rw 1) (.cons (Rd.rw 2) (.cons Rd.nl (.cons Rd.nl (.cons Rd.nl .nil)))))))) (.cons (.row 82 true) (.cons (.row 208 true) .nil))) }
def u61 : wq7 → Option xL9
 | .start name1 width2 init3 B0 =>
  if (fits (List.length ([] : List ua1)) (List.length ([(⟨name1, (0 : Int), width2, init3, (0 : Int)⟩ : ua1)] : List ua1)) 48) = true then
   (uB5 (.start (1 : Int) width2 (0 : Int) ([]) B0 (([] : List ua1) ++ ([(⟨name1, (0 : Int), width2, init3, (0 : Int)⟩ : ua1)] : List ua1)))) >>= fun t1 =>
   some (((t1.1.1.1, (t1.1.1.2.1, ())), ()), ((t1.2.1.1, ((), ((), ((), ((), ((), ((), ()))))))), (t1.2.2.1, (t1.2.2.2.1, ()))))
  else none
def wM4 : List (Plc E wq7) := []
theorem wo9 : All (ub5 35 1 vt4 xy6) wM4 := trivial
def wg5 : Code := Tryz.f83.body.getD .skip
def wh3 : Spec E.S := (Con.add w05 ub3)
theorem vF7 : ub0 E wh3 := (Con.add_ok wm3 ua6)
theorem xu7 : ∀ pt r, u61 pt = some r → Good E Tryz.f83 wg5 1 (u02.av r) (u02.bx r) (vt4 pt) (xy6 pt) := by
 intro pt r hr
 cases pt <;> exact ua8 (spec := wh3) (wr := (mkWr [] [])) (l := wM4) (z := 35) (p := u02) (run' := fun _ => none) E_ok wo9.mem rfl vF7 (fun _ _ h => by cases h) (Eq.trans (by kernel_rfl) hr)
def w28 : Con E := ⟨83, _, _, (.cons (Rw.agg (.cons (Rd.bp 0 0).w .nil)) (.cons Rd.str.w (.cons (Rd.int .i64).w (.cons (Rd.int .i64).w .nil)))), (.cons (.var 75 (.cons Rd.str (.cons Rd.nl (.cons Rd.nl (.cons Rd.nl (.cons Rd.nl (.cons Rd.nl (.cons Rd.nl .nil)))))))) .nil), 1, xL9, fun a b => u61 (.start a.2.1 a.2.2.1 a.2.2.2.1 b.1.1), u02.av, u02.bx⟩
theorem wj8 : w28.Ok := fun a b r h => ub6 (fn := Tryz.f83) (code := wg5) E_ok (by kernel_rfl) (by kernel_rfl) (by kernel_rfl) (Nat.le_of_ble_eq_true rfl) (xu7 (.start a.2.1 a.2.2.1 a.2.2.2.1 b.1.1) r h)
inductive wE6 where
 | start (op1 : Int) (width2 : Int) (value3 : Int) (args4 : (List ua0)) (B0 : ByteArray) (B1 : (List ua1)) (B2 : (List ua2))
 | p116 (op1 : Int) (width2 : Int) (value3 : Int) (s14 : (List ua0)) (s15 : Int) (s16 : Int) (B0 : ByteArray) (G0 : Int) (G1 : Int) (B3 : (List Int)) (B4 : (List ua1)) (B5 : (List ua2))
def u73 : wE6 → List Bool
 | .start .. => []
 | .p116 .. => [false, false, true, false, true, true]
def w71 : wE6 → St E.S
 | .start op1 width2 value3 args4 B0 B1 B2 => st0 51 [.agg [.bp 0 0], .v (.int .i64 op1), .v (.int .i64 width2), .v (.int .i64 value3), .sl 133 args4 false] [.var 75 [.v (.string B0), .nl, .rw 1, .rw 2, .nl, .nl, .nl], .row 82 B1 true, .row 208 B2 true]
 | .p116 op1 width2 value3 s14 s15 s16 B0 G0 G1 B3 B4 B5 => mkSt 51 [1, 2, 3, 5, 10, 11, 14, 15, 16] [.v (.int .i64 op1), .v (.int .i64 width2), .v (.int .i64 value3), .bp 1 0, .bp 2 0, .rw 3, .sl 133 s14 false, .v (.int .i64 s15), .v (.int .i64 s16)] [.var 75 [.v (.string B0), .nl, .rw 4, .rw 5, .nl, .nl, .nl], .var 131 [.bp 0 0], .var 133 [.v (.int .i64 G0), .v (.int .i64 G1)], .row 3 B3 false, .row 82 B4 true, .row 208 B5 true]
abbrev xH6 : Type := (((Int × (Int × Unit)) × Unit) × ((ByteArray × (Unit × (Unit × (Unit × (Unit × (Unit × (Unit × Unit))))))) × ((List ua1) × ((List ua2) × Unit))))
def uK0 : Res E ((Int × (Int × Unit)) × Unit) ((ByteArray × (Unit × (Unit × (Unit × (Unit × (Unit × (Unit × Unit))))))) × ((List ua1) × ((List ua2) × Unit))) := { rows := [], flat := [], keep := 1, done := [0], rl := (.cons (Rd.agg (.cons (Rd.int .i64) (.cons (Rd.int .i64) .nil))) .nil), rb := (.cons (.var 75 (.cons Rd.str (.cons Rd.nl (.cons (Rd.rw 1) (.cons (Rd.rw 2) (.cons Rd.nl (.cons Rd.nl (.cons Rd.nl .nil)))))))) (.cons (.row 82 true) (.cons (.row 208 true) .nil))) }
def un1 : wE6 → Option xH6
 | .start op1 width2 value3 args4 B0 B1 B2 =>
  un1 (.p116 op1 width2 value3 args4 (List.length args4 : Int) (0 : Int) B0 (0 : Int) (0 : Int) ([] : List Int) B1 B2)
 | .p116 op1 width2 value3 s14 s15 s16 B0 G0 G1 B3 B4 B5 =>
  if (decide (s16 < s15)) = true then
   (idx s14 s16) >>= fun t1 =>
   if (fits (List.length B3) (List.length ([t1.node] : List Int)) 8) = true then
    un1 (.p116 op1 width2 value3 s14 s15 (IntKind.wrap .i64 (s16 + (1 : Int))) B0 G0 G1 (B3 ++ ([t1.node] : List Int)) B4 B5)
   else none
  else
   if (fits (List.length B5) (List.length ([(⟨op1, width2, B3, value3⟩ : ua2)] : List ua2)) 48) = true then
    some (((IntKind.wrap .i64 ((List.length (B5 ++ ([(⟨op1, width2, B3, value3⟩ : ua2)] : List ua2)) : Int) - (1 : Int)), (width2, ())), ()), ((B0, ((), ((), ((), ((), ((), ((), ()))))))), (B4, (B5 ++ ([(⟨op1, width2, B3, value3⟩ : ua2)] : List ua2), ()))))
   else none
 partial_fixpoint
def wK1 : List (Plc E wE6) := [⟨116, [false, false, true, false, true, true], { slots := [1, 2, 3, 5, 10, 11, 14, 15, 16], rows := [(11, 3)], flat := [], keep := 1 }, _, _, (.cons (Rd.int .i64) (.cons (Rd.int .i64) (.cons (Rd.int .i64) (.cons (Rd.bp 1 0) (.cons (Rd.bp 2 0) (.cons (Rd.rw 3) (.cons (Rd.sl 133 false) (.cons (Rd.int .i64) (.cons (Rd.int .i64) .nil))))))))), (.cons (.var 75 (.cons Rd.str (.cons Rd.nl (.cons (Rd.rw 4) (.cons (Rd.rw 5) (.cons Rd.nl (.cons Rd.nl (.cons Rd.nl .nil)))))))) (.cons (.var 131 (.cons (Rd.bp 0 0) .nil)) (.cons (.var 133 (.cons (Rd.int .i64) (.cons (Rd.int .i64) .nil))) (.cons (.row 3 false) (.cons (.row 82 true) (.cons (.row 208 true) .nil)))))), fun a b => .p116 a.1 a.2.1 a.2.2.1 a.2.2.2.2.2.2.1 a.2.2.2.2.2.2.2.1 a.2.2.2.2.2.2.2.2.1 b.1.1 b.2.2.1.1 b.2.2.1.2.1 b.2.2.2.1 b.2.2.2.2.1 b.2.2.2.2.2.1⟩]
theorem wl8 : All (ub5 51 1 u73 w71) wK1 := ⟨⟨rfl, rfl, fun _ _ => rfl, fun _ _ => rfl⟩, trivial⟩
def vr0 : Code := Tryz.f127.body.getD .skip
def v24 : Spec E.S := ub3
theorem vD3 : ub0 E v24 := ua6
theorem xk2 : ∀ pt r, un1 pt = some r → Good E Tryz.f127 vr0 1 (uK0.av r) (uK0.bx r) (u73 pt) (w71 pt) := by
 refine un1.partial_correctness (fun pt r => Good E Tryz.f127 vr0 1 (uK0.av r) (uK0.bx r) (u73 pt) (w71 pt)) ?_
 intro run' ih pt r hr
 cases pt <;> exact ua8 (spec := v24) (wr := (mkWr [] [(30, [11])])) (l := wK1) (z := 51) (p := uK0) E_ok wl8.mem rfl vD3 ih (Eq.trans (by kernel_rfl) hr)
def uJ3 : Con E := ⟨127, _, _, (.cons (Rw.agg (.cons (Rd.bp 0 0).w .nil)) (.cons (Rd.int .i64).w (.cons (Rd.int .i64).w (.cons (Rd.int .i64).w (.cons (Rw.sl 133) .nil))))), (.cons (.var 75 (.cons Rd.str (.cons Rd.nl (.cons (Rd.rw 1) (.cons (Rd.rw 2) (.cons Rd.nl (.cons Rd.nl (.cons Rd.nl .nil)))))))) (.cons (.row 82 true) (.cons (.row 208 true) .nil))), 1, xH6, fun a b => un1 (.start a.2.1 a.2.2.1 a.2.2.2.1 a.2.2.2.2.1 b.1.1 b.2.1 b.2.2.1), uK0.av, uK0.bx⟩
theorem uq3 : uJ3.Ok := fun a b r h => ub6 (fn := Tryz.f127) (code := vr0) E_ok (by kernel_rfl) (by kernel_rfl) (by kernel_rfl) (Nat.le_of_ble_eq_true rfl) (xk2 (.start a.2.1 a.2.2.1 a.2.2.2.1 a.2.2.2.2.1 b.1.1 b.2.1 b.2.2.1) r h)
inductive wt8 where
 | start (name1 : ByteArray) (width2 : Int) (init3 : Int) (B0 : ByteArray) (B1 : (List ua1)) (B2 : (List ua2))
def vt0 : wt8 → List Bool
 | .start .. => []
def xw6 : wt8 → St E.S
 | .start name1 width2 init3 B0 B1 B2 => st0 35 [.agg [.bp 0 0], .v (.string name1), .v (.int .i64 width2), .v (.int .i64 init3)] [.var 75 [.v (.string B0), .nl, .rw 1, .rw 2, .nl, .nl, .nl], .row 82 B1 true, .row 208 B2 true]
abbrev xR7 : Type := (((Int × (Int × Unit)) × Unit) × ((ByteArray × (Unit × (Unit × (Unit × (Unit × (Unit × (Unit × Unit))))))) × ((List ua1) × ((List ua2) × Unit))))
def uX3 : Res E ((Int × (Int × Unit)) × Unit) ((ByteArray × (Unit × (Unit × (Unit × (Unit × (Unit × (Unit × Unit))))))) × ((List ua1) × ((List ua2) × Unit))) := { rows := [], flat := [], keep := 1, done := [0], rl := (.cons (Rd.agg (.cons (Rd.int .i64) (.cons (Rd.int .i64) .nil))) .nil), rb := (.cons (.var 75 (.cons Rd.str (.cons Rd.nl (.cons (Rd.rw 1) (.cons (Rd.rw 2) (.cons Rd.nl (.cons Rd.nl (.cons Rd.nl .nil)))))))) (.cons (.row 82 true) (.cons (.row 208 true) .nil))) }
def uu5 : wt8 → Option xR7
 | .start name1 width2 init3 B0 B1 B2 =>
  if (fits (List.length B1) (List.length ([(⟨name1, (0 : Int), width2, init3, (0 : Int)⟩ : ua1)] : List ua1)) 48) = true then
   (un1 (.start (1 : Int) width2 (List.length B1 : Int) ([]) B0 (B1 ++ ([(⟨name1, (0 : Int), width2, init3, (0 : Int)⟩ : ua1)] : List ua1)) B2)) >>= fun t1 =>
   some (((t1.1.1.1, (t1.1.1.2.1, ())), ()), ((t1.2.1.1, ((), ((), ((), ((), ((), ((), ()))))))), (t1.2.2.1, (t1.2.2.2.1, ()))))
  else none
def wK9 : List (Plc E wt8) := []
theorem wr8 : All (ub5 35 1 vt0 xw6) wK9 := trivial
def v64 : Code := Tryz.f83.body.getD .skip
def vX6 : Spec E.S := (Con.add uJ3 ub3)
theorem vI9 : ub0 E vX6 := (Con.add_ok uq3 ua6)
theorem xl5 : ∀ pt r, uu5 pt = some r → Good E Tryz.f83 v64 1 (uX3.av r) (uX3.bx r) (vt0 pt) (xw6 pt) := by
 intro pt r hr
 cases pt <;> exact ua8 (spec := vX6) (wr := (mkWr [] [])) (l := wK9) (z := 35) (p := uX3) (run' := fun _ => none) E_ok wr8.mem rfl vI9 (fun _ _ h => by cases h) (Eq.trans (by kernel_rfl) hr)
def w60 : Con E := ⟨83, _, _, (.cons (Rw.agg (.cons (Rd.bp 0 0).w .nil)) (.cons Rd.str.w (.cons (Rd.int .i64).w (.cons (Rd.int .i64).w .nil)))), (.cons (.var 75 (.cons Rd.str (.cons Rd.nl (.cons (Rd.rw 1) (.cons (Rd.rw 2) (.cons Rd.nl (.cons Rd.nl (.cons Rd.nl .nil)))))))) (.cons (.row 82 true) (.cons (.row 208 true) .nil))), 1, xR7, fun a b => uu5 (.start a.2.1 a.2.2.1 a.2.2.2.1 b.1.1 b.2.1 b.2.2.1), uX3.av, uX3.bx⟩
theorem wx5 : w60.Ok := fun a b r h => ub6 (fn := Tryz.f83) (code := v64) E_ok (by kernel_rfl) (by kernel_rfl) (by kernel_rfl) (Nat.le_of_ble_eq_true rfl) (xl5 (.start a.2.1 a.2.2.1 a.2.2.2.1 b.1.1 b.2.1 b.2.2.1) r h)
inductive ww0 where
 | start (width1 : Int) (value2 : Int) (B0 : ByteArray) (B1 : (List ua1)) (B2 : (List ua2))
def vx5 : ww0 → List Bool
 | .start .. => []
def xA2 : ww0 → St E.S
 | .start width1 value2 B0 B1 B2 => st0 11 [.agg [.bp 0 0], .v (.int .i64 width1), .v (.int .i64 value2)] [.var 75 [.v (.string B0), .nl, .rw 1, .rw 2, .nl, .nl, .nl], .row 82 B1 true, .row 208 B2 true]
abbrev xQ7 : Type := (((Int × (Int × Unit)) × Unit) × ((ByteArray × (Unit × (Unit × (Unit × (Unit × (Unit × (Unit × Unit))))))) × ((List ua1) × ((List ua2) × Unit))))
def u08 : Res E ((Int × (Int × Unit)) × Unit) ((ByteArray × (Unit × (Unit × (Unit × (Unit × (Unit × (Unit × Unit))))))) × ((List ua1) × ((List ua2) × Unit))) := { rows := [], flat := [], keep := 1, done := [0], rl := (.cons (Rd.agg (.cons (Rd.int .i64) (.cons (Rd.int .i64) .nil))) .nil), rb := (.cons (.var 75 (.cons Rd.str (.cons Rd.nl (.cons (Rd.rw 1) (.cons (Rd.rw 2) (.cons Rd.nl (.cons Rd.nl (.cons Rd.nl .nil)))))))) (.cons (.row 82 true) (.cons (.row 208 true) .nil))) }
def uP4 : ww0 → Option xQ7
 | .start width1 value2 B0 B1 B2 =>
  (un1 (.start (0 : Int) width1 value2 ([]) B0 B1 B2)) >>= fun t1 =>
  some (((t1.1.1.1, (t1.1.1.2.1, ())), ()), ((t1.2.1.1, ((), ((), ((), ((), ((), ((), ()))))))), (t1.2.2.1, (t1.2.2.2.1, ()))))
def wK3 : List (Plc E ww0) := []
theorem wy2 : All (ub5 11 1 vx5 xA2) wK3 := trivial
def wg6 : Code := Tryz.f85.body.getD .skip
def wd6 : Spec E.S := (Con.add uJ3 ub3)
theorem vS8 : ub0 E wd6 := (Con.add_ok uq3 ua6)
theorem xs0 : ∀ pt r, uP4 pt = some r → Good E Tryz.f85 wg6 1 (u08.av r) (u08.bx r) (vx5 pt) (xA2 pt) := by
 intro pt r hr
 cases pt <;> exact ua8 (spec := wd6) (wr := (mkWr [] [])) (l := wK3) (z := 11) (p := u08) (run' := fun _ => none) E_ok wy2.mem rfl vS8 (fun _ _ h => by cases h) (Eq.trans (by kernel_rfl) hr)
def vK3 : Con E := ⟨85, _, _, (.cons (Rw.agg (.cons (Rd.bp 0 0).w .nil)) (.cons (Rd.int .i64).w (.cons (Rd.int .i64).w .nil))), (.cons (.var 75 (.cons Rd.str (.cons Rd.nl (.cons (Rd.rw 1) (.cons (Rd.rw 2) (.cons Rd.nl (.cons Rd.nl (.cons Rd.nl .nil)))))))) (.cons (.row 82 true) (.cons (.row 208 true) .nil))), 1, xQ7, fun a b => uP4 (.start a.2.1 a.2.2.1 b.1.1 b.2.1 b.2.2.1), u08.av, u08.bx⟩
theorem vg5 : vK3.Ok := fun a b r h => ub6 (fn := Tryz.f85) (code := wg6) E_ok (by kernel_rfl) (by kernel_rfl) (by kernel_rfl) (Nat.le_of_ble_eq_true rfl) (xs0 (.start a.2.1 a.2.2.1 b.1.1 b.2.1 b.2.2.1) r h)
inductive wH4 where
 | start (memory0 : (List Int))
 | p2036 (memory0 : (List Int)) (s27 : Int) (C0 : Int) (C1 : Int) (C2 : Int) (C3 : Int) (C4 : Int) (C5 : Int) (C6 : Int) (C7 : Int) (C8 : Int) (C9 : Int) (D0 : Int) (D1 : Int) (D2 : Int) (D3 : Int) (D4 : Int) (D5 : Int) (D6 : Int) (D7 : Int) (D8 : Int) (D9 : Int) (B2 : ByteArray) (B3 : (List ua0)) (B4 : (List ua1)) (B5 : (List ua2))
 | p4084 (s42 : (List Int)) (s43 : Int) (s44 : Int) (C0 : Int) (C1 : Int) (C2 : Int) (C3 : Int) (C4 : Int) (C5 : Int) (C6 : Int) (C7 : Int) (C8 : Int) (C9 : Int) (D0 : Int) (D1 : Int) (D2 : Int) (D3 : Int) (D4 : Int) (D5 : Int) (D6 : Int) (D7 : Int) (D8 : Int) (D9 : Int) (B2 : ByteArray) (B3 : (List ua0)) (B4 : (List ua0)) (B5 : (List ua1)) (B6 : (List ua2))
def u44 : wH4 → List Bool
 | .start .. => []
 | .p2036 .. => [false, false, true, false, true, true, true, true, true, true]
 | .p4084 .. => [false, false, true, false, true, true, true, true, true, true, true]
def xc7 : wH4 → St E.S
 | .start memory0 => st0 67 [.sl 3 memory0 false] []
 | .p2036 memory0 s27 C0 C1 C2 C3 C4 C5 C6 C7 C8 C9 D0 D1 D2 D3 D4 D5 D6 D7 D8 D9 B2 B3 B4 B5 => mkSt 67 [0, 2, 3, 27] [.sl 3 memory0 false, .bp 0 0, .bp 1 0, .v (.int .i64 s27)] [.var 177 [.v (.pointer none), .v (.int .i64 C0), .v (.int .i64 C1), .v (.int .i64 C2), .v (.int .i64 C3), .v (.int .i64 C4), .v (.int .i64 C5), .v (.int .i64 C6), .v (.int .i64 C7), .nl, .nl, .v (.int .i64 C8), .v (.int .i64 C9)], .var 177 [.bp 2 0, .v (.int .i64 D0), .v (.int .i64 D1), .v (.int .i64 D2), .v (.int .i64 D3), .v (.int .i64 D4), .v (.int .i64 D5), .v (.int .i64 D6), .v (.int .i64 D7), .rw 3, .nl, .v (.int .i64 D8), .v (.int .i64 D9)], .var 75 [.v (.string B2), .nl, .rw 4, .rw 5, .nl, .nl, .nl], .row 133 B3 false, .row 82 B4 true, .row 208 B5 true]
 | .p4084 s42 s43 s44 C0 C1 C2 C3 C4 C5 C6 C7 C8 C9 D0 D1 D2 D3 D4 D5 D6 D7 D8 D9 B2 B3 B4 B5 B6 => mkSt 67 [2, 3, 42, 43, 44] [.bp 0 0, .bp 1 0, .sl 3 s42 false, .v (.int .i64 s43), .v (.int .i64 s44)] [.var 177 [.v (.pointer none), .v (.int .i64 C0), .v (.int .i64 C1), .v (.int .i64 C2), .v (.int .i64 C3), .v (.int .i64 C4), .v (.int .i64 C5), .v (.int .i64 C6), .v (.int .i64 C7), .nl, .nl, .v (.int .i64 C8), .v (.int .i64 C9)], .var 177 [.bp 2 0, .v (.int .i64 D0), .v (.int .i64 D1), .v (.int .i64 D2), .v (.int .i64 D3), .v (.int .i64 D4), .v (.int .i64 D5), .v (.int .i64 D6), .v (.int .i64 D7), .rw 3, .rw 4, .v (.int .i64 D8), .v (.int .i64 D9)], .var 75 [.v (.string B2), .nl, .rw 5, .rw 6, .nl, .nl, .nl], .row 133 B3 false, .row 133 B4 false, .row 82 B5 true, .row 208 B6 true]
abbrev xE0 : Type := (((Unit × (Int × (Int × (Int × (Int × (Int × (Int × (Int × (Int × (Unit × (Unit × (Int × (Int × Unit))))))))))))) × Unit) × ((ByteArray × (Unit × (Unit × (Unit × (Unit × (Unit × (Unit × Unit))))))) × ((List ua0) × ((List ua0) × ((List ua1) × ((List ua2) × Unit))))))
def uJ1 : Res E ((Unit × (Int × (Int × (Int × (Int × (Int × (Int × (Int × (Int × (Unit × (Unit × (Int × (Int × Unit))))))))))))) × Unit) ((ByteArray × (Unit × (Unit × (Unit × (Unit × (Unit × (Unit × Unit))))))) × ((List ua0) × ((List ua0) × ((List ua1) × ((List ua2) × Unit))))) := { rows := [], flat := [], keep := 0, done := [0], rl := (.cons (Rd.agg (.cons (Rd.bp 0 0) (.cons (Rd.int .i64) (.cons (Rd.int .i64) (.cons (Rd.int .i64) (.cons (Rd.int .i64) (.cons (Rd.int .i64) (.cons (Rd.int .i64) (.cons (Rd.int .i64) (.cons (Rd.int .i64) (.cons (Rd.rw 1) (.cons (Rd.rw 2) (.cons (Rd.int .i64) (.cons (Rd.int .i64) .nil)))))))))))))) .nil), rb := (.cons (.var 75 (.cons Rd.str (.cons Rd.nl (.cons (Rd.rw 3) (.cons (Rd.rw 4) (.cons Rd.nl (.cons Rd.nl (.cons Rd.nl .nil)))))))) (.cons (.row 133 true) (.cons (.row 133 true) (.cons (.row 82 true) (.cons (.row 208 true) .nil))))) }
def ur7 : wH4 → Option xE0
 | .start memory0 =>
  (u61 (.start (⟨#[112, 99]⟩ : ByteArray) (4 : Int) (0 : Int) (⟨#[112, 114, 111, 99, 101, 115, 115, 111, 114]⟩ : ByteArray))) >>= fun t1 =>
  (uu5 (.start (⟨#[104, 97, 108, 116, 101, 100]⟩ : ByteArray) (1 : Int) (0 : Int) t1.2.1.1 t1.2.2.1 t1.2.2.2.1)) >>= fun t2 =>
  (uu5 (.start (⟨#[118, 97, 108, 105, 100]⟩ : ByteArray) (1 : Int) (0 : Int) t2.2.1.1 t2.2.2.1 t2.2.2.2.1)) >>= fun t3 =>
  (uu5 (.start (⟨#[99, 111, 100, 101]⟩ : ByteArray) (16 : Int) (0 : Int) t3.2.1.1 t3.2.2.1 t3.2.2.2.1)) >>= fun t4 =>
  ur7 (.p2036 memory0 (0 : Int) (0 : Int) (0 : Int) (0 : Int) (0 : Int) (0 : Int) (0 : Int) (0 : Int) (0 : Int) (0 : Int) (0 : Int) t1.1.1.1 t1.1.1.2.1 t2.1.1.1 t2.1.1.2.1 t3.1.1.1 t3.1.1.2.1 t4.1.1.1 t4.1.1.2.1 (0 : Int) (0 : Int) t4.2.1.1 ([] : List ua0) t4.2.2.1 t4.2.2.2.1)
 | .p2036 memory0 s27 C0 C1 C2 C3 C4 C5 C6 C7 C8 C9 D0 D1 D2 D3 D4 D5 D6 D7 D8 D9 B2 B3 B4 B5 =>
  if (decide (s27 < (4 : Int))) = true then
   (uH5 (s27, ()) ()) >>= fun t1 =>
   if (Nat.ble ((⟨#[114]⟩ : ByteArray).size + t1.1.1.size) 9223372036854775807) = true then
    (uu5 (.start ((⟨#[114]⟩ : ByteArray) ++ t1.1.1) (8 : Int) (0 : Int) B2 B4 B5)) >>= fun t2 =>
    if (fits (List.length B3) (List.length ([(⟨t2.1.1.1, t2.1.1.2.1⟩ : ua0)] : List ua0)) 16) = true then
     ur7 (.p2036 memory0 (IntKind.wrap .i64 (s27 + (1 : Int))) C0 C1 C2 C3 C4 C5 C6 C7 C8 C9 D0 D1 D2 D3 D4 D5 D6 D7 D8 D9 t2.2.1.1 (B3 ++ ([(⟨t2.1.1.1, t2.1.1.2.1⟩ : ua0)] : List ua0)) t2.2.2.1 t2.2.2.2.1)
    else none
   else none
  else
   ur7 (.p4084 memory0 (List.length memory0 : Int) (0 : Int) C0 C1 C2 C3 C4 C5 C6 C7 C8 C9 D0 D1 D2 D3 D4 D5 D6 D7 D8 D9 B2 B3 ([] : List ua0) B4 B5)
 | .p4084 s42 s43 s44 C0 C1 C2 C3 C4 C5 C6 C7 C8 C9 D0 D1 D2 D3 D4 D5 D6 D7 D8 D9 B2 B3 B4 B5 B6 =>
  if (decide (s44 < s43)) = true then
   (idx s42 s44) >>= fun t1 =>
   (uH5 (s44, ()) ()) >>= fun t2 =>
   if (Nat.ble ((⟨#[109]⟩ : ByteArray).size + t2.1.1.size) 9223372036854775807) = true then
    (uu5 (.start ((⟨#[109]⟩ : ByteArray) ++ t2.1.1) (8 : Int) t1 B2 B5 B6)) >>= fun t3 =>
    if (fits (List.length B4) (List.length ([(⟨t3.1.1.1, t3.1.1.2.1⟩ : ua0)] : List ua0)) 16) = true then
     ur7 (.p4084 s42 s43 (IntKind.wrap .i64 (s44 + (1 : Int))) C0 C1 C2 C3 C4 C5 C6 C7 C8 C9 D0 D1 D2 D3 D4 D5 D6 D7 D8 D9 t3.2.1.1 B3 (B4 ++ ([(⟨t3.1.1.1, t3.1.1.2.1⟩ : ua0)] : List ua0)) t3.2.2.1 t3.2.2.2.1)
    else none
   else none
  else
   (uP4 (.start (1 : Int) (1 : Int) B2 B5 B6)) >>= fun t4 =>
   some ((((), (D0, (D1, (D2, (D3, (D4, (D5, (D6, (D7, ((), ((), (t4.1.1.1, (t4.1.1.2.1, ()))))))))))))), ()), ((t4.2.1.1, ((), ((), ((), ((), ((), ((), ()))))))), (B3, (B4, (t4.2.2.1, (t4.2.2.2.1, ()))))))
 partial_fixpoint
def w48 : List (Plc E wH4) := [⟨2036, [false, false, true, false, true, true, true, true, true, true], { slots := [0, 2, 3, 27], rows := [], flat := [], keep := 0, up := [(true, 3, 9, 133)] }, _, _, (.cons (Rd.sl 3 false) (.cons (Rd.bp 0 0) (.cons (Rd.bp 1 0) (.cons (Rd.int .i64) .nil)))), (.cons (.var 177 (.cons Rd.nilp (.cons (Rd.int .i64) (.cons (Rd.int .i64) (.cons (Rd.int .i64) (.cons (Rd.int .i64) (.cons (Rd.int .i64) (.cons (Rd.int .i64) (.cons (Rd.int .i64) (.cons (Rd.int .i64) (.cons Rd.nl (.cons Rd.nl (.cons (Rd.int .i64) (.cons (Rd.int .i64) .nil)))))))))))))) (.cons (.var 177 (.cons (Rd.bp 2 0) (.cons (Rd.int .i64) (.cons (Rd.int .i64) (.cons (Rd.int .i64) (.cons (Rd.int .i64) (.cons (Rd.int .i64) (.cons (Rd.int .i64) (.cons (Rd.int .i64) (.cons (Rd.int .i64) (.cons (Rd.rw 3) (.cons Rd.nl (.cons (Rd.int .i64) (.cons (Rd.int .i64) .nil)))))))))))))) (.cons (.var 75 (.cons Rd.str (.cons Rd.nl (.cons (Rd.rw 4) (.cons (Rd.rw 5) (.cons Rd.nl (.cons Rd.nl (.cons Rd.nl .nil)))))))) (.cons (.row 133 false) (.cons (.row 82 true) (.cons (.row 208 true) .nil)))))), fun a b => .p2036 a.1 a.2.2.2.1 b.1.2.1 b.1.2.2.1 b.1.2.2.2.1 b.1.2.2.2.2.1 b.1.2.2.2.2.2.1 b.1.2.2.2.2.2.2.1 b.1.2.2.2.2.2.2.2.1 b.1.2.2.2.2.2.2.2.2.1 b.1.2.2.2.2.2.2.2.2.2.2.2.1 b.1.2.2.2.2.2.2.2.2.2.2.2.2.1 b.2.1.2.1 b.2.1.2.2.1 b.2.1.2.2.2.1 b.2.1.2.2.2.2.1 b.2.1.2.2.2.2.2.1 b.2.1.2.2.2.2.2.2.1 b.2.1.2.2.2.2.2.2.2.1 b.2.1.2.2.2.2.2.2.2.2.1 b.2.1.2.2.2.2.2.2.2.2.2.2.2.1 b.2.1.2.2.2.2.2.2.2.2.2.2.2.2.1 b.2.2.1.1 b.2.2.2.1 b.2.2.2.2.1 b.2.2.2.2.2.1⟩,
 ⟨4084, [false, false, true, false, true, true, true, true, true, true, true], { slots := [2, 3, 42, 43, 44], rows := [], flat := [], keep := 0, up := [(true, 3, 10, 133)] }, _, _, (.cons (Rd.bp 0 0) (.cons (Rd.bp 1 0) (.cons (Rd.sl 3 false) (.cons (Rd.int .i64) (.cons (Rd.int .i64) .nil))))), (.cons (.var 177 (.cons Rd.nilp (.cons (Rd.int .i64) (.cons (Rd.int .i64) (.cons (Rd.int .i64) (.cons (Rd.int .i64) (.cons (Rd.int .i64) (.cons (Rd.int .i64) (.cons (Rd.int .i64) (.cons (Rd.int .i64) (.cons Rd.nl (.cons Rd.nl (.cons (Rd.int .i64) (.cons (Rd.int .i64) .nil)))))))))))))) (.cons (.var 177 (.cons (Rd.bp 2 0) (.cons (Rd.int .i64) (.cons (Rd.int .i64) (.cons (Rd.int .i64) (.cons (Rd.int .i64) (.cons (Rd.int .i64) (.cons (Rd.int .i64) (.cons (Rd.int .i64) (.cons (Rd.int .i64) (.cons (Rd.rw 3) (.cons (Rd.rw 4) (.cons (Rd.int .i64) (.cons (Rd.int .i64) .nil)))))))))))))) (.cons (.var 75 (.cons Rd.str (.cons Rd.nl (.cons (Rd.rw 5) (.cons (Rd.rw 6) (.cons Rd.nl (.cons Rd.nl (.cons Rd.nl .nil)))))))) (.cons (.row 133 false) (.cons (.row 133 false) (.cons (.row 82 true) (.cons (.row 208 true) .nil))))))), fun a b => .p4084 a.2.2.1 a.2.2.2.1 a.2.2.2.2.1 b.1.2.1 b.1.2.2.1 b.1.2.2.2.1 b.1.2.2.2.2.1 b.1.2.2.2.2.2.1 b.1.2.2.2.2.2.2.1 b.1.2.2.2.2.2.2.2.1 b.1.2.2.2.2.2.2.2.2.1 b.1.2.2.2.2.2.2.2.2.2.2.2.1 b.1.2.2.2.2.2.2.2.2.2.2.2.2.1 b.2.1.2.1 b.2.1.2.2.1 b.2.1.2.2.2.1 b.2.1.2.2.2.2.1 b.2.1.2.2.2.2.2.1 b.2.1.2.2.2.2.2.2.1 b.2.1.2.2.2.2.2.2.2.1 b.2.1.2.2.2.2.2.2.2.2.1 b.2.1.2.2.2.2.2.2.2.2.2.2.2.1 b.2.1.2.2.2.2.2.2.2.2.2.2.2.2.1 b.2.2.1.1 b.2.2.2.1 b.2.2.2.2.1 b.2.2.2.2.2.1 b.2.2.2.2.2.2.1⟩]
theorem wz1 : All (ub5 67 0 u44 xc7) w48 := ⟨⟨rfl, rfl, fun _ _ => rfl, fun _ _ => rfl⟩, ⟨⟨rfl, rfl, fun _ _ => rfl, fun _ _ => rfl⟩, trivial⟩⟩
def vi7 : Code := Tryz.f108.body.getD .skip
def v18 : Spec E.S := (Con.add vK3 (Con.add uo5 (Con.add w60 (Con.add w28 ub3))))
theorem vU4 : ub0 E v18 := (Con.add_ok vg5 (Con.add_ok uq5 (Con.add_ok wx5 (Con.add_ok wj8 ua6))))
theorem xp2 : ∀ pt r, ur7 pt = some r → Good E Tryz.f108 vi7 0 (uJ1.av r) (uJ1.bx r) (u44 pt) (xc7 pt) := by
 refine ur7.partial_correctness (fun pt r => Good E Tryz.f108 vi7 0 (uJ1.av r) (uJ1.bx r) (u44 pt) (xc7 pt)) ?_
 intro run' ih pt r hr
 cases pt <;> exact ua8 (spec := v18) (wr := (mkWr [] [])) (l := w48) (z := 67) (p := uJ1) E_ok wz1.mem rfl vU4 ih (Eq.trans (by kernel_rfl) hr)
def w65 : Con E := ⟨108, _, _, (.cons (Rw.sl 3) .nil), .nil, 0, xE0, fun a b => ur7 (.start a.1), uJ1.av, uJ1.bx⟩
theorem wo0 : w65.Ok := fun a b r h => ub6 (fn := Tryz.f108) (code := vi7) E_ok (by kernel_rfl) (by kernel_rfl) (by kernel_rfl) (Nat.le_of_ble_eq_true rfl) (xp2 (.start a.1) r h)
inductive wv6 where
 | start (c0_0 : Int) (c0_1 : Int) (c0_2 : Int) (c0_3 : Int)
def vy0 : wv6 → List Bool
 | .start .. => []
def xD3 : wv6 → St E.S
 | .start c0_0 c0_1 c0_2 c0_3 => st0 17 [.agg [.v (.int .i64 c0_0), .v (.int .i64 c0_1), .v (.int .i64 c0_2), .v (.int .i64 c0_3)]] []
abbrev xO3 : Type := ((Int × Unit) × Unit)
def u60 : Res E (Int × Unit) Unit := { rows := [], flat := [], keep := 0, done := [0], rl := (.cons (Rd.int .i64) .nil), rb := .nil }
def uA7 : wv6 → Option xO3
 | .start c0_0 c0_1 c0_2 c0_3 =>
  if (decide ((0 : Int) ≤ (12 : Int))) = true then
   if (decide ((0 : Int) ≤ (10 : Int))) = true then
    if (decide ((0 : Int) ≤ (8 : Int))) = true then
     some ((bits .or .i64 (bits .or .i64 (bits .or .i64 (shl .i64 c0_0 (12 : Int)) (shl .i64 c0_1 (10 : Int))) (shl .i64 c0_2 (8 : Int))) c0_3, ()), ())
    else none
   else none
  else none
def w96 : List (Plc E wv6) := []
theorem wy1 : All (ub5 17 0 vy0 xD3) w96 := trivial
def vX3 : Code := Tryz.f74.body.getD .skip
def v55 : Spec E.S := ub3
theorem vJ0 : ub0 E v55 := ua6
theorem xp1 : ∀ pt r, uA7 pt = some r → Good E Tryz.f74 vX3 0 (u60.av r) (u60.bx r) (vy0 pt) (xD3 pt) := by
 intro pt r hr
 cases pt <;> exact ua8 (spec := v55) (wr := (mkWr [] [])) (l := w96) (z := 17) (p := u60) (run' := fun _ => none) E_ok wy1.mem rfl vJ0 (fun _ _ h => by cases h) (Eq.trans (by kernel_rfl) hr)
def wZ7 : Con E := ⟨74, _, _, (.cons (Rw.agg (.cons (Rd.int .i64).w (.cons (Rd.int .i64).w (.cons (Rd.int .i64).w (.cons (Rd.int .i64).w .nil))))) .nil), .nil, 0, xO3, fun a b => uA7 (.start a.1.1 a.1.2.1 a.1.2.2.1 a.1.2.2.2.1), u60.av, u60.bx⟩
theorem wC8 : wZ7.Ok := fun a b r h => ub6 (fn := Tryz.f74) (code := vX3) E_ok (by kernel_rfl) (by kernel_rfl) (by kernel_rfl) (Nat.le_of_ble_eq_true rfl) (xp1 (.start a.1.1 a.1.2.1 a.1.2.2.1 a.1.2.2.2.1) r h)
inductive wo7 where
 | start (x1_0 : Int) (x1_1 : Int) (B0 : ByteArray) (B1 : (List ua1)) (B2 : (List ua2))
def vC9 : wo7 → List Bool
 | .start .. => []
def xA5 : wo7 → St E.S
 | .start x1_0 x1_1 B0 B1 B2 => st0 11 [.agg [.bp 0 0], .agg [.v (.int .i64 x1_0), .v (.int .i64 x1_1)]] [.var 75 [.v (.string B0), .nl, .rw 1, .rw 2, .nl, .nl, .nl], .row 82 B1 true, .row 208 B2 true]
abbrev xQ6 : Type := (((Int × (Int × Unit)) × Unit) × ((ByteArray × (Unit × (Unit × (Unit × (Unit × (Unit × (Unit × Unit))))))) × ((List ua1) × ((List ua2) × Unit))))
def uX4 : Res E ((Int × (Int × Unit)) × Unit) ((ByteArray × (Unit × (Unit × (Unit × (Unit × (Unit × (Unit × Unit))))))) × ((List ua1) × ((List ua2) × Unit))) := { rows := [], flat := [], keep := 1, done := [0], rl := (.cons (Rd.agg (.cons (Rd.int .i64) (.cons (Rd.int .i64) .nil))) .nil), rb := (.cons (.var 75 (.cons Rd.str (.cons Rd.nl (.cons (Rd.rw 1) (.cons (Rd.rw 2) (.cons Rd.nl (.cons Rd.nl (.cons Rd.nl .nil)))))))) (.cons (.row 82 true) (.cons (.row 208 true) .nil))) }
def uR5 : wo7 → Option xQ6
 | .start x1_0 x1_1 B0 B1 B2 =>
  (un1 (.start (2 : Int) x1_1 (0 : Int) ([(⟨x1_0, x1_1⟩ : ua0)] : List ua0) B0 B1 B2)) >>= fun t1 =>
  some (((t1.1.1.1, (t1.1.1.2.1, ())), ()), ((t1.2.1.1, ((), ((), ((), ((), ((), ((), ()))))))), (t1.2.2.1, (t1.2.2.2.1, ()))))
def w66 : List (Plc E wo7) := []
theorem wD4 : All (ub5 11 1 vC9 xA5) w66 := trivial
def v52 : Code := Tryz.f135.body.getD .skip
def vZ1 : Spec E.S := (Con.add uJ3 ub3)
theorem vU2 : ub0 E vZ1 := (Con.add_ok uq3 ua6)
theorem xf5 : ∀ pt r, uR5 pt = some r → Good E Tryz.f135 v52 1 (uX4.av r) (uX4.bx r) (vC9 pt) (xA5 pt) := by
 intro pt r hr
 cases pt <;> exact ua8 (spec := vZ1) (wr := (mkWr [] [])) (l := w66) (z := 11) (p := uX4) (run' := fun _ => none) E_ok wD4.mem rfl vU2 (fun _ _ h => by cases h) (Eq.trans (by kernel_rfl) hr)
def xa8 : Con E := ⟨135, _, _, (.cons (Rw.agg (.cons (Rd.bp 0 0).w .nil)) (.cons (Rw.agg (.cons (Rd.int .i64).w (.cons (Rd.int .i64).w .nil))) .nil)), (.cons (.var 75 (.cons Rd.str (.cons Rd.nl (.cons (Rd.rw 1) (.cons (Rd.rw 2) (.cons Rd.nl (.cons Rd.nl (.cons Rd.nl .nil)))))))) (.cons (.row 82 true) (.cons (.row 208 true) .nil))), 1, xQ6, fun a b => uR5 (.start a.2.1.1 a.2.1.2.1 b.1.1 b.2.1 b.2.2.1), uX4.av, uX4.bx⟩
theorem wu7 : xa8.Ok := fun a b r h => ub6 (fn := Tryz.f135) (code := v52) E_ok (by kernel_rfl) (by kernel_rfl) (by kernel_rfl) (Nat.le_of_ble_eq_true rfl) (xf5 (.start a.2.1.1 a.2.1.2.1 b.1.1 b.2.1 b.2.2.1) r h)
inductive wG7 where
 | start (x1_0 : Int) (x1_1 : Int) (y2_0 : Int) (y2_1 : Int) (B0 : ByteArray) (B1 : (List ua1)) (B2 : (List ua2))
def vt6 : wG7 → List Bool
 | .start .. => []
def xw3 : wG7 → St E.S
 | .start x1_0 x1_1 y2_0 y2_1 B0 B1 B2 => st0 14 [.agg [.bp 0 0], .agg [.v (.int .i64 x1_0), .v (.int .i64 x1_1)], .agg [.v (.int .i64 y2_0), .v (.int .i64 y2_1)]] [.var 75 [.v (.string B0), .nl, .rw 1, .rw 2, .nl, .nl, .nl], .row 82 B1 true, .row 208 B2 true]
abbrev xF0 : Type := (((Int × (Int × Unit)) × Unit) × ((ByteArray × (Unit × (Unit × (Unit × (Unit × (Unit × (Unit × Unit))))))) × ((List ua1) × ((List ua2) × Unit))))
def u51 : Res E ((Int × (Int × Unit)) × Unit) ((ByteArray × (Unit × (Unit × (Unit × (Unit × (Unit × (Unit × Unit))))))) × ((List ua1) × ((List ua2) × Unit))) := { rows := [], flat := [], keep := 1, done := [0], rl := (.cons (Rd.agg (.cons (Rd.int .i64) (.cons (Rd.int .i64) .nil))) .nil), rb := (.cons (.var 75 (.cons Rd.str (.cons Rd.nl (.cons (Rd.rw 1) (.cons (Rd.rw 2) (.cons Rd.nl (.cons Rd.nl (.cons Rd.nl .nil)))))))) (.cons (.row 82 true) (.cons (.row 208 true) .nil))) }
def uZ3 : wG7 → Option xF0
 | .start x1_0 x1_1 y2_0 y2_1 B0 B1 B2 =>
  (un1 (.start (3 : Int) x1_1 (0 : Int) ([(⟨x1_0, x1_1⟩ : ua0), (⟨y2_0, y2_1⟩ : ua0)] : List ua0) B0 B1 B2)) >>= fun t1 =>
  some (((t1.1.1.1, (t1.1.1.2.1, ())), ()), ((t1.2.1.1, ((), ((), ((), ((), ((), ((), ()))))))), (t1.2.2.1, (t1.2.2.2.1, ()))))
def xb9 : List (Plc E wG7) := []
theorem wx2 : All (ub5 14 1 vt6 xw3) xb9 := trivial
def v29 : Code := Tryz.f134.body.getD .skip
def wg1 : Spec E.S := (Con.add uJ3 ub3)
theorem vL9 : ub0 E wg1 := (Con.add_ok uq3 ua6)
theorem xo7 : ∀ pt r, uZ3 pt = some r → Good E Tryz.f134 v29 1 (u51.av r) (u51.bx r) (vt6 pt) (xw3 pt) := by
 intro pt r hr
 cases pt <;> exact ua8 (spec := wg1) (wr := (mkWr [] [])) (l := xb9) (z := 14) (p := u51) (run' := fun _ => none) E_ok wx2.mem rfl vL9 (fun _ _ h => by cases h) (Eq.trans (by kernel_rfl) hr)
def w81 : Con E := ⟨134, _, _, (.cons (Rw.agg (.cons (Rd.bp 0 0).w .nil)) (.cons (Rw.agg (.cons (Rd.int .i64).w (.cons (Rd.int .i64).w .nil))) (.cons (Rw.agg (.cons (Rd.int .i64).w (.cons (Rd.int .i64).w .nil))) .nil))), (.cons (.var 75 (.cons Rd.str (.cons Rd.nl (.cons (Rd.rw 1) (.cons (Rd.rw 2) (.cons Rd.nl (.cons Rd.nl (.cons Rd.nl .nil)))))))) (.cons (.row 82 true) (.cons (.row 208 true) .nil))), 1, xF0, fun a b => uZ3 (.start a.2.1.1 a.2.1.2.1 a.2.2.1.1 a.2.2.1.2.1 b.1.1 b.2.1 b.2.2.1), u51.av, u51.bx⟩
theorem wn5 : w81.Ok := fun a b r h => ub6 (fn := Tryz.f134) (code := v29) E_ok (by kernel_rfl) (by kernel_rfl) (by kernel_rfl) (Nat.le_of_ble_eq_true rfl) (xo7 (.start a.2.1.1 a.2.1.2.1 a.2.2.1.1 a.2.2.1.2.1 b.1.1 b.2.1 b.2.2.1) r h)
inductive wk7 where
 | start (x1_0 : Int) (x1_1 : Int) (low2 : Int) (width3 : Int) (B0 : ByteArray) (B1 : (List ua1)) (B2 : (List ua2))
def vv8 : wk7 → List Bool
 | .start .. => []
def xv8 : wk7 → St E.S
 | .start x1_0 x1_1 low2 width3 B0 B1 B2 => st0 15 [.agg [.bp 0 0], .agg [.v (.int .i64 x1_0), .v (.int .i64 x1_1)], .v (.int .i64 low2), .v (.int .i64 width3)] [.var 75 [.v (.string B0), .nl, .rw 1, .rw 2, .nl, .nl, .nl], .row 82 B1 true, .row 208 B2 true]
abbrev xP6 : Type := (((Int × (Int × Unit)) × Unit) × ((ByteArray × (Unit × (Unit × (Unit × (Unit × (Unit × (Unit × Unit))))))) × ((List ua1) × ((List ua2) × Unit))))
def u47 : Res E ((Int × (Int × Unit)) × Unit) ((ByteArray × (Unit × (Unit × (Unit × (Unit × (Unit × (Unit × Unit))))))) × ((List ua1) × ((List ua2) × Unit))) := { rows := [], flat := [], keep := 1, done := [0], rl := (.cons (Rd.agg (.cons (Rd.int .i64) (.cons (Rd.int .i64) .nil))) .nil), rb := (.cons (.var 75 (.cons Rd.str (.cons Rd.nl (.cons (Rd.rw 1) (.cons (Rd.rw 2) (.cons Rd.nl (.cons Rd.nl (.cons Rd.nl .nil)))))))) (.cons (.row 82 true) (.cons (.row 208 true) .nil))) }
def u12 : wk7 → Option xP6
 | .start x1_0 x1_1 low2 width3 B0 B1 B2 =>
  (un1 (.start (14 : Int) width3 low2 ([(⟨x1_0, x1_1⟩ : ua0)] : List ua0) B0 B1 B2)) >>= fun t1 =>
  some (((t1.1.1.1, (t1.1.1.2.1, ())), ()), ((t1.2.1.1, ((), ((), ((), ((), ((), ((), ()))))))), (t1.2.2.1, (t1.2.2.2.1, ()))))
def xc0 : List (Plc E wk7) := []
theorem wt1 : All (ub5 15 1 vv8 xv8) xc0 := trivial
def vX4 : Code := Tryz.f162.body.getD .skip
def v83 : Spec E.S := (Con.add uJ3 ub3)
theorem vP4 : ub0 E v83 := (Con.add_ok uq3 ua6)
theorem xl9 : ∀ pt r, u12 pt = some r → Good E Tryz.f162 vX4 1 (u47.av r) (u47.bx r) (vv8 pt) (xv8 pt) := by
 intro pt r hr
 cases pt <;> exact ua8 (spec := v83) (wr := (mkWr [] [])) (l := xc0) (z := 15) (p := u47) (run' := fun _ => none) E_ok wt1.mem rfl vP4 (fun _ _ h => by cases h) (Eq.trans (by kernel_rfl) hr)
def xb1 : Con E := ⟨162, _, _, (.cons (Rw.agg (.cons (Rd.bp 0 0).w .nil)) (.cons (Rw.agg (.cons (Rd.int .i64).w (.cons (Rd.int .i64).w .nil))) (.cons (Rd.int .i64).w (.cons (Rd.int .i64).w .nil)))), (.cons (.var 75 (.cons Rd.str (.cons Rd.nl (.cons (Rd.rw 1) (.cons (Rd.rw 2) (.cons Rd.nl (.cons Rd.nl (.cons Rd.nl .nil)))))))) (.cons (.row 82 true) (.cons (.row 208 true) .nil))), 1, xP6, fun a b => u12 (.start a.2.1.1 a.2.1.2.1 a.2.2.1 a.2.2.2.1 b.1.1 b.2.1 b.2.2.1), u47.av, u47.bx⟩
theorem wt9 : xb1.Ok := fun a b r h => ub6 (fn := Tryz.f162) (code := vX4) E_ok (by kernel_rfl) (by kernel_rfl) (by kernel_rfl) (Nat.le_of_ble_eq_true rfl) (xl9 (.start a.2.1.1 a.2.1.2.1 a.2.2.1 a.2.2.2.1 b.1.1 b.2.1 b.2.2.1) r h)
inductive ww8 where
 | start (c1_0 : Int) (c1_1 : Int) (x2_0 : Int) (x2_1 : Int) (y3_0 : Int) (y3_1 : Int) (B0 : ByteArray) (B1 : (List ua1)) (B2 : (List ua2))
def vy9 : ww8 → List Bool
 | .start .. => []
def xv4 : ww8 → St E.S
 | .start c1_0 c1_1 x2_0 x2_1 y3_0 y3_1 B0 B1 B2 => st0 17 [.agg [.bp 0 0], .agg [.v (.int .i64 c1_0), .v (.int .i64 c1_1)], .agg [.v (.int .i64 x2_0), .v (.int .i64 x2_1)], .agg [.v (.int .i64 y3_0), .v (.int .i64 y3_1)]] [.var 75 [.v (.string B0), .nl, .rw 1, .rw 2, .nl, .nl, .nl], .row 82 B1 true, .row 208 B2 true]
abbrev xL6 : Type := (((Int × (Int × Unit)) × Unit) × ((ByteArray × (Unit × (Unit × (Unit × (Unit × (Unit × (Unit × Unit))))))) × ((List ua1) × ((List ua2) × Unit))))
def u62 : Res E ((Int × (Int × Unit)) × Unit) ((ByteArray × (Unit × (Unit × (Unit × (Unit × (Unit × (Unit × Unit))))))) × ((List ua1) × ((List ua2) × Unit))) := { rows := [], flat := [], keep := 1, done := [0], rl := (.cons (Rd.agg (.cons (Rd.int .i64) (.cons (Rd.int .i64) .nil))) .nil), rb := (.cons (.var 75 (.cons Rd.str (.cons Rd.nl (.cons (Rd.rw 1) (.cons (Rd.rw 2) (.cons Rd.nl (.cons Rd.nl (.cons Rd.nl .nil)))))))) (.cons (.row 82 true) (.cons (.row 208 true) .nil))) }
def u05 : ww8 → Option xL6
 | .start c1_0 c1_1 x2_0 x2_1 y3_0 y3_1 B0 B1 B2 =>
  (un1 (.start (12 : Int) x2_1 (0 : Int) ([(⟨c1_0, c1_1⟩ : ua0), (⟨x2_0, x2_1⟩ : ua0), (⟨y3_0, y3_1⟩ : ua0)] : List ua0) B0 B1 B2)) >>= fun t1 =>
  some (((t1.1.1.1, (t1.1.1.2.1, ())), ()), ((t1.2.1.1, ((), ((), ((), ((), ((), ((), ()))))))), (t1.2.2.1, (t1.2.2.2.1, ()))))
def w35 : List (Plc E ww8) := []
theorem ww6 : All (ub5 17 1 vy9 xv4) w35 := trivial
def we1 : Code := Tryz.f163.body.getD .skip
def v14 : Spec E.S := (Con.add uJ3 ub3)
theorem vD5 : ub0 E v14 := (Con.add_ok uq3 ua6)
theorem xq8 : ∀ pt r, u05 pt = some r → Good E Tryz.f163 we1 1 (u62.av r) (u62.bx r) (vy9 pt) (xv4 pt) := by
 intro pt r hr
 cases pt <;> exact ua8 (spec := v14) (wr := (mkWr [] [])) (l := w35) (z := 17) (p := u62) (run' := fun _ => none) E_ok ww6.mem rfl vD5 (fun _ _ h => by cases h) (Eq.trans (by kernel_rfl) hr)
def wY1 : Con E := ⟨163, _, _, (.cons (Rw.agg (.cons (Rd.bp 0 0).w .nil)) (.cons (Rw.agg (.cons (Rd.int .i64).w (.cons (Rd.int .i64).w .nil))) (.cons (Rw.agg (.cons (Rd.int .i64).w (.cons (Rd.int .i64).w .nil))) (.cons (Rw.agg (.cons (Rd.int .i64).w (.cons (Rd.int .i64).w .nil))) .nil)))), (.cons (.var 75 (.cons Rd.str (.cons Rd.nl (.cons (Rd.rw 1) (.cons (Rd.rw 2) (.cons Rd.nl (.cons Rd.nl (.cons Rd.nl .nil)))))))) (.cons (.row 82 true) (.cons (.row 208 true) .nil))), 1, xL6, fun a b => u05 (.start a.2.1.1 a.2.1.2.1 a.2.2.1.1 a.2.2.1.2.1 a.2.2.2.1.1 a.2.2.2.1.2.1 b.1.1 b.2.1 b.2.2.1), u62.av, u62.bx⟩
theorem wA8 : wY1.Ok := fun a b r h => ub6 (fn := Tryz.f163) (code := we1) E_ok (by kernel_rfl) (by kernel_rfl) (by kernel_rfl) (Nat.le_of_ble_eq_true rfl) (xq8 (.start a.2.1.1 a.2.1.2.1 a.2.2.1.1 a.2.2.1.2.1 a.2.2.2.1.1 a.2.2.2.1.2.1 b.1.1 b.2.1 b.2.2.1) r h)
inductive wz3 where
 | start (l1 : (List ua0)) (number2_0 : Int) (number2_1 : Int) (B0 : ByteArray) (B1 : (List ua1)) (B2 : (List ua2))
 | p52 (l1 : (List ua0)) (bit7 : Int) (B0 : ByteArray) (G0 : Int) (G1 : Int) (H0 : Int) (H1 : Int) (B4 : (List ua1)) (B5 : (List ua2))
 | p26932 (l1 : (List ua0)) (bit7 : Int) (i10 : Int) (B0 : ByteArray) (G0 : Int) (G1 : Int) (H0 : Int) (H1 : Int) (J0 : Int) (J1 : Int) (B5 : (List ua0)) (B6 : (List ua1)) (B7 : (List ua2))
def u40 : wz3 → List Bool
 | .start .. => []
 | .p52 .. => [false, false, true, false, true]
 | .p26932 .. => [false, false, true, false, true, true, false, false, true, false, false, true, false, true]
def wY8 : wz3 → St E.S
 | .start l1 number2_0 number2_1 B0 B1 B2 => st0 45 [.agg [.bp 0 0], .sl 133 l1 false, .agg [.v (.int .i64 number2_0), .v (.int .i64 number2_1)]] [.var 75 [.v (.string B0), .nl, .rw 1, .rw 2, .nl, .nl, .nl], .row 82 B1 true, .row 208 B2 true]
 | .p52 l1 bit7 B0 G0 G1 H0 H1 B4 B5 => mkSt 45 [1, 3, 5, 6, 7] [.sl 133 l1 false, .bp 1 0, .bp 2 0, .bp 3 0, .v (.int .i64 bit7)] [.var 75 [.v (.string B0), .nl, .rw 4, .rw 5, .nl, .nl, .nl], .var 131 [.bp 0 0], .var 133 [.v (.int .i64 G0), .v (.int .i64 G1)], .var 133 [.v (.int .i64 H0), .v (.int .i64 H1)], .row 82 B4 true, .row 208 B5 true]
 | .p26932 l1 bit7 i10 B0 G0 G1 H0 H1 J0 J1 B5 B6 B7 => mkSt 45 [1, 3, 5, 6, 7, 8, 9, 10] [.sl 133 l1 false, .bp 1 0, .bp 2 0, .bp 3 0, .v (.int .i64 bit7), .bp 4 0, .rw 5, .v (.int .i64 i10)] [.var 75 [.v (.string B0), .nl, .rw 6, .rw 7, .nl, .nl, .nl], .var 131 [.bp 0 0], .var 133 [.v (.int .i64 G0), .v (.int .i64 G1)], .var 133 [.v (.int .i64 H0), .v (.int .i64 H1)], .var 133 [.v (.int .i64 J0), .v (.int .i64 J1)], .row 133 B5 false, .row 82 B6 true, .row 208 B7 true]
abbrev xM1 : Type := (((Int × (Int × Unit)) × Unit) × ((ByteArray × (Unit × (Unit × (Unit × (Unit × (Unit × (Unit × Unit))))))) × ((List ua1) × ((List ua2) × Unit))))
def uE1 : Res E ((Int × (Int × Unit)) × Unit) ((ByteArray × (Unit × (Unit × (Unit × (Unit × (Unit × (Unit × Unit))))))) × ((List ua1) × ((List ua2) × Unit))) := { rows := [], flat := [], keep := 1, done := [0], rl := (.cons (Rd.agg (.cons (Rd.int .i64) (.cons (Rd.int .i64) .nil))) .nil), rb := (.cons (.var 75 (.cons Rd.str (.cons Rd.nl (.cons (Rd.rw 1) (.cons (Rd.rw 2) (.cons Rd.nl (.cons Rd.nl (.cons Rd.nl .nil)))))))) (.cons (.row 82 true) (.cons (.row 208 true) .nil))) }
def ut2 : wz3 → Option xM1
 | .start l1 number2_0 number2_1 B0 B1 B2 =>
  ut2 (.p52 l1 (0 : Int) B0 number2_0 number2_1 (0 : Int) (0 : Int) B1 B2)
 | .p52 l1 bit7 B0 G0 G1 H0 H1 B4 B5 =>
  if (decide ((List.length l1 : Int) > (1 : Int))) = true then
   (u12 (.start G0 G1 bit7 (1 : Int) B0 B4 B5)) >>= fun t1 =>
   ut2 (.p26932 l1 bit7 (0 : Int) t1.2.1.1 G0 G1 H0 H1 t1.1.1.1 t1.1.1.2.1 ([] : List ua0) t1.2.2.1 t1.2.2.2.1)
  else
   (idx l1 (0 : Int)) >>= fun t2 =>
   some (((t2.node, (t2.width, ())), ()), ((B0, ((), ((), ((), ((), ((), ((), ()))))))), (B4, (B5, ()))))
 | .p26932 l1 bit7 i10 B0 G0 G1 H0 H1 J0 J1 B5 B6 B7 =>
  if (decide (i10 < (List.length l1 : Int))) = true then
   (idx l1 (IntKind.wrap .i64 (i10 + (1 : Int)))) >>= fun t1 =>
   (idx l1 i10) >>= fun t2 =>
   (u05 (.start J0 J1 t1.node t1.width t2.node t2.width B0 B6 B7)) >>= fun t3 =>
   if (fits (List.length B5) (List.length ([(⟨t3.1.1.1, t3.1.1.2.1⟩ : ua0)] : List ua0)) 16) = true then
    ut2 (.p26932 l1 bit7 (IntKind.wrap .i64 (i10 + (2 : Int))) t3.2.1.1 G0 G1 H0 H1 J0 J1 (B5 ++ ([(⟨t3.1.1.1, t3.1.1.2.1⟩ : ua0)] : List ua0)) t3.2.2.1 t3.2.2.2.1)
   else none
  else
   ut2 (.p52 B5 (IntKind.wrap .i64 (bit7 + (1 : Int))) B0 G0 G1 H0 H1 B6 B7)
 partial_fixpoint
def wV6 : List (Plc E wz3) := [⟨52, [false, false, true, false, true], { slots := [1, 3, 5, 6, 7], rows := [], flat := [(1, 133)], keep := 1, done := [1] }, _, _, (.cons (Rd.sl 133 false) (.cons (Rd.bp 1 0) (.cons (Rd.bp 2 0) (.cons (Rd.bp 3 0) (.cons (Rd.int .i64) .nil))))), (.cons (.var 75 (.cons Rd.str (.cons Rd.nl (.cons (Rd.rw 4) (.cons (Rd.rw 5) (.cons Rd.nl (.cons Rd.nl (.cons Rd.nl .nil)))))))) (.cons (.var 131 (.cons (Rd.bp 0 0) .nil)) (.cons (.var 133 (.cons (Rd.int .i64) (.cons (Rd.int .i64) .nil))) (.cons (.var 133 (.cons (Rd.int .i64) (.cons (Rd.int .i64) .nil))) (.cons (.row 82 true) (.cons (.row 208 true) .nil)))))), fun a b => .p52 a.1 a.2.2.2.2.1 b.1.1 b.2.2.1.1 b.2.2.1.2.1 b.2.2.2.1.1 b.2.2.2.1.2.1 b.2.2.2.2.1 b.2.2.2.2.2.1⟩,
 ⟨26932, [false, false, true, false, true, true, false, false, true, false, false, true, false, true], { slots := [1, 3, 5, 6, 7, 8, 9, 10], rows := [(9, 133)], flat := [], keep := 1 }, _, _, (.cons (Rd.sl 133 false) (.cons (Rd.bp 1 0) (.cons (Rd.bp 2 0) (.cons (Rd.bp 3 0) (.cons (Rd.int .i64) (.cons (Rd.bp 4 0) (.cons (Rd.rw 5) (.cons (Rd.int .i64) .nil)))))))), (.cons (.var 75 (.cons Rd.str (.cons Rd.nl (.cons (Rd.rw 6) (.cons (Rd.rw 7) (.cons Rd.nl (.cons Rd.nl (.cons Rd.nl .nil)))))))) (.cons (.var 131 (.cons (Rd.bp 0 0) .nil)) (.cons (.var 133 (.cons (Rd.int .i64) (.cons (Rd.int .i64) .nil))) (.cons (.var 133 (.cons (Rd.int .i64) (.cons (Rd.int .i64) .nil))) (.cons (.var 133 (.cons (Rd.int .i64) (.cons (Rd.int .i64) .nil))) (.cons (.row 133 false) (.cons (.row 82 true) (.cons (.row 208 true) .nil)))))))), fun a b => .p26932 a.1 a.2.2.2.2.1 a.2.2.2.2.2.2.2.1 b.1.1 b.2.2.1.1 b.2.2.1.2.1 b.2.2.2.1.1 b.2.2.2.1.2.1 b.2.2.2.2.1.1 b.2.2.2.2.1.2.1 b.2.2.2.2.2.1 b.2.2.2.2.2.2.1 b.2.2.2.2.2.2.2.1⟩]
theorem wH3 : All (ub5 45 1 u40 wY8) wV6 := ⟨⟨rfl, rfl, fun _ _ => rfl, fun _ _ => rfl⟩, ⟨⟨rfl, rfl, fun _ _ => rfl, fun _ _ => rfl⟩, trivial⟩⟩
def vk7 : Code := Tryz.f161.body.getD .skip
def wg2 : Spec E.S := (Con.add wY1 (Con.add xb1 ub3))
theorem vI5 : ub0 E wg2 := (Con.add_ok wA8 (Con.add_ok wt9 ua6))
theorem xq7 : ∀ pt r, ut2 pt = some r → Good E Tryz.f161 vk7 1 (uE1.av r) (uE1.bx r) (u40 pt) (wY8 pt) := by
 refine ut2.partial_correctness (fun pt r => Good E Tryz.f161 vk7 1 (uE1.av r) (uE1.bx r) (u40 pt) (wY8 pt)) ?_
 intro run' ih pt r hr
 cases pt <;> exact ua8 (spec := wg2) (wr := (mkWr [] [])) (l := wV6) (z := 45) (p := uE1) E_ok wH3.mem rfl vI5 ih (Eq.trans (by kernel_rfl) hr)
def w33 : Con E := ⟨161, _, _, (.cons (Rw.agg (.cons (Rd.bp 0 0).w .nil)) (.cons (Rw.sl 133) (.cons (Rw.agg (.cons (Rd.int .i64).w (.cons (Rd.int .i64).w .nil))) .nil))), (.cons (.var 75 (.cons Rd.str (.cons Rd.nl (.cons (Rd.rw 1) (.cons (Rd.rw 2) (.cons Rd.nl (.cons Rd.nl (.cons Rd.nl .nil)))))))) (.cons (.row 82 true) (.cons (.row 208 true) .nil))), 1, xM1, fun a b => ut2 (.start a.2.1 a.2.2.1.1 a.2.2.1.2.1 b.1.1 b.2.1 b.2.2.1), uE1.av, uE1.bx⟩
theorem wC3 : w33.Ok := fun a b r h => ub6 (fn := Tryz.f161) (code := vk7) E_ok (by kernel_rfl) (by kernel_rfl) (by kernel_rfl) (Nat.le_of_ble_eq_true rfl) (xq7 (.start a.2.1 a.2.2.1.1 a.2.2.1.2.1 b.1.1 b.2.1 b.2.2.1) r h)
inductive wF5 where
 | start (element0 : Int) (when1_0 : Int) (when1_1 : Int) (value2_0 : Int) (value2_1 : Int)
def vr1 : wF5 → List Bool
 | .start .. => []
def xA0 : wF5 → St E.S
 | .start element0 when1_0 when1_1 value2_0 value2_1 => st0 13 [.v (.int .i64 element0), .agg [.v (.int .i64 when1_0), .v (.int .i64 when1_1)], .agg [.v (.int .i64 value2_0), .v (.int .i64 value2_1)]] []
abbrev xE9 : Type := (((Int × (Int × (Int × Unit))) × Unit) × Unit)
def vb9 : Res E ((Int × (Int × (Int × Unit))) × Unit) Unit := { rows := [], flat := [], keep := 0, done := [0], rl := (.cons (Rd.agg (.cons (Rd.int .i64) (.cons (Rd.int .i64) (.cons (Rd.int .i64) .nil)))) .nil), rb := .nil }
def uq8 : wF5 → Option xE9
 | .start element0 when1_0 when1_1 value2_0 value2_1 =>
  some (((element0, (when1_0, (value2_0, ()))), ()), ())
def wL7 : List (Plc E wF5) := []
theorem wA6 : All (ub5 13 0 vr1 xA0) wL7 := trivial
def we6 : Code := Tryz.f131.body.getD .skip
def wb4 : Spec E.S := ub3
theorem vM5 : ub0 E wb4 := ua6
theorem xf7 : ∀ pt r, uq8 pt = some r → Good E Tryz.f131 we6 0 (vb9.av r) (vb9.bx r) (vr1 pt) (xA0 pt) := by
 intro pt r hr
 cases pt <;> exact ua8 (spec := wb4) (wr := (mkWr [] [])) (l := wL7) (z := 13) (p := vb9) (run' := fun _ => none) E_ok wA6.mem rfl vM5 (fun _ _ h => by cases h) (Eq.trans (by kernel_rfl) hr)
def vM9 : Con E := ⟨131, _, _, (.cons (Rd.int .i64).w (.cons (Rw.agg (.cons (Rd.int .i64).w (.cons (Rd.int .i64).w .nil))) (.cons (Rw.agg (.cons (Rd.int .i64).w (.cons (Rd.int .i64).w .nil))) .nil))), .nil, 0, xE9, fun a b => uq8 (.start a.1 a.2.1.1 a.2.1.2.1 a.2.2.1.1 a.2.2.1.2.1), vb9.av, vb9.bx⟩
theorem vf3 : vM9.Ok := fun a b r h => ub6 (fn := Tryz.f131) (code := we6) E_ok (by kernel_rfl) (by kernel_rfl) (by kernel_rfl) (Nat.le_of_ble_eq_true rfl) (xf7 (.start a.1 a.2.1.1 a.2.1.2.1 a.2.2.1.1 a.2.2.1.2.1) r h)
inductive wz9 where
 | start (name1 : ByteArray) (guard2_0 : Int) (guard2_1 : Int) (writes3 : (List ub4)) (B0 : ByteArray) (B1 : (List ua1)) (B2 : (List ua2))
def vC3 : wz9 → List Bool
 | .start .. => []
def xC4 : wz9 → St E.S
 | .start name1 guard2_0 guard2_1 writes3 B0 B1 B2 => st0 24 [.agg [.bp 0 0], .v (.string name1), .agg [.v (.int .i64 guard2_0), .v (.int .i64 guard2_1)], .sl 151 writes3 false] [.var 75 [.v (.string B0), .nl, .rw 1, .rw 2, .nl, .nl, .nl], .row 82 B1 true, .row 208 B2 true]
abbrev xR5 : Type := (Unit × ((ByteArray × (Unit × (Unit × (Unit × (Unit × (Unit × (Unit × Unit))))))) × ((List ua1) × ((List ua2) × ((List ua5) × Unit)))))
def u23 : Res E Unit ((ByteArray × (Unit × (Unit × (Unit × (Unit × (Unit × (Unit × Unit))))))) × ((List ua1) × ((List ua2) × ((List ua5) × Unit)))) := { rows := [], flat := [], keep := 1, rl := .nil, rb := (.cons (.var 75 (.cons Rd.str (.cons Rd.nl (.cons (Rd.rw 1) (.cons (Rd.rw 2) (.cons (Rd.rw 3) (.cons Rd.nl (.cons Rd.nl .nil)))))))) (.cons (.row 82 true) (.cons (.row 208 true) (.cons (.row 85 true) .nil)))) }
def u52 : wz9 → Option xR5
 | .start name1 guard2_0 guard2_1 writes3 B0 B1 B2 =>
  if (fits (List.length ([] : List ua5)) (List.length ([(⟨name1, guard2_0, writes3⟩ : ua5)] : List ua5)) 48) = true then
   some ((), ((B0, ((), ((), ((), ((), ((), ((), ()))))))), (B1, (B2, (([] : List ua5) ++ ([(⟨name1, guard2_0, writes3⟩ : ua5)] : List ua5), ())))))
  else none
def w57 : List (Plc E wz9) := []
theorem wn6 : All (ub5 24 1 vC3 xC4) w57 := trivial
def v89 : Code := Tryz.f133.body.getD .skip
def v16 : Spec E.S := ub3
theorem vG7 : ub0 E v16 := ua6
theorem xg5 : ∀ pt r, u52 pt = some r → Good E Tryz.f133 v89 1 (u23.av r) (u23.bx r) (vC3 pt) (xC4 pt) := by
 intro pt r hr
 cases pt <;> exact ua8 (spec := v16) (wr := (mkWr [] [])) (l := w57) (z := 24) (p := u23) (run' := fun _ => none) E_ok wn6.mem rfl vG7 (fun _ _ h => by cases h) (Eq.trans (by kernel_rfl) hr)
def wJ8 : Con E := ⟨133, _, _, (.cons (Rw.agg (.cons (Rd.bp 0 0).w .nil)) (.cons Rd.str.w (.cons (Rw.agg (.cons (Rd.int .i64).w (.cons (Rd.int .i64).w .nil))) (.cons (Rw.sl 151) .nil)))), (.cons (.var 75 (.cons Rd.str (.cons Rd.nl (.cons (Rd.rw 1) (.cons (Rd.rw 2) (.cons Rd.nl (.cons Rd.nl (.cons Rd.nl .nil)))))))) (.cons (.row 82 true) (.cons (.row 208 true) .nil))), 1, xR5, fun a b => u52 (.start a.2.1 a.2.2.1.1 a.2.2.1.2.1 a.2.2.2.1 b.1.1 b.2.1 b.2.2.1), u23.av, u23.bx⟩
theorem wz2 : wJ8.Ok := fun a b r h => ub6 (fn := Tryz.f133) (code := v89) E_ok (by kernel_rfl) (by kernel_rfl) (by kernel_rfl) (Nat.le_of_ble_eq_true rfl) (xg5 (.start a.2.1 a.2.2.1.1 a.2.2.1.2.1 a.2.2.2.1 b.1.1 b.2.1 b.2.2.1) r h)
inductive wA0 where
 | start (p0_0 : Int) (p0_1 : Int) (p0_2 : Int) (p0_3 : Int) (p0_4 : Int) (p0_5 : Int) (p0_6 : Int) (p0_7 : Int) (p0_8 : (List ua0)) (p0_9 : (List ua0)) (p0_10 : Int) (p0_11 : Int) (l1 : (List ua3)) (B0 : ByteArray) (B1 : (List ua1)) (B2 : (List ua2))
 | p116 (l1 : (List ua3)) (s7 : Int) (B0 : ByteArray) (D0 : Int) (D1 : Int) (D2 : Int) (D3 : Int) (D4 : Int) (D5 : Int) (D6 : Int) (D7 : Int) (D8 : (List ua0)) (D9 : (List ua0)) (D10 : Int) (D11 : Int) (B2 : (List ua0)) (B3 : (List ua1)) (B4 : (List ua2))
 | p14951 (l1 : (List ua3)) (word6 : Int) (s7 : Int) (B0 : ByteArray) (D0 : Int) (D1 : Int) (D2 : Int) (D3 : Int) (D4 : Int) (D5 : Int) (D6 : Int) (D7 : Int) (D8 : (List ua0)) (D9 : (List ua0)) (D10 : Int) (D11 : Int) (B2 : (List ua0)) (B3 : (List ua1)) (B4 : (List ua2))
def va2 : wA0 → List Bool
 | .start .. => []
 | .p116 .. => [false, false, true, false, true, true]
 | .p14951 .. => [true, true, true, false, false, true, true, false, false, true, false, true, true]
def w61 : wA0 → St E.S
 | .start p0_0 p0_1 p0_2 p0_3 p0_4 p0_5 p0_6 p0_7 p0_8 p0_9 p0_10 p0_11 l1 B0 B1 B2 => st0 58 [.agg [.bp 0 0, .v (.int .i64 p0_0), .v (.int .i64 p0_1), .v (.int .i64 p0_2), .v (.int .i64 p0_3), .v (.int .i64 p0_4), .v (.int .i64 p0_5), .v (.int .i64 p0_6), .v (.int .i64 p0_7), .sl 133 p0_8 false, .sl 133 p0_9 false, .v (.int .i64 p0_10), .v (.int .i64 p0_11)], .sl 40 l1 false] [.var 75 [.v (.string B0), .nl, .rw 1, .rw 2, .nl, .nl, .nl], .row 82 B1 true, .row 208 B2 true]
 | .p116 l1 s7 B0 D0 D1 D2 D3 D4 D5 D6 D7 D8 D9 D10 D11 B2 B3 B4 => mkSt 58 [1, 2, 4, 7] [.sl 40 l1 false, .bp 1 0, .rw 2, .v (.int .i64 s7)] [.var 75 [.v (.string B0), .nl, .rw 3, .rw 4, .nl, .nl, .nl], .var 177 [.bp 0 0, .v (.int .i64 D0), .v (.int .i64 D1), .v (.int .i64 D2), .v (.int .i64 D3), .v (.int .i64 D4), .v (.int .i64 D5), .v (.int .i64 D6), .v (.int .i64 D7), .sl 133 D8 false, .sl 133 D9 false, .v (.int .i64 D10), .v (.int .i64 D11)], .row 133 B2 false, .row 82 B3 true, .row 208 B4 true]
 | .p14951 l1 word6 s7 B0 D0 D1 D2 D3 D4 D5 D6 D7 D8 D9 D10 D11 B2 B3 B4 => mkSt 58 [1, 2, 4, 6, 7] [.sl 40 l1 false, .bp 1 0, .rw 2, .v (.int .i64 word6), .v (.int .i64 s7)] [.var 75 [.v (.string B0), .nl, .rw 3, .rw 4, .nl, .nl, .nl], .var 177 [.bp 0 0, .v (.int .i64 D0), .v (.int .i64 D1), .v (.int .i64 D2), .v (.int .i64 D3), .v (.int .i64 D4), .v (.int .i64 D5), .v (.int .i64 D6), .v (.int .i64 D7), .sl 133 D8 false, .sl 133 D9 false, .v (.int .i64 D10), .v (.int .i64 D11)], .row 133 B2 false, .row 82 B3 true, .row 208 B4 true]
abbrev xJ1 : Type := (Unit × ((ByteArray × (Unit × (Unit × (Unit × (Unit × (Unit × (Unit × Unit))))))) × ((List ua1) × ((List ua2) × ((List ua5) × Unit)))))
def uE6 : Res E Unit ((ByteArray × (Unit × (Unit × (Unit × (Unit × (Unit × (Unit × Unit))))))) × ((List ua1) × ((List ua2) × ((List ua5) × Unit)))) := { rows := [], flat := [], keep := 1, rl := .nil, rb := (.cons (.var 75 (.cons Rd.str (.cons Rd.nl (.cons (Rd.rw 1) (.cons (Rd.rw 2) (.cons (Rd.rw 3) (.cons Rd.nl (.cons Rd.nl .nil)))))))) (.cons (.row 82 true) (.cons (.row 208 true) (.cons (.row 85 true) .nil)))) }
def us7 : wA0 → Option xJ1
 | .start p0_0 p0_1 p0_2 p0_3 p0_4 p0_5 p0_6 p0_7 p0_8 p0_9 p0_10 p0_11 l1 B0 B1 B2 =>
  us7 (.p116 l1 (0 : Int) B0 p0_0 p0_1 p0_2 p0_3 p0_4 p0_5 p0_6 p0_7 p0_8 p0_9 p0_10 p0_11 ([] : List ua0) B1 B2)
 | .p116 l1 s7 B0 D0 D1 D2 D3 D4 D5 D6 D7 D8 D9 D10 D11 B2 B3 B4 =>
  if (decide (s7 < (16 : Int))) = true then
   if (decide (s7 < (List.length l1 : Int))) = true then
    (idx l1 s7) >>= fun t1 =>
    (uA7 (.start t1.Op t1.A t1.B t1.N)) >>= fun t2 =>
    us7 (.p14951 l1 t2.1.1 s7 B0 D0 D1 D2 D3 D4 D5 D6 D7 D8 D9 D10 D11 B2 B3 B4)
   else
    us7 (.p14951 l1 (0 : Int) s7 B0 D0 D1 D2 D3 D4 D5 D6 D7 D8 D9 D10 D11 B2 B3 B4)
  else
   (uR5 (.start D4 D5 B0 B3 B4)) >>= fun t3 =>
   (uR5 (.start D2 D3 t3.2.1.1 t3.2.2.1 t3.2.2.2.1)) >>= fun t4 =>
   (uZ3 (.start t3.1.1.1 t3.1.1.2.1 t4.1.1.1 t4.1.1.2.1 t4.2.1.1 t4.2.2.1 t4.2.2.2.1)) >>= fun t5 =>
   (ut2 (.start B2 D0 D1 t5.2.1.1 t5.2.2.1 t5.2.2.2.1)) >>= fun t6 =>
   (uq8 (.start (3 : Int) D10 D11 t6.1.1.1 t6.1.1.2.1)) >>= fun t7 =>
   (uq8 (.start (2 : Int) D10 D11 D10 D11)) >>= fun t8 =>
   (u52 (.start (⟨#[102, 101, 116, 99, 104]⟩ : ByteArray) t5.1.1.1 t5.1.1.2.1 ([(⟨t7.1.1.1, t7.1.1.2.1, t7.1.1.2.2.1⟩ : ub4), (⟨t8.1.1.1, t8.1.1.2.1, t8.1.1.2.2.1⟩ : ub4)] : List ub4) t6.2.1.1 t6.2.2.1 t6.2.2.2.1)) >>= fun t9 =>
   some ((), ((t9.2.1.1, ((), ((), ((), ((), ((), ((), ()))))))), (t9.2.2.1, (t9.2.2.2.1, (t9.2.2.2.2.1, ())))))
 | .p14951 l1 word6 s7 B0 D0 D1 D2 D3 D4 D5 D6 D7 D8 D9 D10 D11 B2 B3 B4 =>
  (uP4 (.start (16 : Int) word6 B0 B3 B4)) >>= fun t1 =>
  if (fits (List.length B2) (List.length ([(⟨t1.1.1.1, t1.1.1.2.1⟩ : ua0)] : List ua0)) 16) = true then
   us7 (.p116 l1 (IntKind.wrap .i64 (s7 + (1 : Int))) t1.2.1.1 D0 D1 D2 D3 D4 D5 D6 D7 D8 D9 D10 D11 (B2 ++ ([(⟨t1.1.1.1, t1.1.1.2.1⟩ : ua0)] : List ua0)) t1.2.2.1 t1.2.2.2.1)
  else none
 partial_fixpoint
def xa3 : List (Plc E wA0) := [⟨116, [false, false, true, false, true, true], { slots := [1, 2, 4, 7], rows := [(4, 133)], flat := [], keep := 1 }, _, _, (.cons (Rd.sl 40 false) (.cons (Rd.bp 1 0) (.cons (Rd.rw 2) (.cons (Rd.int .i64) .nil)))), (.cons (.var 75 (.cons Rd.str (.cons Rd.nl (.cons (Rd.rw 3) (.cons (Rd.rw 4) (.cons Rd.nl (.cons Rd.nl (.cons Rd.nl .nil)))))))) (.cons (.var 177 (.cons (Rd.bp 0 0) (.cons (Rd.int .i64) (.cons (Rd.int .i64) (.cons (Rd.int .i64) (.cons (Rd.int .i64) (.cons (Rd.int .i64) (.cons (Rd.int .i64) (.cons (Rd.int .i64) (.cons (Rd.int .i64) (.cons (Rd.sl 133 false) (.cons (Rd.sl 133 false) (.cons (Rd.int .i64) (.cons (Rd.int .i64) .nil)))))))))))))) (.cons (.row 133 false) (.cons (.row 82 true) (.cons (.row 208 true) .nil))))), fun a b => .p116 a.1 a.2.2.2.1 b.1.1 b.2.1.2.1 b.2.1.2.2.1 b.2.1.2.2.2.1 b.2.1.2.2.2.2.1 b.2.1.2.2.2.2.2.1 b.2.1.2.2.2.2.2.2.1 b.2.1.2.2.2.2.2.2.2.1 b.2.1.2.2.2.2.2.2.2.2.1 b.2.1.2.2.2.2.2.2.2.2.2.1 b.2.1.2.2.2.2.2.2.2.2.2.2.1 b.2.1.2.2.2.2.2.2.2.2.2.2.2.1 b.2.1.2.2.2.2.2.2.2.2.2.2.2.2.1 b.2.2.1 b.2.2.2.1 b.2.2.2.2.1⟩,
 ⟨14951, [true, true, true, false, false, true, true, false, false, true, false, true, true], { slots := [1, 2, 4, 6, 7], rows := [], flat := [], keep := 1 }, _, _, (.cons (Rd.sl 40 false) (.cons (Rd.bp 1 0) (.cons (Rd.rw 2) (.cons (Rd.int .i64) (.cons (Rd.int .i64) .nil))))), (.cons (.var 75 (.cons Rd.str (.cons Rd.nl (.cons (Rd.rw 3) (.cons (Rd.rw 4) (.cons Rd.nl (.cons Rd.nl (.cons Rd.nl .nil)))))))) (.cons (.var 177 (.cons (Rd.bp 0 0) (.cons (Rd.int .i64) (.cons (Rd.int .i64) (.cons (Rd.int .i64) (.cons (Rd.int .i64) (.cons (Rd.int .i64) (.cons (Rd.int .i64) (.cons (Rd.int .i64) (.cons (Rd.int .i64) (.cons (Rd.sl 133 false) (.cons (Rd.sl 133 false) (.cons (Rd.int .i64) (.cons (Rd.int .i64) .nil)))))))))))))) (.cons (.row 133 false) (.cons (.row 82 true) (.cons (.row 208 true) .nil))))), fun a b => .p14951 a.1 a.2.2.2.1 a.2.2.2.2.1 b.1.1 b.2.1.2.1 b.2.1.2.2.1 b.2.1.2.2.2.1 b.2.1.2.2.2.2.1 b.2.1.2.2.2.2.2.1 b.2.1.2.2.2.2.2.2.1 b.2.1.2.2.2.2.2.2.2.1 b.2.1.2.2.2.2.2.2.2.2.1 b.2.1.2.2.2.2.2.2.2.2.2.1 b.2.1.2.2.2.2.2.2.2.2.2.2.1 b.2.1.2.2.2.2.2.2.2.2.2.2.2.1 b.2.1.2.2.2.2.2.2.2.2.2.2.2.2.1 b.2.2.1 b.2.2.2.1 b.2.2.2.2.1⟩]
theorem wi7 : All (ub5 58 1 va2 w61) xa3 := ⟨⟨rfl, rfl, fun _ _ => rfl, fun _ _ => rfl⟩, ⟨⟨rfl, rfl, fun _ _ => rfl, fun _ _ => rfl⟩, trivial⟩⟩
def vi5 : Code := Tryz.f109.body.getD .skip
def v23 : Spec E.S := (Con.add vK3 (Con.add wJ8 (Con.add vM9 (Con.add w33 (Con.add w81 (Con.add xa8 (Con.add wZ7 ub3)))))))
theorem vL4 : ub0 E v23 := (Con.add_ok vg5 (Con.add_ok wz2 (Con.add_ok vf3 (Con.add_ok wC3 (Con.add_ok wn5 (Con.add_ok wu7 (Con.add_ok wC8 ua6)))))))
theorem xr9 : ∀ pt r, us7 pt = some r → Good E Tryz.f109 vi5 1 (uE6.av r) (uE6.bx r) (va2 pt) (w61 pt) := by
 refine us7.partial_correctness (fun pt r => Good E Tryz.f109 vi5 1 (uE6.av r) (uE6.bx r) (va2 pt) (w61 pt)) ?_
 intro run' ih pt r hr
 cases pt <;> exact ua8 (spec := v23) (wr := (mkWr [] [(15, [4])])) (l := xa3) (z := 58) (p := uE6) E_ok wi7.mem rfl vL4 ih (Eq.trans (by kernel_rfl) hr)
def wX6 : Con E := ⟨109, _, _, (.cons (Rw.agg (.cons (Rd.bp 0 0).w (.cons (Rd.int .i64).w (.cons (Rd.int .i64).w (.cons (Rd.int .i64).w (.cons (Rd.int .i64).w (.cons (Rd.int .i64).w (.cons (Rd.int .i64).w (.cons (Rd.int .i64).w (.cons (Rd.int .i64).w (.cons (Rw.sl 133) (.cons (Rw.sl 133) (.cons (Rd.int .i64).w (.cons (Rd.int .i64).w .nil)))))))))))))) (.cons (Rw.sl 40) .nil)), (.cons (.var 75 (.cons Rd.str (.cons Rd.nl (.cons (Rd.rw 1) (.cons (Rd.rw 2) (.cons Rd.nl (.cons Rd.nl (.cons Rd.nl .nil)))))))) (.cons (.row 82 true) (.cons (.row 208 true) .nil))), 1, xJ1, fun a b => us7 (.start a.1.2.1 a.1.2.2.1 a.1.2.2.2.1 a.1.2.2.2.2.1 a.1.2.2.2.2.2.1 a.1.2.2.2.2.2.2.1 a.1.2.2.2.2.2.2.2.1 a.1.2.2.2.2.2.2.2.2.1 a.1.2.2.2.2.2.2.2.2.2.1 a.1.2.2.2.2.2.2.2.2.2.2.1 a.1.2.2.2.2.2.2.2.2.2.2.2.1 a.1.2.2.2.2.2.2.2.2.2.2.2.2.1 a.2.1 b.1.1 b.2.1 b.2.2.1), uE6.av, uE6.bx⟩
theorem wD5 : wX6.Ok := fun a b r h => ub6 (fn := Tryz.f109) (code := vi5) E_ok (by kernel_rfl) (by kernel_rfl) (by kernel_rfl) (Nat.le_of_ble_eq_true rfl) (xr9 (.start a.1.2.1 a.1.2.2.1 a.1.2.2.2.1 a.1.2.2.2.2.1 a.1.2.2.2.2.2.1 a.1.2.2.2.2.2.2.1 a.1.2.2.2.2.2.2.2.1 a.1.2.2.2.2.2.2.2.2.1 a.1.2.2.2.2.2.2.2.2.2.1 a.1.2.2.2.2.2.2.2.2.2.2.1 a.1.2.2.2.2.2.2.2.2.2.2.2.1 a.1.2.2.2.2.2.2.2.2.2.2.2.2.1 a.2.1 b.1.1 b.2.1 b.2.2.1) r h)
inductive wl9 where
 | start (op1 : Int) (width2 : Int) (value3 : Int) (args4 : (List ua0)) (B0 : ByteArray) (B1 : (List ua1)) (B2 : (List ua2)) (B3 : (List ua5))
 | p116 (op1 : Int) (width2 : Int) (value3 : Int) (s14 : (List ua0)) (s15 : Int) (s16 : Int) (B0 : ByteArray) (G0 : Int) (G1 : Int) (B3 : (List Int)) (B4 : (List ua1)) (B5 : (List ua2)) (B6 : (List ua5))
def va3 : wl9 → List Bool
 | .start .. => []
 | .p116 .. => [false, false, true, false, true, true]
def xa4 : wl9 → St E.S
 | .start op1 width2 value3 args4 B0 B1 B2 B3 => st0 51 [.agg [.bp 0 0], .v (.int .i64 op1), .v (.int .i64 width2), .v (.int .i64 value3), .sl 133 args4 false] [.var 75 [.v (.string B0), .nl, .rw 1, .rw 2, .rw 3, .nl, .nl], .row 82 B1 true, .row 208 B2 true, .row 85 B3 true]
 | .p116 op1 width2 value3 s14 s15 s16 B0 G0 G1 B3 B4 B5 B6 => mkSt 51 [1, 2, 3, 5, 10, 11, 14, 15, 16] [.v (.int .i64 op1), .v (.int .i64 width2), .v (.int .i64 value3), .bp 1 0, .bp 2 0, .rw 3, .sl 133 s14 false, .v (.int .i64 s15), .v (.int .i64 s16)] [.var 75 [.v (.string B0), .nl, .rw 4, .rw 5, .rw 6, .nl, .nl], .var 131 [.bp 0 0], .var 133 [.v (.int .i64 G0), .v (.int .i64 G1)], .row 3 B3 false, .row 82 B4 true, .row 208 B5 true, .row 85 B6 true]
abbrev xL5 : Type := (((Int × (Int × Unit)) × Unit) × ((ByteArray × (Unit × (Unit × (Unit × (Unit × (Unit × (Unit × Unit))))))) × ((List ua1) × ((List ua2) × ((List ua5) × Unit)))))
def uG8 : Res E ((Int × (Int × Unit)) × Unit) ((ByteArray × (Unit × (Unit × (Unit × (Unit × (Unit × (Unit × Unit))))))) × ((List ua1) × ((List ua2) × ((List ua5) × Unit)))) := { rows := [], flat := [], keep := 1, done := [0], rl := (.cons (Rd.agg (.cons (Rd.int .i64) (.cons (Rd.int .i64) .nil))) .nil), rb := (.cons (.var 75 (.cons Rd.str (.cons Rd.nl (.cons (Rd.rw 1) (.cons (Rd.rw 2) (.cons (Rd.rw 3) (.cons Rd.nl (.cons Rd.nl .nil)))))))) (.cons (.row 82 true) (.cons (.row 208 true) (.cons (.row 85 true) .nil)))) }
def uh9 : wl9 → Option xL5
 | .start op1 width2 value3 args4 B0 B1 B2 B3 =>
  uh9 (.p116 op1 width2 value3 args4 (List.length args4 : Int) (0 : Int) B0 (0 : Int) (0 : Int) ([] : List Int) B1 B2 B3)
 | .p116 op1 width2 value3 s14 s15 s16 B0 G0 G1 B3 B4 B5 B6 =>
  if (decide (s16 < s15)) = true then
   (idx s14 s16) >>= fun t1 =>
   if (fits (List.length B3) (List.length ([t1.node] : List Int)) 8) = true then
    uh9 (.p116 op1 width2 value3 s14 s15 (IntKind.wrap .i64 (s16 + (1 : Int))) B0 G0 G1 (B3 ++ ([t1.node] : List Int)) B4 B5 B6)
   else none
  else
   if (fits (List.length B5) (List.length ([(⟨op1, width2, B3, value3⟩ : ua2)] : List ua2)) 48) = true then
    some (((IntKind.wrap .i64 ((List.length (B5 ++ ([(⟨op1, width2, B3, value3⟩ : ua2)] : List ua2)) : Int) - (1 : Int)), (width2, ())), ()), ((B0, ((), ((), ((), ((), ((), ((), ()))))))), (B4, (B5 ++ ([(⟨op1, width2, B3, value3⟩ : ua2)] : List ua2), (B6, ())))))
   else none
 partial_fixpoint
def w56 : List (Plc E wl9) := [⟨116, [false, false, true, false, true, true], { slots := [1, 2, 3, 5, 10, 11, 14, 15, 16], rows := [(11, 3)], flat := [], keep := 1 }, _, _, (.cons (Rd.int .i64) (.cons (Rd.int .i64) (.cons (Rd.int .i64) (.cons (Rd.bp 1 0) (.cons (Rd.bp 2 0) (.cons (Rd.rw 3) (.cons (Rd.sl 133 false) (.cons (Rd.int .i64) (.cons (Rd.int .i64) .nil))))))))), (.cons (.var 75 (.cons Rd.str (.cons Rd.nl (.cons (Rd.rw 4) (.cons (Rd.rw 5) (.cons (Rd.rw 6) (.cons Rd.nl (.cons Rd.nl .nil)))))))) (.cons (.var 131 (.cons (Rd.bp 0 0) .nil)) (.cons (.var 133 (.cons (Rd.int .i64) (.cons (Rd.int .i64) .nil))) (.cons (.row 3 false) (.cons (.row 82 true) (.cons (.row 208 true) (.cons (.row 85 true) .nil))))))), fun a b => .p116 a.1 a.2.1 a.2.2.1 a.2.2.2.2.2.2.1 a.2.2.2.2.2.2.2.1 a.2.2.2.2.2.2.2.2.1 b.1.1 b.2.2.1.1 b.2.2.1.2.1 b.2.2.2.1 b.2.2.2.2.1 b.2.2.2.2.2.1 b.2.2.2.2.2.2.1⟩]
theorem wv4 : All (ub5 51 1 va3 xa4) w56 := ⟨⟨rfl, rfl, fun _ _ => rfl, fun _ _ => rfl⟩, trivial⟩
def vo4 : Code := Tryz.f127.body.getD .skip
def wa7 : Spec E.S := ub3
theorem vL2 : ub0 E wa7 := ua6
theorem xu2 : ∀ pt r, uh9 pt = some r → Good E Tryz.f127 vo4 1 (uG8.av r) (uG8.bx r) (va3 pt) (xa4 pt) := by
 refine uh9.partial_correctness (fun pt r => Good E Tryz.f127 vo4 1 (uG8.av r) (uG8.bx r) (va3 pt) (xa4 pt)) ?_
 intro run' ih pt r hr
 cases pt <;> exact ua8 (spec := wa7) (wr := (mkWr [] [(30, [11])])) (l := w56) (z := 51) (p := uG8) E_ok wv4.mem rfl vL2 ih (Eq.trans (by kernel_rfl) hr)
def uw8 : Con E := ⟨127, _, _, (.cons (Rw.agg (.cons (Rd.bp 0 0).w .nil)) (.cons (Rd.int .i64).w (.cons (Rd.int .i64).w (.cons (Rd.int .i64).w (.cons (Rw.sl 133) .nil))))), (.cons (.var 75 (.cons Rd.str (.cons Rd.nl (.cons (Rd.rw 1) (.cons (Rd.rw 2) (.cons (Rd.rw 3) (.cons Rd.nl (.cons Rd.nl .nil)))))))) (.cons (.row 82 true) (.cons (.row 208 true) (.cons (.row 85 true) .nil)))), 1, xL5, fun a b => uh9 (.start a.2.1 a.2.2.1 a.2.2.2.1 a.2.2.2.2.1 b.1.1 b.2.1 b.2.2.1 b.2.2.2.1), uG8.av, uG8.bx⟩
theorem uk3 : uw8.Ok := fun a b r h => ub6 (fn := Tryz.f127) (code := vo4) E_ok (by kernel_rfl) (by kernel_rfl) (by kernel_rfl) (Nat.le_of_ble_eq_true rfl) (xu2 (.start a.2.1 a.2.2.1 a.2.2.2.1 a.2.2.2.2.1 b.1.1 b.2.1 b.2.2.1 b.2.2.2.1) r h)
inductive wH0 where
 | start (x1_0 : Int) (x1_1 : Int) (low2 : Int) (width3 : Int) (B0 : ByteArray) (B1 : (List ua1)) (B2 : (List ua2)) (B3 : (List ua5))
def vu4 : wH0 → List Bool
 | .start .. => []
def xB0 : wH0 → St E.S
 | .start x1_0 x1_1 low2 width3 B0 B1 B2 B3 => st0 15 [.agg [.bp 0 0], .agg [.v (.int .i64 x1_0), .v (.int .i64 x1_1)], .v (.int .i64 low2), .v (.int .i64 width3)] [.var 75 [.v (.string B0), .nl, .rw 1, .rw 2, .rw 3, .nl, .nl], .row 82 B1 true, .row 208 B2 true, .row 85 B3 true]
abbrev xI3 : Type := (((Int × (Int × Unit)) × Unit) × ((ByteArray × (Unit × (Unit × (Unit × (Unit × (Unit × (Unit × Unit))))))) × ((List ua1) × ((List ua2) × ((List ua5) × Unit)))))
def vb7 : Res E ((Int × (Int × Unit)) × Unit) ((ByteArray × (Unit × (Unit × (Unit × (Unit × (Unit × (Unit × Unit))))))) × ((List ua1) × ((List ua2) × ((List ua5) × Unit)))) := { rows := [], flat := [], keep := 1, done := [0], rl := (.cons (Rd.agg (.cons (Rd.int .i64) (.cons (Rd.int .i64) .nil))) .nil), rb := (.cons (.var 75 (.cons Rd.str (.cons Rd.nl (.cons (Rd.rw 1) (.cons (Rd.rw 2) (.cons (Rd.rw 3) (.cons Rd.nl (.cons Rd.nl .nil)))))))) (.cons (.row 82 true) (.cons (.row 208 true) (.cons (.row 85 true) .nil)))) }
def uq9 : wH0 → Option xI3
 | .start x1_0 x1_1 low2 width3 B0 B1 B2 B3 =>
  (uh9 (.start (14 : Int) width3 low2 ([(⟨x1_0, x1_1⟩ : ua0)] : List ua0) B0 B1 B2 B3)) >>= fun t1 =>
  some (((t1.1.1.1, (t1.1.1.2.1, ())), ()), ((t1.2.1.1, ((), ((), ((), ((), ((), ((), ()))))))), (t1.2.2.1, (t1.2.2.2.1, (t1.2.2.2.2.1, ())))))
def wT9 : List (Plc E wH0) := []
theorem wm6 : All (ub5 15 1 vu4 xB0) wT9 := trivial
def wd9 : Code := Tryz.f162.body.getD .skip
def wg7 : Spec E.S := (Con.add uw8 ub3)
theorem vS0 : ub0 E wg7 := (Con.add_ok uk3 ua6)
theorem xr6 : ∀ pt r, uq9 pt = some r → Good E Tryz.f162 wd9 1 (vb7.av r) (vb7.bx r) (vu4 pt) (xB0 pt) := by
 intro pt r hr
 cases pt <;> exact ua8 (spec := wg7) (wr := (mkWr [] [])) (l := wT9) (z := 15) (p := vb7) (run' := fun _ => none) E_ok wm6.mem rfl vS0 (fun _ _ h => by cases h) (Eq.trans (by kernel_rfl) hr)
def vN5 : Con E := ⟨162, _, _, (.cons (Rw.agg (.cons (Rd.bp 0 0).w .nil)) (.cons (Rw.agg (.cons (Rd.int .i64).w (.cons (Rd.int .i64).w .nil))) (.cons (Rd.int .i64).w (.cons (Rd.int .i64).w .nil)))), (.cons (.var 75 (.cons Rd.str (.cons Rd.nl (.cons (Rd.rw 1) (.cons (Rd.rw 2) (.cons (Rd.rw 3) (.cons Rd.nl (.cons Rd.nl .nil)))))))) (.cons (.row 82 true) (.cons (.row 208 true) (.cons (.row 85 true) .nil)))), 1, xI3, fun a b => uq9 (.start a.2.1.1 a.2.1.2.1 a.2.2.1 a.2.2.2.1 b.1.1 b.2.1 b.2.2.1 b.2.2.2.1), vb7.av, vb7.bx⟩
theorem vd6 : vN5.Ok := fun a b r h => ub6 (fn := Tryz.f162) (code := wd9) E_ok (by kernel_rfl) (by kernel_rfl) (by kernel_rfl) (Nat.le_of_ble_eq_true rfl) (xr6 (.start a.2.1.1 a.2.1.2.1 a.2.2.1 a.2.2.2.1 b.1.1 b.2.1 b.2.2.1 b.2.2.2.1) r h)
inductive wH8 where
 | start (c1_0 : Int) (c1_1 : Int) (x2_0 : Int) (x2_1 : Int) (y3_0 : Int) (y3_1 : Int) (B0 : ByteArray) (B1 : (List ua1)) (B2 : (List ua2)) (B3 : (List ua5))
def vz3 : wH8 → List Bool
 | .start .. => []
def xC1 : wH8 → St E.S
 | .start c1_0 c1_1 x2_0 x2_1 y3_0 y3_1 B0 B1 B2 B3 => st0 17 [.agg [.bp 0 0], .agg [.v (.int .i64 c1_0), .v (.int .i64 c1_1)], .agg [.v (.int .i64 x2_0), .v (.int .i64 x2_1)], .agg [.v (.int .i64 y3_0), .v (.int .i64 y3_1)]] [.var 75 [.v (.string B0), .nl, .rw 1, .rw 2, .rw 3, .nl, .nl], .row 82 B1 true, .row 208 B2 true, .row 85 B3 true]
abbrev xH0 : Type := (((Int × (Int × Unit)) × Unit) × ((ByteArray × (Unit × (Unit × (Unit × (Unit × (Unit × (Unit × Unit))))))) × ((List ua1) × ((List ua2) × ((List ua5) × Unit)))))
def u25 : Res E ((Int × (Int × Unit)) × Unit) ((ByteArray × (Unit × (Unit × (Unit × (Unit × (Unit × (Unit × Unit))))))) × ((List ua1) × ((List ua2) × ((List ua5) × Unit)))) := { rows := [], flat := [], keep := 1, done := [0], rl := (.cons (Rd.agg (.cons (Rd.int .i64) (.cons (Rd.int .i64) .nil))) .nil), rb := (.cons (.var 75 (.cons Rd.str (.cons Rd.nl (.cons (Rd.rw 1) (.cons (Rd.rw 2) (.cons (Rd.rw 3) (.cons Rd.nl (.cons Rd.nl .nil)))))))) (.cons (.row 82 true) (.cons (.row 208 true) (.cons (.row 85 true) .nil)))) }
def uE8 : wH8 → Option xH0
 | .start c1_0 c1_1 x2_0 x2_1 y3_0 y3_1 B0 B1 B2 B3 =>
  (uh9 (.start (12 : Int) x2_1 (0 : Int) ([(⟨c1_0, c1_1⟩ : ua0), (⟨x2_0, x2_1⟩ : ua0), (⟨y3_0, y3_1⟩ : ua0)] : List ua0) B0 B1 B2 B3)) >>= fun t1 =>
  some (((t1.1.1.1, (t1.1.1.2.1, ())), ()), ((t1.2.1.1, ((), ((), ((), ((), ((), ((), ()))))))), (t1.2.2.1, (t1.2.2.2.1, (t1.2.2.2.2.1, ())))))
def xc1 : List (Plc E wH8) := []
theorem wk8 : All (ub5 17 1 vz3 xC1) xc1 := trivial
def v06 : Code := Tryz.f163.body.getD .skip
def v74 : Spec E.S := (Con.add uw8 ub3)
theorem vG8 : ub0 E v74 := (Con.add_ok uk3 ua6)
theorem xo1 : ∀ pt r, uE8 pt = some r → Good E Tryz.f163 v06 1 (u25.av r) (u25.bx r) (vz3 pt) (xC1 pt) := by
 intro pt r hr
 cases pt <;> exact ua8 (spec := v74) (wr := (mkWr [] [])) (l := xc1) (z := 17) (p := u25) (run' := fun _ => none) E_ok wk8.mem rfl vG8 (fun _ _ h => by cases h) (Eq.trans (by kernel_rfl) hr)
def vJ1 : Con E := ⟨163, _, _, (.cons (Rw.agg (.cons (Rd.bp 0 0).w .nil)) (.cons (Rw.agg (.cons (Rd.int .i64).w (.cons (Rd.int .i64).w .nil))) (.cons (Rw.agg (.cons (Rd.int .i64).w (.cons (Rd.int .i64).w .nil))) (.cons (Rw.agg (.cons (Rd.int .i64).w (.cons (Rd.int .i64).w .nil))) .nil)))), (.cons (.var 75 (.cons Rd.str (.cons Rd.nl (.cons (Rd.rw 1) (.cons (Rd.rw 2) (.cons (Rd.rw 3) (.cons Rd.nl (.cons Rd.nl .nil)))))))) (.cons (.row 82 true) (.cons (.row 208 true) (.cons (.row 85 true) .nil)))), 1, xH0, fun a b => uE8 (.start a.2.1.1 a.2.1.2.1 a.2.2.1.1 a.2.2.1.2.1 a.2.2.2.1.1 a.2.2.2.1.2.1 b.1.1 b.2.1 b.2.2.1 b.2.2.2.1), u25.av, u25.bx⟩
theorem ve7 : vJ1.Ok := fun a b r h => ub6 (fn := Tryz.f163) (code := v06) E_ok (by kernel_rfl) (by kernel_rfl) (by kernel_rfl) (Nat.le_of_ble_eq_true rfl) (xo1 (.start a.2.1.1 a.2.1.2.1 a.2.2.1.1 a.2.2.1.2.1 a.2.2.2.1.1 a.2.2.2.1.2.1 b.1.1 b.2.1 b.2.2.1 b.2.2.2.1) r h)
inductive wr0 where
 | start (l1 : (List ua0)) (number2_0 : Int) (number2_1 : Int) (B0 : ByteArray) (B1 : (List ua1)) (B2 : (List ua2)) (B3 : (List ua5))
 | p52 (l1 : (List ua0)) (bit7 : Int) (B0 : ByteArray) (G0 : Int) (G1 : Int) (H0 : Int) (H1 : Int) (B4 : (List ua1)) (B5 : (List ua2)) (B6 : (List ua5))
 | p26932 (l1 : (List ua0)) (bit7 : Int) (i10 : Int) (B0 : ByteArray) (G0 : Int) (G1 : Int) (H0 : Int) (H1 : Int) (J0 : Int) (J1 : Int) (B5 : (List ua0)) (B6 : (List ua1)) (B7 : (List ua2)) (B8 : (List ua5))
def u90 : wr0 → List Bool
 | .start .. => []
 | .p52 .. => [false, false, true, false, true]
 | .p26932 .. => [false, false, true, false, true, true, false, false, true, false, false, true, false, true]
def w97 : wr0 → St E.S
 | .start l1 number2_0 number2_1 B0 B1 B2 B3 => st0 45 [.agg [.bp 0 0], .sl 133 l1 false, .agg [.v (.int .i64 number2_0), .v (.int .i64 number2_1)]] [.var 75 [.v (.string B0), .nl, .rw 1, .rw 2, .rw 3, .nl, .nl], .row 82 B1 true, .row 208 B2 true, .row 85 B3 true]
 | .p52 l1 bit7 B0 G0 G1 H0 H1 B4 B5 B6 => mkSt 45 [1, 3, 5, 6, 7] [.sl 133 l1 false, .bp 1 0, .bp 2 0, .bp 3 0, .v (.int .i64 bit7)] [.var 75 [.v (.string B0), .nl, .rw 4, .rw 5, .rw 6, .nl, .nl], .var 131 [.bp 0 0], .var 133 [.v (.int .i64 G0), .v (.int .i64 G1)], .var 133 [.v (.int .i64 H0), .v (.int .i64 H1)], .row 82 B4 true, .row 208 B5 true, .row 85 B6 true]
 | .p26932 l1 bit7 i10 B0 G0 G1 H0 H1 J0 J1 B5 B6 B7 B8 => mkSt 45 [1, 3, 5, 6, 7, 8, 9, 10] [.sl 133 l1 false, .bp 1 0, .bp 2 0, .bp 3 0, .v (.int .i64 bit7), .bp 4 0, .rw 5, .v (.int .i64 i10)] [.var 75 [.v (.string B0), .nl, .rw 6, .rw 7, .rw 8, .nl, .nl], .var 131 [.bp 0 0], .var 133 [.v (.int .i64 G0), .v (.int .i64 G1)], .var 133 [.v (.int .i64 H0), .v (.int .i64 H1)], .var 133 [.v (.int .i64 J0), .v (.int .i64 J1)], .row 133 B5 false, .row 82 B6 true, .row 208 B7 true, .row 85 B8 true]
abbrev xQ4 : Type := (((Int × (Int × Unit)) × Unit) × ((ByteArray × (Unit × (Unit × (Unit × (Unit × (Unit × (Unit × Unit))))))) × ((List ua1) × ((List ua2) × ((List ua5) × Unit)))))
def uI4 : Res E ((Int × (Int × Unit)) × Unit) ((ByteArray × (Unit × (Unit × (Unit × (Unit × (Unit × (Unit × Unit))))))) × ((List ua1) × ((List ua2) × ((List ua5) × Unit)))) := { rows := [], flat := [], keep := 1, done := [0], rl := (.cons (Rd.agg (.cons (Rd.int .i64) (.cons (Rd.int .i64) .nil))) .nil), rb := (.cons (.var 75 (.cons Rd.str (.cons Rd.nl (.cons (Rd.rw 1) (.cons (Rd.rw 2) (.cons (Rd.rw 3) (.cons Rd.nl (.cons Rd.nl .nil)))))))) (.cons (.row 82 true) (.cons (.row 208 true) (.cons (.row 85 true) .nil)))) }
def uo4 : wr0 → Option xQ4
 | .start l1 number2_0 number2_1 B0 B1 B2 B3 =>
  uo4 (.p52 l1 (0 : Int) B0 number2_0 number2_1 (0 : Int) (0 : Int) B1 B2 B3)
 | .p52 l1 bit7 B0 G0 G1 H0 H1 B4 B5 B6 =>
  if (decide ((List.length l1 : Int) > (1 : Int))) = true then
   (uq9 (.start G0 G1 bit7 (1 : Int) B0 B4 B5 B6)) >>= fun t1 =>
   uo4 (.p26932 l1 bit7 (0 : Int) t1.2.1.1 G0 G1 H0 H1 t1.1.1.1 t1.1.1.2.1 ([] : List ua0) t1.2.2.1 t1.2.2.2.1 t1.2.2.2.2.1)
  else
   (idx l1 (0 : Int)) >>= fun t2 =>
   some (((t2.node, (t2.width, ())), ()), ((B0, ((), ((), ((), ((), ((), ((), ()))))))), (B4, (B5, (B6, ())))))
 | .p26932 l1 bit7 i10 B0 G0 G1 H0 H1 J0 J1 B5 B6 B7 B8 =>
  if (decide (i10 < (List.length l1 : Int))) = true then
   (idx l1 (IntKind.wrap .i64 (i10 + (1 : Int)))) >>= fun t1 =>
   (idx l1 i10) >>= fun t2 =>
   (uE8 (.start J0 J1 t1.node t1.width t2.node t2.width B0 B6 B7 B8)) >>= fun t3 =>
   if (fits (List.length B5) (List.length ([(⟨t3.1.1.1, t3.1.1.2.1⟩ : ua0)] : List ua0)) 16) = true then
    uo4 (.p26932 l1 bit7 (IntKind.wrap .i64 (i10 + (2 : Int))) t3.2.1.1 G0 G1 H0 H1 J0 J1 (B5 ++ ([(⟨t3.1.1.1, t3.1.1.2.1⟩ : ua0)] : List ua0)) t3.2.2.1 t3.2.2.2.1 t3.2.2.2.2.1)
   else none
  else
   uo4 (.p52 B5 (IntKind.wrap .i64 (bit7 + (1 : Int))) B0 G0 G1 H0 H1 B6 B7 B8)
 partial_fixpoint
def wQ8 : List (Plc E wr0) := [⟨52, [false, false, true, false, true], { slots := [1, 3, 5, 6, 7], rows := [], flat := [(1, 133)], keep := 1, done := [1] }, _, _, (.cons (Rd.sl 133 false) (.cons (Rd.bp 1 0) (.cons (Rd.bp 2 0) (.cons (Rd.bp 3 0) (.cons (Rd.int .i64) .nil))))), (.cons (.var 75 (.cons Rd.str (.cons Rd.nl (.cons (Rd.rw 4) (.cons (Rd.rw 5) (.cons (Rd.rw 6) (.cons Rd.nl (.cons Rd.nl .nil)))))))) (.cons (.var 131 (.cons (Rd.bp 0 0) .nil)) (.cons (.var 133 (.cons (Rd.int .i64) (.cons (Rd.int .i64) .nil))) (.cons (.var 133 (.cons (Rd.int .i64) (.cons (Rd.int .i64) .nil))) (.cons (.row 82 true) (.cons (.row 208 true) (.cons (.row 85 true) .nil))))))), fun a b => .p52 a.1 a.2.2.2.2.1 b.1.1 b.2.2.1.1 b.2.2.1.2.1 b.2.2.2.1.1 b.2.2.2.1.2.1 b.2.2.2.2.1 b.2.2.2.2.2.1 b.2.2.2.2.2.2.1⟩,
 ⟨26932, [false, false, true, false, true, true, false, false, true, false, false, true, false, true], { slots := [1, 3, 5, 6, 7, 8, 9, 10], rows := [(9, 133)], flat := [], keep := 1 }, _, _, (.cons (Rd.sl 133 false) (.cons (Rd.bp 1 0) (.cons (Rd.bp 2 0) (.cons (Rd.bp 3 0) (.cons (Rd.int .i64) (.cons (Rd.bp 4 0) (.cons (Rd.rw 5) (.cons (Rd.int .i64) .nil)))))))), (.cons (.var 75 (.cons Rd.str (.cons Rd.nl (.cons (Rd.rw 6) (.cons (Rd.rw 7) (.cons (Rd.rw 8) (.cons Rd.nl (.cons Rd.nl .nil)))))))) (.cons (.var 131 (.cons (Rd.bp 0 0) .nil)) (.cons (.var 133 (.cons (Rd.int .i64) (.cons (Rd.int .i64) .nil))) (.cons (.var 133 (.cons (Rd.int .i64) (.cons (Rd.int .i64) .nil))) (.cons (.var 133 (.cons (Rd.int .i64) (.cons (Rd.int .i64) .nil))) (.cons (.row 133 false) (.cons (.row 82 true) (.cons (.row 208 true) (.cons (.row 85 true) .nil))))))))), fun a b => .p26932 a.1 a.2.2.2.2.1 a.2.2.2.2.2.2.2.1 b.1.1 b.2.2.1.1 b.2.2.1.2.1 b.2.2.2.1.1 b.2.2.2.1.2.1 b.2.2.2.2.1.1 b.2.2.2.2.1.2.1 b.2.2.2.2.2.1 b.2.2.2.2.2.2.1 b.2.2.2.2.2.2.2.1 b.2.2.2.2.2.2.2.2.1⟩]
theorem wk6 : All (ub5 45 1 u90 w97) wQ8 := ⟨⟨rfl, rfl, fun _ _ => rfl, fun _ _ => rfl⟩, ⟨⟨rfl, rfl, fun _ _ => rfl, fun _ _ => rfl⟩, trivial⟩⟩
def vq6 : Code := Tryz.f161.body.getD .skip
def v01 : Spec E.S := (Con.add vJ1 (Con.add vN5 ub3))
theorem vI8 : ub0 E v01 := (Con.add_ok ve7 (Con.add_ok vd6 ua6))
theorem xr2 : ∀ pt r, uo4 pt = some r → Good E Tryz.f161 vq6 1 (uI4.av r) (uI4.bx r) (u90 pt) (w97 pt) := by
 refine uo4.partial_correctness (fun pt r => Good E Tryz.f161 vq6 1 (uI4.av r) (uI4.bx r) (u90 pt) (w97 pt)) ?_
 intro run' ih pt r hr
 cases pt <;> exact ua8 (spec := v01) (wr := (mkWr [] [])) (l := wQ8) (z := 45) (p := uI4) E_ok wk6.mem rfl vI8 ih (Eq.trans (by kernel_rfl) hr)
def wV7 : Con E := ⟨161, _, _, (.cons (Rw.agg (.cons (Rd.bp 0 0).w .nil)) (.cons (Rw.sl 133) (.cons (Rw.agg (.cons (Rd.int .i64).w (.cons (Rd.int .i64).w .nil))) .nil))), (.cons (.var 75 (.cons Rd.str (.cons Rd.nl (.cons (Rd.rw 1) (.cons (Rd.rw 2) (.cons (Rd.rw 3) (.cons Rd.nl (.cons Rd.nl .nil)))))))) (.cons (.row 82 true) (.cons (.row 208 true) (.cons (.row 85 true) .nil)))), 1, xQ4, fun a b => uo4 (.start a.2.1 a.2.2.1.1 a.2.2.1.2.1 b.1.1 b.2.1 b.2.2.1 b.2.2.2.1), uI4.av, uI4.bx⟩
theorem wr7 : wV7.Ok := fun a b r h => ub6 (fn := Tryz.f161) (code := vq6) E_ok (by kernel_rfl) (by kernel_rfl) (by kernel_rfl) (Nat.le_of_ble_eq_true rfl) (xr2 (.start a.2.1 a.2.2.1.1 a.2.2.1.2.1 b.1.1 b.2.1 b.2.2.1 b.2.2.2.1) r h)
inductive wI1 where
 | start (x1_0 : Int) (x1_1 : Int) (y2_0 : Int) (y2_1 : Int) (B0 : ByteArray) (B1 : (List ua1)) (B2 : (List ua2)) (B3 : (List ua5))
def vr2 : wI1 → List Bool
 | .start .. => []
def xC5 : wI1 → St E.S
 | .start x1_0 x1_1 y2_0 y2_1 B0 B1 B2 B3 => st0 14 [.agg [.bp 0 0], .agg [.v (.int .i64 x1_0), .v (.int .i64 x1_1)], .agg [.v (.int .i64 y2_0), .v (.int .i64 y2_1)]] [.var 75 [.v (.string B0), .nl, .rw 1, .rw 2, .rw 3, .nl, .nl], .row 82 B1 true, .row 208 B2 true, .row 85 B3 true]
abbrev xL2 : Type := (((Int × (Int × Unit)) × Unit) × ((ByteArray × (Unit × (Unit × (Unit × (Unit × (Unit × (Unit × Unit))))))) × ((List ua1) × ((List ua2) × ((List ua5) × Unit)))))
def uW0 : Res E ((Int × (Int × Unit)) × Unit) ((ByteArray × (Unit × (Unit × (Unit × (Unit × (Unit × (Unit × Unit))))))) × ((List ua1) × ((List ua2) × ((List ua5) × Unit)))) := { rows := [], flat := [], keep := 1, done := [0], rl := (.cons (Rd.agg (.cons (Rd.int .i64) (.cons (Rd.int .i64) .nil))) .nil), rb := (.cons (.var 75 (.cons Rd.str (.cons Rd.nl (.cons (Rd.rw 1) (.cons (Rd.rw 2) (.cons (Rd.rw 3) (.cons Rd.nl (.cons Rd.nl .nil)))))))) (.cons (.row 82 true) (.cons (.row 208 true) (.cons (.row 85 true) .nil)))) }
def uA0 : wI1 → Option xL2
 | .start x1_0 x1_1 y2_0 y2_1 B0 B1 B2 B3 =>
  (uh9 (.start (3 : Int) x1_1 (0 : Int) ([(⟨x1_0, x1_1⟩ : ua0), (⟨y2_0, y2_1⟩ : ua0)] : List ua0) B0 B1 B2 B3)) >>= fun t1 =>
  some (((t1.1.1.1, (t1.1.1.2.1, ())), ()), ((t1.2.1.1, ((), ((), ((), ((), ((), ((), ()))))))), (t1.2.2.1, (t1.2.2.2.1, (t1.2.2.2.2.1, ())))))
def w36 : List (Plc E wI1) := []
theorem wG8 : All (ub5 14 1 vr2 xC5) w36 := trivial
def wa9 : Code := Tryz.f134.body.getD .skip
def vW9 : Spec E.S := (Con.add uw8 ub3)
theorem vT4 : ub0 E vW9 := (Con.add_ok uk3 ua6)
theorem xi7 : ∀ pt r, uA0 pt = some r → Good E Tryz.f134 wa9 1 (uW0.av r) (uW0.bx r) (vr2 pt) (xC5 pt) := by
 intro pt r hr
 cases pt <;> exact ua8 (spec := vW9) (wr := (mkWr [] [])) (l := w36) (z := 14) (p := uW0) (run' := fun _ => none) E_ok wG8.mem rfl vT4 (fun _ _ h => by cases h) (Eq.trans (by kernel_rfl) hr)
def wY0 : Con E := ⟨134, _, _, (.cons (Rw.agg (.cons (Rd.bp 0 0).w .nil)) (.cons (Rw.agg (.cons (Rd.int .i64).w (.cons (Rd.int .i64).w .nil))) (.cons (Rw.agg (.cons (Rd.int .i64).w (.cons (Rd.int .i64).w .nil))) .nil))), (.cons (.var 75 (.cons Rd.str (.cons Rd.nl (.cons (Rd.rw 1) (.cons (Rd.rw 2) (.cons (Rd.rw 3) (.cons Rd.nl (.cons Rd.nl .nil)))))))) (.cons (.row 82 true) (.cons (.row 208 true) (.cons (.row 85 true) .nil)))), 1, xL2, fun a b => uA0 (.start a.2.1.1 a.2.1.2.1 a.2.2.1.1 a.2.2.1.2.1 b.1.1 b.2.1 b.2.2.1 b.2.2.2.1), uW0.av, uW0.bx⟩
theorem wq1 : wY0.Ok := fun a b r h => ub6 (fn := Tryz.f134) (code := wa9) E_ok (by kernel_rfl) (by kernel_rfl) (by kernel_rfl) (Nat.le_of_ble_eq_true rfl) (xi7 (.start a.2.1.1 a.2.1.2.1 a.2.2.1.1 a.2.2.1.2.1 b.1.1 b.2.1 b.2.2.1 b.2.2.2.1) r h)
inductive wl6 where
 | start (width1 : Int) (value2 : Int) (B0 : ByteArray) (B1 : (List ua1)) (B2 : (List ua2)) (B3 : (List ua5))
def vz9 : wl6 → List Bool
 | .start .. => []
def xy5 : wl6 → St E.S
 | .start width1 value2 B0 B1 B2 B3 => st0 11 [.agg [.bp 0 0], .v (.int .i64 width1), .v (.int .i64 value2)] [.var 75 [.v (.string B0), .nl, .rw 1, .rw 2, .rw 3, .nl, .nl], .row 82 B1 true, .row 208 B2 true, .row 85 B3 true]
abbrev xN4 : Type := (((Int × (Int × Unit)) × Unit) × ((ByteArray × (Unit × (Unit × (Unit × (Unit × (Unit × (Unit × Unit))))))) × ((List ua1) × ((List ua2) × ((List ua5) × Unit)))))
def uZ5 : Res E ((Int × (Int × Unit)) × Unit) ((ByteArray × (Unit × (Unit × (Unit × (Unit × (Unit × (Unit × Unit))))))) × ((List ua1) × ((List ua2) × ((List ua5) × Unit)))) := { rows := [], flat := [], keep := 1, done := [0], rl := (.cons (Rd.agg (.cons (Rd.int .i64) (.cons (Rd.int .i64) .nil))) .nil), rb := (.cons (.var 75 (.cons Rd.str (.cons Rd.nl (.cons (Rd.rw 1) (.cons (Rd.rw 2) (.cons (Rd.rw 3) (.cons Rd.nl (.cons Rd.nl .nil)))))))) (.cons (.row 82 true) (.cons (.row 208 true) (.cons (.row 85 true) .nil)))) }
def uB2 : wl6 → Option xN4
 | .start width1 value2 B0 B1 B2 B3 =>
  (uh9 (.start (0 : Int) width1 value2 ([]) B0 B1 B2 B3)) >>= fun t1 =>
  some (((t1.1.1.1, (t1.1.1.2.1, ())), ()), ((t1.2.1.1, ((), ((), ((), ((), ((), ((), ()))))))), (t1.2.2.1, (t1.2.2.2.1, (t1.2.2.2.2.1, ())))))
def wJ9 : List (Plc E wl6) := []
theorem wo8 : All (ub5 11 1 vz9 xy5) wJ9 := trivial
def wb3 : Code := Tryz.f85.body.getD .skip
def wc7 : Spec E.S := (Con.add uw8 ub3)
theorem vO0 : ub0 E wc7 := (Con.add_ok uk3 ua6)
theorem xj7 : ∀ pt r, uB2 pt = some r → Good E Tryz.f85 wb3 1 (uZ5.av r) (uZ5.bx r) (vz9 pt) (xy5 pt) := by
 intro pt r hr
 cases pt <;> exact ua8 (spec := wc7) (wr := (mkWr [] [])) (l := wJ9) (z := 11) (p := uZ5) (run' := fun _ => none) E_ok wo8.mem rfl vO0 (fun _ _ h => by cases h) (Eq.trans (by kernel_rfl) hr)
def vI6 : Con E := ⟨85, _, _, (.cons (Rw.agg (.cons (Rd.bp 0 0).w .nil)) (.cons (Rd.int .i64).w (.cons (Rd.int .i64).w .nil))), (.cons (.var 75 (.cons Rd.str (.cons Rd.nl (.cons (Rd.rw 1) (.cons (Rd.rw 2) (.cons (Rd.rw 3) (.cons Rd.nl (.cons Rd.nl .nil)))))))) (.cons (.row 82 true) (.cons (.row 208 true) (.cons (.row 85 true) .nil)))), 1, xN4, fun a b => uB2 (.start a.2.1 a.2.2.1 b.1.1 b.2.1 b.2.2.1 b.2.2.2.1), uZ5.av, uZ5.bx⟩
theorem ve3 : vI6.Ok := fun a b r h => ub6 (fn := Tryz.f85) (code := wb3) E_ok (by kernel_rfl) (by kernel_rfl) (by kernel_rfl) (Nat.le_of_ble_eq_true rfl) (xj7 (.start a.2.1 a.2.2.1 b.1.1 b.2.1 b.2.2.1 b.2.2.2.1) r h)
inductive wk2 where
 | start (x1_0 : Int) (x1_1 : Int) (value2 : Int) (B0 : ByteArray) (B1 : (List ua1)) (B2 : (List ua2)) (B3 : (List ua5))
def vs0 : wk2 → List Bool
 | .start .. => []
def xz5 : wk2 → St E.S
 | .start x1_0 x1_1 value2 B0 B1 B2 B3 => st0 16 [.agg [.bp 0 0], .agg [.v (.int .i64 x1_0), .v (.int .i64 x1_1)], .v (.int .i64 value2)] [.var 75 [.v (.string B0), .nl, .rw 1, .rw 2, .rw 3, .nl, .nl], .row 82 B1 true, .row 208 B2 true, .row 85 B3 true]
abbrev xE2 : Type := (((Int × (Int × Unit)) × Unit) × ((ByteArray × (Unit × (Unit × (Unit × (Unit × (Unit × (Unit × Unit))))))) × ((List ua1) × ((List ua2) × ((List ua5) × Unit)))))
def u92 : Res E ((Int × (Int × Unit)) × Unit) ((ByteArray × (Unit × (Unit × (Unit × (Unit × (Unit × (Unit × Unit))))))) × ((List ua1) × ((List ua2) × ((List ua5) × Unit)))) := { rows := [], flat := [], keep := 1, done := [0], rl := (.cons (Rd.agg (.cons (Rd.int .i64) (.cons (Rd.int .i64) .nil))) .nil), rb := (.cons (.var 75 (.cons Rd.str (.cons Rd.nl (.cons (Rd.rw 1) (.cons (Rd.rw 2) (.cons (Rd.rw 3) (.cons Rd.nl (.cons Rd.nl .nil)))))))) (.cons (.row 82 true) (.cons (.row 208 true) (.cons (.row 85 true) .nil)))) }
def up0 : wk2 → Option xE2
 | .start x1_0 x1_1 value2 B0 B1 B2 B3 =>
  (uB2 (.start x1_1 value2 B0 B1 B2 B3)) >>= fun t1 =>
  (uh9 (.start (9 : Int) (1 : Int) (0 : Int) ([(⟨x1_0, x1_1⟩ : ua0), (⟨t1.1.1.1, t1.1.1.2.1⟩ : ua0)] : List ua0) t1.2.1.1 t1.2.2.1 t1.2.2.2.1 t1.2.2.2.2.1)) >>= fun t2 =>
  some (((t2.1.1.1, (t2.1.1.2.1, ())), ()), ((t2.2.1.1, ((), ((), ((), ((), ((), ((), ()))))))), (t2.2.2.1, (t2.2.2.2.1, (t2.2.2.2.2.1, ())))))
def w43 : List (Plc E wk2) := []
theorem wC0 : All (ub5 16 1 vs0 xz5) w43 := trivial
def wc4 : Code := Tryz.f132.body.getD .skip
def v26 : Spec E.S := (Con.add uw8 (Con.add vI6 ub3))
theorem vL5 : ub0 E v26 := (Con.add_ok uk3 (Con.add_ok ve3 ua6))
theorem xn6 : ∀ pt r, up0 pt = some r → Good E Tryz.f132 wc4 1 (u92.av r) (u92.bx r) (vs0 pt) (xz5 pt) := by
 intro pt r hr
 cases pt <;> exact ua8 (spec := v26) (wr := (mkWr [] [])) (l := w43) (z := 16) (p := u92) (run' := fun _ => none) E_ok wC0.mem rfl vL5 (fun _ _ h => by cases h) (Eq.trans (by kernel_rfl) hr)
def wU7 : Con E := ⟨132, _, _, (.cons (Rw.agg (.cons (Rd.bp 0 0).w .nil)) (.cons (Rw.agg (.cons (Rd.int .i64).w (.cons (Rd.int .i64).w .nil))) (.cons (Rd.int .i64).w .nil))), (.cons (.var 75 (.cons Rd.str (.cons Rd.nl (.cons (Rd.rw 1) (.cons (Rd.rw 2) (.cons (Rd.rw 3) (.cons Rd.nl (.cons Rd.nl .nil)))))))) (.cons (.row 82 true) (.cons (.row 208 true) (.cons (.row 85 true) .nil)))), 1, xE2, fun a b => up0 (.start a.2.1.1 a.2.1.2.1 a.2.2.1 b.1.1 b.2.1 b.2.2.1 b.2.2.2.1), u92.av, u92.bx⟩
theorem wE3 : wU7.Ok := fun a b r h => ub6 (fn := Tryz.f132) (code := wc4) E_ok (by kernel_rfl) (by kernel_rfl) (by kernel_rfl) (Nat.le_of_ble_eq_true rfl) (xn6 (.start a.2.1.1 a.2.1.2.1 a.2.2.1 b.1.1 b.2.1 b.2.2.1 b.2.2.2.1) r h)
inductive wG2 where
 | start (x1_0 : Int) (x1_1 : Int) (y2_0 : Int) (y2_1 : Int) (B0 : ByteArray) (B1 : (List ua1)) (B2 : (List ua2)) (B3 : (List ua5))
def vA8 : wG2 → List Bool
 | .start .. => []
def xB3 : wG2 → St E.S
 | .start x1_0 x1_1 y2_0 y2_1 B0 B1 B2 B3 => st0 14 [.agg [.bp 0 0], .agg [.v (.int .i64 x1_0), .v (.int .i64 x1_1)], .agg [.v (.int .i64 y2_0), .v (.int .i64 y2_1)]] [.var 75 [.v (.string B0), .nl, .rw 1, .rw 2, .rw 3, .nl, .nl], .row 82 B1 true, .row 208 B2 true, .row 85 B3 true]
abbrev xP1 : Type := (((Int × (Int × Unit)) × Unit) × ((ByteArray × (Unit × (Unit × (Unit × (Unit × (Unit × (Unit × Unit))))))) × ((List ua1) × ((List ua2) × ((List ua5) × Unit)))))
def uX0 : Res E ((Int × (Int × Unit)) × Unit) ((ByteArray × (Unit × (Unit × (Unit × (Unit × (Unit × (Unit × Unit))))))) × ((List ua1) × ((List ua2) × ((List ua5) × Unit)))) := { rows := [], flat := [], keep := 1, done := [0], rl := (.cons (Rd.agg (.cons (Rd.int .i64) (.cons (Rd.int .i64) .nil))) .nil), rb := (.cons (.var 75 (.cons Rd.str (.cons Rd.nl (.cons (Rd.rw 1) (.cons (Rd.rw 2) (.cons (Rd.rw 3) (.cons Rd.nl (.cons Rd.nl .nil)))))))) (.cons (.row 82 true) (.cons (.row 208 true) (.cons (.row 85 true) .nil)))) }
def uP7 : wG2 → Option xP1
 | .start x1_0 x1_1 y2_0 y2_1 B0 B1 B2 B3 =>
  (uh9 (.start (4 : Int) x1_1 (0 : Int) ([(⟨x1_0, x1_1⟩ : ua0), (⟨y2_0, y2_1⟩ : ua0)] : List ua0) B0 B1 B2 B3)) >>= fun t1 =>
  some (((t1.1.1.1, (t1.1.1.2.1, ())), ()), ((t1.2.1.1, ((), ((), ((), ((), ((), ((), ()))))))), (t1.2.2.1, (t1.2.2.2.1, (t1.2.2.2.2.1, ())))))
def xb6 : List (Plc E wG2) := []
theorem wD9 : All (ub5 14 1 vA8 xB3) xb6 := trivial
def vW6 : Code := Tryz.f164.body.getD .skip
def v73 : Spec E.S := (Con.add uw8 ub3)
theorem vP8 : ub0 E v73 := (Con.add_ok uk3 ua6)
theorem xo4 : ∀ pt r, uP7 pt = some r → Good E Tryz.f164 vW6 1 (uX0.av r) (uX0.bx r) (vA8 pt) (xB3 pt) := by
 intro pt r hr
 cases pt <;> exact ua8 (spec := v73) (wr := (mkWr [] [])) (l := xb6) (z := 14) (p := uX0) (run' := fun _ => none) E_ok wD9.mem rfl vP8 (fun _ _ h => by cases h) (Eq.trans (by kernel_rfl) hr)
def wS2 : Con E := ⟨164, _, _, (.cons (Rw.agg (.cons (Rd.bp 0 0).w .nil)) (.cons (Rw.agg (.cons (Rd.int .i64).w (.cons (Rd.int .i64).w .nil))) (.cons (Rw.agg (.cons (Rd.int .i64).w (.cons (Rd.int .i64).w .nil))) .nil))), (.cons (.var 75 (.cons Rd.str (.cons Rd.nl (.cons (Rd.rw 1) (.cons (Rd.rw 2) (.cons (Rd.rw 3) (.cons Rd.nl (.cons Rd.nl .nil)))))))) (.cons (.row 82 true) (.cons (.row 208 true) (.cons (.row 85 true) .nil)))), 1, xP1, fun a b => uP7 (.start a.2.1.1 a.2.1.2.1 a.2.2.1.1 a.2.2.1.2.1 b.1.1 b.2.1 b.2.2.1 b.2.2.2.1), uX0.av, uX0.bx⟩
theorem wu0 : wS2.Ok := fun a b r h => ub6 (fn := Tryz.f164) (code := vW6) E_ok (by kernel_rfl) (by kernel_rfl) (by kernel_rfl) (Nat.le_of_ble_eq_true rfl) (xo4 (.start a.2.1.1 a.2.1.2.1 a.2.2.1.1 a.2.2.1.2.1 b.1.1 b.2.1 b.2.2.1 b.2.2.2.1) r h)
inductive wv5 where
 | start (x1_0 : Int) (x1_1 : Int) (B0 : ByteArray) (B1 : (List ua1)) (B2 : (List ua2)) (B3 : (List ua5))
def vr4 : wv5 → List Bool
 | .start .. => []
def xw4 : wv5 → St E.S
 | .start x1_0 x1_1 B0 B1 B2 B3 => st0 11 [.agg [.bp 0 0], .agg [.v (.int .i64 x1_0), .v (.int .i64 x1_1)]] [.var 75 [.v (.string B0), .nl, .rw 1, .rw 2, .rw 3, .nl, .nl], .row 82 B1 true, .row 208 B2 true, .row 85 B3 true]
abbrev xI2 : Type := (((Int × (Int × Unit)) × Unit) × ((ByteArray × (Unit × (Unit × (Unit × (Unit × (Unit × (Unit × Unit))))))) × ((List ua1) × ((List ua2) × ((List ua5) × Unit)))))
def u33 : Res E ((Int × (Int × Unit)) × Unit) ((ByteArray × (Unit × (Unit × (Unit × (Unit × (Unit × (Unit × Unit))))))) × ((List ua1) × ((List ua2) × ((List ua5) × Unit)))) := { rows := [], flat := [], keep := 1, done := [0], rl := (.cons (Rd.agg (.cons (Rd.int .i64) (.cons (Rd.int .i64) .nil))) .nil), rb := (.cons (.var 75 (.cons Rd.str (.cons Rd.nl (.cons (Rd.rw 1) (.cons (Rd.rw 2) (.cons (Rd.rw 3) (.cons Rd.nl (.cons Rd.nl .nil)))))))) (.cons (.row 82 true) (.cons (.row 208 true) (.cons (.row 85 true) .nil)))) }
def uY3 : wv5 → Option xI2
 | .start x1_0 x1_1 B0 B1 B2 B3 =>
  (uh9 (.start (2 : Int) x1_1 (0 : Int) ([(⟨x1_0, x1_1⟩ : ua0)] : List ua0) B0 B1 B2 B3)) >>= fun t1 =>
  some (((t1.1.1.1, (t1.1.1.2.1, ())), ()), ((t1.2.1.1, ((), ((), ((), ((), ((), ((), ()))))))), (t1.2.2.1, (t1.2.2.2.1, (t1.2.2.2.2.1, ())))))
def w13 : List (Plc E wv5) := []
theorem wC5 : All (ub5 11 1 vr4 xw4) w13 := trivial
def we3 : Code := Tryz.f135.body.getD .skip
def wb5 : Spec E.S := (Con.add uw8 ub3)
theorem vQ8 : ub0 E wb5 := (Con.add_ok uk3 ua6)
theorem xq3 : ∀ pt r, uY3 pt = some r → Good E Tryz.f135 we3 1 (u33.av r) (u33.bx r) (vr4 pt) (xw4 pt) := by
 intro pt r hr
 cases pt <;> exact ua8 (spec := wb5) (wr := (mkWr [] [])) (l := w13) (z := 11) (p := u33) (run' := fun _ => none) E_ok wC5.mem rfl vQ8 (fun _ _ h => by cases h) (Eq.trans (by kernel_rfl) hr)
def wW8 : Con E := ⟨135, _, _, (.cons (Rw.agg (.cons (Rd.bp 0 0).w .nil)) (.cons (Rw.agg (.cons (Rd.int .i64).w (.cons (Rd.int .i64).w .nil))) .nil)), (.cons (.var 75 (.cons Rd.str (.cons Rd.nl (.cons (Rd.rw 1) (.cons (Rd.rw 2) (.cons (Rd.rw 3) (.cons Rd.nl (.cons Rd.nl .nil)))))))) (.cons (.row 82 true) (.cons (.row 208 true) (.cons (.row 85 true) .nil)))), 1, xI2, fun a b => uY3 (.start a.2.1.1 a.2.1.2.1 b.1.1 b.2.1 b.2.2.1 b.2.2.2.1), u33.av, u33.bx⟩
theorem wn9 : wW8.Ok := fun a b r h => ub6 (fn := Tryz.f135) (code := we3) E_ok (by kernel_rfl) (by kernel_rfl) (by kernel_rfl) (Nat.le_of_ble_eq_true rfl) (xq3 (.start a.2.1.1 a.2.1.2.1 b.1.1 b.2.1 b.2.2.1 b.2.2.2.1) r h)
inductive wp4 where
 | start (name1 : ByteArray) (guard2_0 : Int) (guard2_1 : Int) (writes3 : (List ub4)) (B0 : ByteArray) (B1 : (List ua1)) (B2 : (List ua2)) (B3 : (List ua5))
def vB1 : wp4 → List Bool
 | .start .. => []
def xy0 : wp4 → St E.S
 | .start name1 guard2_0 guard2_1 writes3 B0 B1 B2 B3 => st0 24 [.agg [.bp 0 0], .v (.string name1), .agg [.v (.int .i64 guard2_0), .v (.int .i64 guard2_1)], .sl 151 writes3 false] [.var 75 [.v (.string B0), .nl, .rw 1, .rw 2, .rw 3, .nl, .nl], .row 82 B1 true, .row 208 B2 true, .row 85 B3 true]
abbrev xR9 : Type := (Unit × ((ByteArray × (Unit × (Unit × (Unit × (Unit × (Unit × (Unit × Unit))))))) × ((List ua1) × ((List ua2) × ((List ua5) × Unit)))))
def vb4 : Res E Unit ((ByteArray × (Unit × (Unit × (Unit × (Unit × (Unit × (Unit × Unit))))))) × ((List ua1) × ((List ua2) × ((List ua5) × Unit)))) := { rows := [], flat := [], keep := 1, rl := .nil, rb := (.cons (.var 75 (.cons Rd.str (.cons Rd.nl (.cons (Rd.rw 1) (.cons (Rd.rw 2) (.cons (Rd.rw 3) (.cons Rd.nl (.cons Rd.nl .nil)))))))) (.cons (.row 82 true) (.cons (.row 208 true) (.cons (.row 85 true) .nil)))) }
def u38 : wp4 → Option xR9
 | .start name1 guard2_0 guard2_1 writes3 B0 B1 B2 B3 =>
  if (fits (List.length B3) (List.length ([(⟨name1, guard2_0, writes3⟩ : ua5)] : List ua5)) 48) = true then
   some ((), ((B0, ((), ((), ((), ((), ((), ((), ()))))))), (B1, (B2, (B3 ++ ([(⟨name1, guard2_0, writes3⟩ : ua5)] : List ua5), ())))))
  else none
def xe4 : List (Plc E wp4) := []
theorem wl1 : All (ub5 24 1 vB1 xy0) xe4 := trivial
def vX0 : Code := Tryz.f133.body.getD .skip
def wg8 : Spec E.S := ub3
theorem vV4 : ub0 E wg8 := ua6
theorem xo2 : ∀ pt r, u38 pt = some r → Good E Tryz.f133 vX0 1 (vb4.av r) (vb4.bx r) (vB1 pt) (xy0 pt) := by
 intro pt r hr
 cases pt <;> exact ua8 (spec := wg8) (wr := (mkWr [] [])) (l := xe4) (z := 24) (p := vb4) (run' := fun _ => none) E_ok wl1.mem rfl vV4 (fun _ _ h => by cases h) (Eq.trans (by kernel_rfl) hr)
def w53 : Con E := ⟨133, _, _, (.cons (Rw.agg (.cons (Rd.bp 0 0).w .nil)) (.cons Rd.str.w (.cons (Rw.agg (.cons (Rd.int .i64).w (.cons (Rd.int .i64).w .nil))) (.cons (Rw.sl 151) .nil)))), (.cons (.var 75 (.cons Rd.str (.cons Rd.nl (.cons (Rd.rw 1) (.cons (Rd.rw 2) (.cons (Rd.rw 3) (.cons Rd.nl (.cons Rd.nl .nil)))))))) (.cons (.row 82 true) (.cons (.row 208 true) (.cons (.row 85 true) .nil)))), 1, xR9, fun a b => u38 (.start a.2.1 a.2.2.1.1 a.2.2.1.2.1 a.2.2.2.1 b.1.1 b.2.1 b.2.2.1 b.2.2.2.1), vb4.av, vb4.bx⟩
theorem wu6 : w53.Ok := fun a b r h => ub6 (fn := Tryz.f133) (code := vX0) E_ok (by kernel_rfl) (by kernel_rfl) (by kernel_rfl) (Nat.le_of_ble_eq_true rfl) (xo2 (.start a.2.1 a.2.2.1.1 a.2.2.1.2.1 a.2.2.2.1 b.1.1 b.2.1 b.2.2.1 b.2.2.2.1) r h)
end
end Go.Proofs.YtjededkgblbamaaGreatDoor.Ev.F
