/- PRINTED by wip/gen/evp.py: what the functions come to. -/
import Derived.Test.YtcgkjbglijganaaDoorEvLib
import Derived.Test.YtcgkjbglijganaaDoorEvRun
import Derived.Test.YtcgkjbglijganaaDoorProg
set_option linter.unusedVariables false
namespace Go.Proofs.YtcgkjbglijganaaDoor.Ev.F
open Go.Proofs Go.Proofs.YtcgkjbglijganaaDoor.Ev

/-- api.Bits -/
structure api_Bits where
  Width : Int
  Value : Int
/-- [2]int -/
structure arr2_int where
  a0 : Int
  a1 : Int
noncomputable def S : Nat → Type
 | 3 => Int
 | 5 => Int
 | 23 => api_Bits
 | 25 => Int
 | 112 => Int
 | _ => Unit
noncomputable def pk (e : Nat) : Pk S (S e) :=
  if h : e = 3 then h ▸ ((Pk.int .i64) : Pk S Int) else
  if h : e = 5 then h ▸ ((Pk.int .u8) : Pk S Int) else
  if h : e = 23 then h ▸ ((Pk.iso (Pk.cons (Pk.int .i64) (Pk.cons (Pk.int .i64) Pk.unit)) (fun a => (⟨a.1, a.2.1⟩ : api_Bits)) (fun x => (x.Width, x.Value, ())) (fun _ => rfl)) : Pk S api_Bits) else
  if h : e = 25 then h ▸ ((Pk.int .i64) : Pk S Int) else
  if h : e = 112 then h ▸ ((Pk.int .u64) : Pk S Int) else
  Pk.no (Tryd.prog.cellsOf e)
theorem pk_len (e : Nat) : (pk e).len = Tryd.prog.cellsOf e := by
  unfold pk
  by_cases h : e = 3
  · subst h; kernel_rfl
  refine (congrArg Pk.len (dif_neg h)).trans ?_; clear h
  by_cases h : e = 5
  · subst h; kernel_rfl
  refine (congrArg Pk.len (dif_neg h)).trans ?_; clear h
  by_cases h : e = 23
  · subst h; kernel_rfl
  refine (congrArg Pk.len (dif_neg h)).trans ?_; clear h
  by_cases h : e = 25
  · subst h; kernel_rfl
  refine (congrArg Pk.len (dif_neg h)).trans ?_; clear h
  by_cases h : e = 112
  · subst h; kernel_rfl
  refine (congrArg Pk.len (dif_neg h)).trans ?_; clear h
  exact Pk.no_len _
noncomputable def plain : Nat → Bool := fun t => mem t [23, 32, 69]
noncomputable def byt (e : Nat) (s : ByteArray) : Option (List (S e)) := if h : e = 5 then some (h ▸ (strBytes s : List Int)) else none
theorem byt_ok : ∀ e s l, byt e s = some l → Tryd.prog.underlying e = some (.int .u8) ∧ l.length = s.size ∧ ∀ i x, l[i]? = some x → (pk e).wt x = [.v (.int .u8 ((s.data.toList.getD i 0).toNat : Int))] := by
  intro e s l h
  unfold byt at h
  split at h
  · rename_i he; subst he; obtain rfl := Option.some.inj h
    exact ⟨by kernel_rfl, (strBytes_ok s).1, fun i x hx => by rw [(strBytes_ok s).2 i x hx]; kernel_rfl⟩
  cases h
def glob0 : List Int := [0, 0, 98, 0, 0, 0, 0, 0, 0, 0, 100, 0, 0, 0, 0, 0, 104]
def glob1 : List Int := [0, 1, 28, 2, 29, 14, 24, 3, 30, 22, 20, 15, 25, 17, 4, 8, 31, 27, 13, 23, 21, 19, 16, 7, 26, 12, 18, 6, 11, 5, 10, 9]
def glob2 : List Int := [0, 1, 56, 2, 57, 49, 28, 3, 61, 58, 42, 50, 38, 29, 17, 4, 62, 47, 59, 36, 45, 43, 51, 22, 53, 39, 33, 30, 24, 18, 12, 5, 63, 55, 48, 27, 60, 41, 37, 16, 46, 35, 44, 21, 52, 32, 23, 11, 54, 26, 40, 15, 34, 20, 31, 10, 25, 14, 19, 9, 13, 8, 7, 6]
def glob6 : List Int := [1, 10, 100, 1000, 10000, 100000, 1000000, 10000000, 100000000, 1000000000, 10000000000, 100000000000, 1000000000000, 10000000000000, 100000000000000, 1000000000000000, 10000000000000000, 100000000000000000, 1000000000000000000, 10000000000000000000]
noncomputable def globs : Nat → Option (AV S)
 | 0 => some (.ar 5 glob0)
 | 1 => some (.ar 5 glob1)
 | 2 => some (.ar 5 glob2)
 | 6 => some (.ar 112 glob6)
 | _ => none
theorem globs_ok : ∀ g x, globs g = some x → idsV x = [] := by
  intro g x h
  unfold globs at h
  split at h <;> first | (cases h; done) | (obtain rfl := Option.some.inj h; rfl)
noncomputable abbrev E : Env := mkEnv Tryd.prog S pk globs plain byt
theorem E_ok : E.Ok := mkEnv_ok pk_len (by kernel_rfl) globs_ok (fun t h => mem_cases (Q := fun t => Tryd.prog.stoodInHeld t = false ∧ Tryd.prog.eqGuardType Tryd.prog.depth t = false) h ⟨⟨by kernel_rfl, by kernel_rfl⟩, ⟨⟨by kernel_rfl, by kernel_rfl⟩, ⟨⟨by kernel_rfl, by kernel_rfl⟩, trivial⟩⟩⟩) byt_ok
noncomputable def con_internal_bytealg_IndexByteString : Con E := conIndexByteString E 128
theorem con_internal_bytealg_IndexByteString_ok : con_internal_bytealg_IndexByteString.Ok := conIndexByteString_ok 128 (fn := Tryd.f128) (by kernel_rfl) (by kernel_rfl) (by kernel_rfl) (by kernel_rfl) (by kernel_rfl)
noncomputable def base : Spec E.S := (Con.add con_internal_bytealg_IndexByteString noSpec)
theorem base_ok : SpecOk E base := (Con.add_ok con_internal_bytealg_IndexByteString_ok noSpec_ok)
noncomputable def con_ratchetlaw01_awake : Con E := conConst E 11 (.v (.bool true))
noncomputable def wrs_ratchetlaw01_awake : Nat → List Nat
 | 116 => [5]
 | 126 => [0, 17, 42, 45, 55, 58, 68, 71, 81, 84, 110, 113, 123, 126, 145, 148, 162]
 | 127 => [12]
 | _ => []
theorem con_ratchetlaw01_awake_ok : con_ratchetlaw01_awake.Ok := conConst_ok E_ok base_ok wrs_ratchetlaw01_awake 40 14 (ys := [.v (.bool true)]) rfl (by kernel_rfl)

/-! ### ratchet/bits.within -/
inductive P_bits_within where
 | start (n0 : Int) (lo1 : Int) (hi2 : Int)
noncomputable def place_bits_within : P_bits_within → List Bool
 | .start .. => []
noncomputable def st_bits_within : P_bits_within → St E.S
 | .start n0 lo1 hi2 => st0 15 [.v (.int .i64 n0), .v (.int .i64 lo1), .v (.int .i64 hi2)] []
abbrev R_bits_within : Type := ((Bool × Unit) × Unit)
noncomputable def res_bits_within : Res E (Bool × Unit) Unit := { rows := [], flat := [], keep := 0, rl := (RdL.cons Rd.bool RdL.nil), rb := RdBL.nil }
noncomputable def run_bits_within : P_bits_within → Option R_bits_within
 | .start n0 lo1 hi2 =>
   if (decide (lo1 ≤ n0)) = true then
     some ((decide (n0 ≤ hi2), ()), ())
   else
     some ((false, ()), ())
noncomputable def tab_bits_within : List (Plc E P_bits_within) := []
theorem tab_bits_within_ok : All (PlcOk 15 0 place_bits_within st_bits_within) tab_bits_within := trivial
noncomputable def spec_bits_within : Spec E.S := noSpec
theorem spec_bits_within_ok : SpecOk E spec_bits_within := noSpec_ok
noncomputable def code_bits_within : Code := Tryd.f63.body.getD .skip
theorem good_bits_within : ∀ pt r, run_bits_within pt = some r → Good E Tryd.f63 code_bits_within 0 (res_bits_within.av r) (res_bits_within.bx r) (place_bits_within pt) (st_bits_within pt) := by
  intro pt r hr
  cases pt <;> exact fn_step (spec := spec_bits_within) (wr := (fun i => mem i [])) (l := tab_bits_within) (z := 15) (p := res_bits_within) (run' := fun _ => none) E_ok tab_bits_within_ok.mem rfl spec_bits_within_ok (fun _ _ h => by cases h) (Eq.trans (by kernel_rfl) hr)
noncomputable def con_bits_within : Con E := ⟨63, (Int × (Int × (Int × Unit))), Unit, (RwL.cons (Rd.int .i64).w (RwL.cons (Rd.int .i64).w (RwL.cons (Rd.int .i64).w RwL.nil))), RdBL.nil, 0, R_bits_within, fun a b => run_bits_within (.start a.1 a.2.1 a.2.2.1), res_bits_within.av, res_bits_within.bx⟩
theorem con_bits_within_ok : con_bits_within.Ok := fun a b r h => fn_ok (fn := Tryd.f63) (code := code_bits_within) E_ok (by kernel_rfl) (by kernel_rfl) (by kernel_rfl) (Nat.le_of_ble_eq_true rfl) (good_bits_within (.start a.1 a.2.1 a.2.2.1) r h)

/-! ### ratchet/bits.isWidth -/
inductive P_bits_isWidth where
 | start (n0 : Int)
noncomputable def place_bits_isWidth : P_bits_isWidth → List Bool
 | .start .. => []
noncomputable def st_bits_isWidth : P_bits_isWidth → St E.S
 | .start n0 => st0 5 [.v (.int .i64 n0)] []
abbrev R_bits_isWidth : Type := ((Bool × Unit) × Unit)
noncomputable def res_bits_isWidth : Res E (Bool × Unit) Unit := { rows := [], flat := [], keep := 0, rl := (RdL.cons Rd.bool RdL.nil), rb := RdBL.nil }
noncomputable def run_bits_isWidth : P_bits_isWidth → Option R_bits_isWidth
 | .start n0 =>
   (run_bits_within (.start n0 (1 : Int) (16 : Int))) >>= fun t1 =>
   some ((t1.1.1, ()), ())
noncomputable def tab_bits_isWidth : List (Plc E P_bits_isWidth) := []
theorem tab_bits_isWidth_ok : All (PlcOk 5 0 place_bits_isWidth st_bits_isWidth) tab_bits_isWidth := trivial
noncomputable def spec_bits_isWidth : Spec E.S := (Con.add con_bits_within noSpec)
theorem spec_bits_isWidth_ok : SpecOk E spec_bits_isWidth := (Con.add_ok con_bits_within_ok noSpec_ok)
noncomputable def code_bits_isWidth : Code := Tryd.f77.body.getD .skip
theorem good_bits_isWidth : ∀ pt r, run_bits_isWidth pt = some r → Good E Tryd.f77 code_bits_isWidth 0 (res_bits_isWidth.av r) (res_bits_isWidth.bx r) (place_bits_isWidth pt) (st_bits_isWidth pt) := by
  intro pt r hr
  cases pt <;> exact fn_step (spec := spec_bits_isWidth) (wr := (fun i => mem i [])) (l := tab_bits_isWidth) (z := 5) (p := res_bits_isWidth) (run' := fun _ => none) E_ok tab_bits_isWidth_ok.mem rfl spec_bits_isWidth_ok (fun _ _ h => by cases h) (Eq.trans (by kernel_rfl) hr)
noncomputable def con_bits_isWidth : Con E := ⟨77, (Int × Unit), Unit, (RwL.cons (Rd.int .i64).w RwL.nil), RdBL.nil, 0, R_bits_isWidth, fun a b => run_bits_isWidth (.start a.1), res_bits_isWidth.av, res_bits_isWidth.bx⟩
theorem con_bits_isWidth_ok : con_bits_isWidth.Ok := fun a b r h => fn_ok (fn := Tryd.f77) (code := code_bits_isWidth) E_ok (by kernel_rfl) (by kernel_rfl) (by kernel_rfl) (Nat.le_of_ble_eq_true rfl) (good_bits_isWidth (.start a.1) r h)

/-! ### ratchet/bits.unless -/
inductive P_bits_unless where
 | start (ok0 : Bool) (e1 : Int)
noncomputable def place_bits_unless : P_bits_unless → List Bool
 | .start .. => []
noncomputable def st_bits_unless : P_bits_unless → St E.S
 | .start ok0 e1 => st0 7 [.v (.bool ok0), .v (.int .i64 e1)] []
abbrev R_bits_unless : Type := ((Int × Unit) × Unit)
noncomputable def res_bits_unless : Res E (Int × Unit) Unit := { rows := [], flat := [], keep := 0, rl := (RdL.cons (Rd.int .i64) RdL.nil), rb := RdBL.nil }
noncomputable def run_bits_unless : P_bits_unless → Option R_bits_unless
 | .start ok0 e1 =>
   if ok0 = true then
     some (((0 : Int), ()), ())
   else
     some ((e1, ()), ())
noncomputable def tab_bits_unless : List (Plc E P_bits_unless) := []
theorem tab_bits_unless_ok : All (PlcOk 7 0 place_bits_unless st_bits_unless) tab_bits_unless := trivial
noncomputable def spec_bits_unless : Spec E.S := noSpec
theorem spec_bits_unless_ok : SpecOk E spec_bits_unless := noSpec_ok
noncomputable def code_bits_unless : Code := Tryd.f62.body.getD .skip
theorem good_bits_unless : ∀ pt r, run_bits_unless pt = some r → Good E Tryd.f62 code_bits_unless 0 (res_bits_unless.av r) (res_bits_unless.bx r) (place_bits_unless pt) (st_bits_unless pt) := by
  intro pt r hr
  cases pt <;> exact fn_step (spec := spec_bits_unless) (wr := (fun i => mem i [])) (l := tab_bits_unless) (z := 7) (p := res_bits_unless) (run' := fun _ => none) E_ok tab_bits_unless_ok.mem rfl spec_bits_unless_ok (fun _ _ h => by cases h) (Eq.trans (by kernel_rfl) hr)
noncomputable def con_bits_unless : Con E := ⟨62, (Bool × (Int × Unit)), Unit, (RwL.cons Rd.bool.w (RwL.cons (Rd.int .i64).w RwL.nil)), RdBL.nil, 0, R_bits_unless, fun a b => run_bits_unless (.start a.1 a.2.1), res_bits_unless.av, res_bits_unless.bx⟩
theorem con_bits_unless_ok : con_bits_unless.Ok := fun a b r h => fn_ok (fn := Tryd.f62) (code := code_bits_unless) E_ok (by kernel_rfl) (by kernel_rfl) (by kernel_rfl) (Nat.le_of_ble_eq_true rfl) (good_bits_unless (.start a.1 a.2.1) r h)

/-! ### ratchet/bits.CheckBits -/
inductive P_bits_CheckBits where
 | start (x0_0 : Int) (x0_1 : Int)
noncomputable def place_bits_CheckBits : P_bits_CheckBits → List Bool
 | .start .. => []
noncomputable def st_bits_CheckBits : P_bits_CheckBits → St E.S
 | .start x0_0 x0_1 => st0 15 [.agg [.v (.int .i64 x0_0), .v (.int .i64 x0_1)]] []
abbrev R_bits_CheckBits : Type := ((Int × Unit) × Unit)
noncomputable def res_bits_CheckBits : Res E (Int × Unit) Unit := { rows := [], flat := [], keep := 0, rl := (RdL.cons (Rd.int .i64) RdL.nil), rb := RdBL.nil }
noncomputable def run_bits_CheckBits : P_bits_CheckBits → Option R_bits_CheckBits
 | .start x0_0 x0_1 =>
   (run_bits_isWidth (.start x0_0)) >>= fun t1 =>
   if (!t1.1.1) = true then
     some (((25 : Int), ()), ())
   else
     if (decide ((0 : Int) ≤ x0_0)) = true then
       (run_bits_within (.start x0_1 (0 : Int) (IntKind.wrap .i64 ((shl .i64 (1 : Int) x0_0) - (1 : Int))))) >>= fun t2 =>
       (run_bits_unless (.start t2.1.1 (2 : Int))) >>= fun t3 =>
       some ((t3.1.1, ()), ())
     else none
noncomputable def tab_bits_CheckBits : List (Plc E P_bits_CheckBits) := []
theorem tab_bits_CheckBits_ok : All (PlcOk 15 0 place_bits_CheckBits st_bits_CheckBits) tab_bits_CheckBits := trivial
noncomputable def spec_bits_CheckBits : Spec E.S := (Con.add con_bits_unless (Con.add con_bits_within (Con.add con_bits_isWidth noSpec)))
theorem spec_bits_CheckBits_ok : SpecOk E spec_bits_CheckBits := (Con.add_ok con_bits_unless_ok (Con.add_ok con_bits_within_ok (Con.add_ok con_bits_isWidth_ok noSpec_ok)))
noncomputable def code_bits_CheckBits : Code := Tryd.f17.body.getD .skip
theorem good_bits_CheckBits : ∀ pt r, run_bits_CheckBits pt = some r → Good E Tryd.f17 code_bits_CheckBits 0 (res_bits_CheckBits.av r) (res_bits_CheckBits.bx r) (place_bits_CheckBits pt) (st_bits_CheckBits pt) := by
  intro pt r hr
  cases pt <;> exact fn_step (spec := spec_bits_CheckBits) (wr := (fun i => mem i [])) (l := tab_bits_CheckBits) (z := 15) (p := res_bits_CheckBits) (run' := fun _ => none) E_ok tab_bits_CheckBits_ok.mem rfl spec_bits_CheckBits_ok (fun _ _ h => by cases h) (Eq.trans (by kernel_rfl) hr)
noncomputable def con_bits_CheckBits : Con E := ⟨17, ((Int × (Int × Unit)) × Unit), Unit, (RwL.cons (Rw.agg (RwL.cons (Rd.int .i64).w (RwL.cons (Rd.int .i64).w RwL.nil))) RwL.nil), RdBL.nil, 0, R_bits_CheckBits, fun a b => run_bits_CheckBits (.start a.1.1 a.1.2.1), res_bits_CheckBits.av, res_bits_CheckBits.bx⟩
theorem con_bits_CheckBits_ok : con_bits_CheckBits.Ok := fun a b r h => fn_ok (fn := Tryd.f17) (code := code_bits_CheckBits) E_ok (by kernel_rfl) (by kernel_rfl) (by kernel_rfl) (Nat.le_of_ble_eq_true rfl) (good_bits_CheckBits (.start a.1.1 a.1.2.1) r h)

/-! ### ratchet/bits.first -/
inductive P_bits_first where
 | start (l0 : (List Int))
 | p52 (s5 : (List Int)) (s6 : Int) (s7 : Int)
noncomputable def place_bits_first : P_bits_first → List Bool
 | .start .. => []
 | .p52 .. => [false, false, true, false, true]
noncomputable def st_bits_first : P_bits_first → St E.S
 | .start l0 => st0 15 [.sl 25 l0 false] []
 | .p52 s5 s6 s7 => mkSt 15 [5, 6, 7] [.sl 25 s5 false, .v (.int .i64 s6), .v (.int .i64 s7)] []
abbrev R_bits_first : Type := ((Int × Unit) × Unit)
noncomputable def res_bits_first : Res E (Int × Unit) Unit := { rows := [], flat := [], keep := 0, rl := (RdL.cons (Rd.int .i64) RdL.nil), rb := RdBL.nil }
noncomputable def run_bits_first : P_bits_first → Option R_bits_first
 | .start l0 =>
   run_bits_first (.p52 l0 (List.length l0 : Int) (0 : Int))
 | .p52 s5 s6 s7 =>
   if (decide (s7 < s6)) = true then
     (idx s5 s7) >>= fun t1 =>
     if (t1 != (0 : Int)) = true then
       some ((t1, ()), ())
     else
       run_bits_first (.p52 s5 s6 (IntKind.wrap .i64 (s7 + (1 : Int))))
   else
     some (((0 : Int), ()), ())
  partial_fixpoint
noncomputable def tab_bits_first : List (Plc E P_bits_first) := [⟨52, [false, false, true, false, true], { slots := [5, 6, 7], rows := [], flat := [], keep := 0 }, ((List Int) × (Int × (Int × Unit))), Unit, (RdL.cons (Rd.sl 25 false) (RdL.cons (Rd.int .i64) (RdL.cons (Rd.int .i64) RdL.nil))), RdBL.nil, fun a b => .p52 a.1 a.2.1 a.2.2.1⟩]
theorem tab_bits_first_ok : All (PlcOk 15 0 place_bits_first st_bits_first) tab_bits_first := ⟨⟨rfl, rfl, fun _ _ => rfl, fun _ _ => rfl⟩, trivial⟩
noncomputable def spec_bits_first : Spec E.S := noSpec
theorem spec_bits_first_ok : SpecOk E spec_bits_first := noSpec_ok
noncomputable def code_bits_first : Code := Tryd.f61.body.getD .skip
theorem good_bits_first : ∀ pt r, run_bits_first pt = some r → Good E Tryd.f61 code_bits_first 0 (res_bits_first.av r) (res_bits_first.bx r) (place_bits_first pt) (st_bits_first pt) := by
  refine run_bits_first.partial_correctness (fun pt r => Good E Tryd.f61 code_bits_first 0 (res_bits_first.av r) (res_bits_first.bx r) (place_bits_first pt) (st_bits_first pt)) ?_
  intro run' ih pt r hr
  cases pt <;> exact fn_step (spec := spec_bits_first) (wr := (fun i => mem i [])) (l := tab_bits_first) (z := 15) (p := res_bits_first) E_ok tab_bits_first_ok.mem rfl spec_bits_first_ok ih (Eq.trans (by kernel_rfl) hr)
noncomputable def con_bits_first : Con E := ⟨61, ((List Int) × Unit), Unit, (RwL.cons (Rw.sl 25) RwL.nil), RdBL.nil, 0, R_bits_first, fun a b => run_bits_first (.start a.1), res_bits_first.av, res_bits_first.bx⟩
theorem con_bits_first_ok : con_bits_first.Ok := fun a b r h => fn_ok (fn := Tryd.f61) (code := code_bits_first) E_ok (by kernel_rfl) (by kernel_rfl) (by kernel_rfl) (Nat.le_of_ble_eq_true rfl) (good_bits_first (.start a.1) r h)

/-! ### ratchet/bits.of -/
inductive P_bits_of where
 | start (n0 : Int) (width1 : Int)
noncomputable def place_bits_of : P_bits_of → List Bool
 | .start .. => []
noncomputable def st_bits_of : P_bits_of → St E.S
 | .start n0 width1 => st0 13 [.v (.int .i64 n0), .v (.int .i64 width1)] []
abbrev R_bits_of : Type := (((Int × (Int × Unit)) × Unit) × Unit)
noncomputable def res_bits_of : Res E ((Int × (Int × Unit)) × Unit) Unit := { rows := [], flat := [], keep := 0, rl := (RdL.cons (Rd.agg (RdL.cons (Rd.int .i64) (RdL.cons (Rd.int .i64) RdL.nil))) RdL.nil), rb := RdBL.nil }
noncomputable def run_bits_of : P_bits_of → Option R_bits_of
 | .start n0 width1 =>
   if (decide ((0 : Int) ≤ width1)) = true then
     some (((width1, (bits .and .i64 n0 (IntKind.wrap .i64 ((shl .i64 (1 : Int) width1) - (1 : Int))), ())), ()), ())
   else none
noncomputable def tab_bits_of : List (Plc E P_bits_of) := []
theorem tab_bits_of_ok : All (PlcOk 13 0 place_bits_of st_bits_of) tab_bits_of := trivial
noncomputable def spec_bits_of : Spec E.S := noSpec
theorem spec_bits_of_ok : SpecOk E spec_bits_of := noSpec_ok
noncomputable def code_bits_of : Code := Tryd.f65.body.getD .skip
theorem good_bits_of : ∀ pt r, run_bits_of pt = some r → Good E Tryd.f65 code_bits_of 0 (res_bits_of.av r) (res_bits_of.bx r) (place_bits_of pt) (st_bits_of pt) := by
  intro pt r hr
  cases pt <;> exact fn_step (spec := spec_bits_of) (wr := (fun i => mem i [])) (l := tab_bits_of) (z := 13) (p := res_bits_of) (run' := fun _ => none) E_ok tab_bits_of_ok.mem rfl spec_bits_of_ok (fun _ _ h => by cases h) (Eq.trans (by kernel_rfl) hr)
noncomputable def con_bits_of : Con E := ⟨65, (Int × (Int × Unit)), Unit, (RwL.cons (Rd.int .i64).w (RwL.cons (Rd.int .i64).w RwL.nil)), RdBL.nil, 0, R_bits_of, fun a b => run_bits_of (.start a.1 a.2.1), res_bits_of.av, res_bits_of.bx⟩
theorem con_bits_of_ok : con_bits_of.Ok := fun a b r h => fn_ok (fn := Tryd.f65) (code := code_bits_of) E_ok (by kernel_rfl) (by kernel_rfl) (by kernel_rfl) (Nat.le_of_ble_eq_true rfl) (good_bits_of (.start a.1 a.2.1) r h)

/-! ### ratchet/bits.Shifted$1 -/
inductive P_bits_Shifted_1 where
 | start (B0_0 : Int) (B0_1 : Int) (B1 : Int)
noncomputable def place_bits_Shifted_1 : P_bits_Shifted_1 → List Bool
 | .start .. => []
noncomputable def st_bits_Shifted_1 : P_bits_Shifted_1 → St E.S
 | .start B0_0 B0_1 B1 => st0 12 [.bp 0 0, .bp 1 0] [.var 82 [.v (.int .i64 B0_0), .v (.int .i64 B0_1)], .var 3 [.v (.int .i64 B1)]]
abbrev R_bits_Shifted_1 : Type := (((Int × (Int × Unit)) × Unit) × ((Int × (Int × Unit)) × ((Int × Unit) × Unit)))
noncomputable def res_bits_Shifted_1 : Res E ((Int × (Int × Unit)) × Unit) ((Int × (Int × Unit)) × ((Int × Unit) × Unit)) := { rows := [], flat := [], keep := 2, rl := (RdL.cons (Rd.agg (RdL.cons (Rd.int .i64) (RdL.cons (Rd.int .i64) RdL.nil))) RdL.nil), rb := (RdBL.cons (RdB.var 82 (RdL.cons (Rd.int .i64) (RdL.cons (Rd.int .i64) RdL.nil))) (RdBL.cons (RdB.var 3 (RdL.cons (Rd.int .i64) RdL.nil)) RdBL.nil)) }
noncomputable def run_bits_Shifted_1 : P_bits_Shifted_1 → Option R_bits_Shifted_1
 | .start B0_0 B0_1 B1 =>
   if (decide ((0 : Int) ≤ B1)) = true then
     (run_bits_of (.start (shl .i64 B0_1 B1) B0_0)) >>= fun t1 =>
     some (((t1.1.1.1, (t1.1.1.2.1, ())), ()), ((B0_0, (B0_1, ())), ((B1, ()), ())))
   else none
noncomputable def tab_bits_Shifted_1 : List (Plc E P_bits_Shifted_1) := []
theorem tab_bits_Shifted_1_ok : All (PlcOk 12 2 place_bits_Shifted_1 st_bits_Shifted_1) tab_bits_Shifted_1 := trivial
noncomputable def spec_bits_Shifted_1 : Spec E.S := (Con.add con_bits_of noSpec)
theorem spec_bits_Shifted_1_ok : SpecOk E spec_bits_Shifted_1 := (Con.add_ok con_bits_of_ok noSpec_ok)
noncomputable def code_bits_Shifted_1 : Code := Tryd.f64.body.getD .skip
theorem good_bits_Shifted_1 : ∀ pt r, run_bits_Shifted_1 pt = some r → Good E Tryd.f64 code_bits_Shifted_1 2 (res_bits_Shifted_1.av r) (res_bits_Shifted_1.bx r) (place_bits_Shifted_1 pt) (st_bits_Shifted_1 pt) := by
  intro pt r hr
  cases pt <;> exact fn_step (spec := spec_bits_Shifted_1) (wr := (fun i => mem i [])) (l := tab_bits_Shifted_1) (z := 12) (p := res_bits_Shifted_1) (run' := fun _ => none) E_ok tab_bits_Shifted_1_ok.mem rfl spec_bits_Shifted_1_ok (fun _ _ h => by cases h) (Eq.trans (by kernel_rfl) hr)
noncomputable def con_bits_Shifted_1 : Con E := ⟨64, (Unit × (Unit × Unit)), ((Int × (Int × Unit)) × ((Int × Unit) × Unit)), (RwL.cons (Rd.bp 0 0).w (RwL.cons (Rd.bp 1 0).w RwL.nil)), (RdBL.cons (RdB.var 82 (RdL.cons (Rd.int .i64) (RdL.cons (Rd.int .i64) RdL.nil))) (RdBL.cons (RdB.var 3 (RdL.cons (Rd.int .i64) RdL.nil)) RdBL.nil)), 2, R_bits_Shifted_1, fun a b => run_bits_Shifted_1 (.start b.1.1 b.1.2.1 b.2.1.1), res_bits_Shifted_1.av, res_bits_Shifted_1.bx⟩
theorem con_bits_Shifted_1_ok : con_bits_Shifted_1.Ok := fun a b r h => fn_ok (fn := Tryd.f64) (code := code_bits_Shifted_1) E_ok (by kernel_rfl) (by kernel_rfl) (by kernel_rfl) (Nat.le_of_ble_eq_true rfl) (good_bits_Shifted_1 (.start b.1.1 b.1.2.1 b.2.1.1) r h)

/-! ### ratchet/bits.Shifted$2 -/
inductive P_bits_Shifted_2 where
 | start (B0_0 : Int) (B0_1 : Int) (B1 : Int)
noncomputable def place_bits_Shifted_2 : P_bits_Shifted_2 → List Bool
 | .start .. => []
noncomputable def st_bits_Shifted_2 : P_bits_Shifted_2 → St E.S
 | .start B0_0 B0_1 B1 => st0 12 [.bp 0 0, .bp 1 0] [.var 82 [.v (.int .i64 B0_0), .v (.int .i64 B0_1)], .var 3 [.v (.int .i64 B1)]]
abbrev R_bits_Shifted_2 : Type := (((Int × (Int × Unit)) × Unit) × ((Int × (Int × Unit)) × ((Int × Unit) × Unit)))
noncomputable def res_bits_Shifted_2 : Res E ((Int × (Int × Unit)) × Unit) ((Int × (Int × Unit)) × ((Int × Unit) × Unit)) := { rows := [], flat := [], keep := 2, rl := (RdL.cons (Rd.agg (RdL.cons (Rd.int .i64) (RdL.cons (Rd.int .i64) RdL.nil))) RdL.nil), rb := (RdBL.cons (RdB.var 82 (RdL.cons (Rd.int .i64) (RdL.cons (Rd.int .i64) RdL.nil))) (RdBL.cons (RdB.var 3 (RdL.cons (Rd.int .i64) RdL.nil)) RdBL.nil)) }
noncomputable def run_bits_Shifted_2 : P_bits_Shifted_2 → Option R_bits_Shifted_2
 | .start B0_0 B0_1 B1 =>
   if (decide ((0 : Int) ≤ B1)) = true then
     (run_bits_of (.start (shr .i64 B0_1 B1) B0_0)) >>= fun t1 =>
     some (((t1.1.1.1, (t1.1.1.2.1, ())), ()), ((B0_0, (B0_1, ())), ((B1, ()), ())))
   else none
noncomputable def tab_bits_Shifted_2 : List (Plc E P_bits_Shifted_2) := []
theorem tab_bits_Shifted_2_ok : All (PlcOk 12 2 place_bits_Shifted_2 st_bits_Shifted_2) tab_bits_Shifted_2 := trivial
noncomputable def spec_bits_Shifted_2 : Spec E.S := (Con.add con_bits_of noSpec)
theorem spec_bits_Shifted_2_ok : SpecOk E spec_bits_Shifted_2 := (Con.add_ok con_bits_of_ok noSpec_ok)
noncomputable def code_bits_Shifted_2 : Code := Tryd.f66.body.getD .skip
theorem good_bits_Shifted_2 : ∀ pt r, run_bits_Shifted_2 pt = some r → Good E Tryd.f66 code_bits_Shifted_2 2 (res_bits_Shifted_2.av r) (res_bits_Shifted_2.bx r) (place_bits_Shifted_2 pt) (st_bits_Shifted_2 pt) := by
  intro pt r hr
  cases pt <;> exact fn_step (spec := spec_bits_Shifted_2) (wr := (fun i => mem i [])) (l := tab_bits_Shifted_2) (z := 12) (p := res_bits_Shifted_2) (run' := fun _ => none) E_ok tab_bits_Shifted_2_ok.mem rfl spec_bits_Shifted_2_ok (fun _ _ h => by cases h) (Eq.trans (by kernel_rfl) hr)
noncomputable def con_bits_Shifted_2 : Con E := ⟨66, (Unit × (Unit × Unit)), ((Int × (Int × Unit)) × ((Int × Unit) × Unit)), (RwL.cons (Rd.bp 0 0).w (RwL.cons (Rd.bp 1 0).w RwL.nil)), (RdBL.cons (RdB.var 82 (RdL.cons (Rd.int .i64) (RdL.cons (Rd.int .i64) RdL.nil))) (RdBL.cons (RdB.var 3 (RdL.cons (Rd.int .i64) RdL.nil)) RdBL.nil)), 2, R_bits_Shifted_2, fun a b => run_bits_Shifted_2 (.start b.1.1 b.1.2.1 b.2.1.1), res_bits_Shifted_2.av, res_bits_Shifted_2.bx⟩
theorem con_bits_Shifted_2_ok : con_bits_Shifted_2.Ok := fun a b r h => fn_ok (fn := Tryd.f66) (code := code_bits_Shifted_2) E_ok (by kernel_rfl) (by kernel_rfl) (by kernel_rfl) (Nat.le_of_ble_eq_true rfl) (good_bits_Shifted_2 (.start b.1.1 b.1.2.1 b.2.1.1) r h)

/-! ### (ratchet/bits.word).top -/
inductive P_bits_word_top where
 | start (w0_0 : Int) (w0_1 : Int)
noncomputable def place_bits_word_top : P_bits_word_top → List Bool
 | .start .. => []
noncomputable def st_bits_word_top : P_bits_word_top → St E.S
 | .start w0_0 w0_1 => st0 11 [.agg [.v (.int .i64 w0_0), .v (.int .i64 w0_1)]] []
abbrev R_bits_word_top : Type := ((Int × Unit) × Unit)
noncomputable def res_bits_word_top : Res E (Int × Unit) Unit := { rows := [], flat := [], keep := 0, rl := (RdL.cons (Rd.int .i64) RdL.nil), rb := RdBL.nil }
noncomputable def run_bits_word_top : P_bits_word_top → Option R_bits_word_top
 | .start w0_0 w0_1 =>
   if (decide ((0 : Int) ≤ (IntKind.wrap .i64 (w0_0 - (1 : Int))))) = true then
     some ((shr .i64 w0_1 (IntKind.wrap .i64 (w0_0 - (1 : Int))), ()), ())
   else none
noncomputable def tab_bits_word_top : List (Plc E P_bits_word_top) := []
theorem tab_bits_word_top_ok : All (PlcOk 11 0 place_bits_word_top st_bits_word_top) tab_bits_word_top := trivial
noncomputable def spec_bits_word_top : Spec E.S := noSpec
theorem spec_bits_word_top_ok : SpecOk E spec_bits_word_top := noSpec_ok
noncomputable def code_bits_word_top : Code := Tryd.f95.body.getD .skip
theorem good_bits_word_top : ∀ pt r, run_bits_word_top pt = some r → Good E Tryd.f95 code_bits_word_top 0 (res_bits_word_top.av r) (res_bits_word_top.bx r) (place_bits_word_top pt) (st_bits_word_top pt) := by
  intro pt r hr
  cases pt <;> exact fn_step (spec := spec_bits_word_top) (wr := (fun i => mem i [])) (l := tab_bits_word_top) (z := 11) (p := res_bits_word_top) (run' := fun _ => none) E_ok tab_bits_word_top_ok.mem rfl spec_bits_word_top_ok (fun _ _ h => by cases h) (Eq.trans (by kernel_rfl) hr)
noncomputable def con_bits_word_top : Con E := ⟨95, ((Int × (Int × Unit)) × Unit), Unit, (RwL.cons (Rw.agg (RwL.cons (Rd.int .i64).w (RwL.cons (Rd.int .i64).w RwL.nil))) RwL.nil), RdBL.nil, 0, R_bits_word_top, fun a b => run_bits_word_top (.start a.1.1 a.1.2.1), res_bits_word_top.av, res_bits_word_top.bx⟩
theorem con_bits_word_top_ok : con_bits_word_top.Ok := fun a b r h => fn_ok (fn := Tryd.f95) (code := code_bits_word_top) E_ok (by kernel_rfl) (by kernel_rfl) (by kernel_rfl) (Nat.le_of_ble_eq_true rfl) (good_bits_word_top (.start a.1.1 a.1.2.1) r h)

/-! ### (ratchet/bits.word).signed -/
inductive P_bits_word_signed where
 | start (w0_0 : Int) (w0_1 : Int)
noncomputable def place_bits_word_signed : P_bits_word_signed → List Bool
 | .start .. => []
noncomputable def st_bits_word_signed : P_bits_word_signed → St E.S
 | .start w0_0 w0_1 => st0 13 [.agg [.v (.int .i64 w0_0), .v (.int .i64 w0_1)]] []
abbrev R_bits_word_signed : Type := ((Int × Unit) × Unit)
noncomputable def res_bits_word_signed : Res E (Int × Unit) Unit := { rows := [], flat := [], keep := 0, rl := (RdL.cons (Rd.int .i64) RdL.nil), rb := RdBL.nil }
noncomputable def run_bits_word_signed : P_bits_word_signed → Option R_bits_word_signed
 | .start w0_0 w0_1 =>
   (run_bits_word_top (.start w0_0 w0_1)) >>= fun t1 =>
   if (decide ((0 : Int) ≤ w0_0)) = true then
     some ((IntKind.wrap .i64 (w0_1 - (shl .i64 t1.1.1 w0_0)), ()), ())
   else none
noncomputable def tab_bits_word_signed : List (Plc E P_bits_word_signed) := []
theorem tab_bits_word_signed_ok : All (PlcOk 13 0 place_bits_word_signed st_bits_word_signed) tab_bits_word_signed := trivial
noncomputable def spec_bits_word_signed : Spec E.S := (Con.add con_bits_word_top noSpec)
theorem spec_bits_word_signed_ok : SpecOk E spec_bits_word_signed := (Con.add_ok con_bits_word_top_ok noSpec_ok)
noncomputable def code_bits_word_signed : Code := Tryd.f68.body.getD .skip
theorem good_bits_word_signed : ∀ pt r, run_bits_word_signed pt = some r → Good E Tryd.f68 code_bits_word_signed 0 (res_bits_word_signed.av r) (res_bits_word_signed.bx r) (place_bits_word_signed pt) (st_bits_word_signed pt) := by
  intro pt r hr
  cases pt <;> exact fn_step (spec := spec_bits_word_signed) (wr := (fun i => mem i [])) (l := tab_bits_word_signed) (z := 13) (p := res_bits_word_signed) (run' := fun _ => none) E_ok tab_bits_word_signed_ok.mem rfl spec_bits_word_signed_ok (fun _ _ h => by cases h) (Eq.trans (by kernel_rfl) hr)
noncomputable def con_bits_word_signed : Con E := ⟨68, ((Int × (Int × Unit)) × Unit), Unit, (RwL.cons (Rw.agg (RwL.cons (Rd.int .i64).w (RwL.cons (Rd.int .i64).w RwL.nil))) RwL.nil), RdBL.nil, 0, R_bits_word_signed, fun a b => run_bits_word_signed (.start a.1.1 a.1.2.1), res_bits_word_signed.av, res_bits_word_signed.bx⟩
theorem con_bits_word_signed_ok : con_bits_word_signed.Ok := fun a b r h => fn_ok (fn := Tryd.f68) (code := code_bits_word_signed) E_ok (by kernel_rfl) (by kernel_rfl) (by kernel_rfl) (Nat.le_of_ble_eq_true rfl) (good_bits_word_signed (.start a.1.1 a.1.2.1) r h)

/-! ### ratchet/bits.Shifted$3 -/
inductive P_bits_Shifted_3 where
 | start (B0_0 : Int) (B0_1 : Int) (B1 : Int)
noncomputable def place_bits_Shifted_3 : P_bits_Shifted_3 → List Bool
 | .start .. => []
noncomputable def st_bits_Shifted_3 : P_bits_Shifted_3 → St E.S
 | .start B0_0 B0_1 B1 => st0 11 [.bp 0 0, .bp 1 0] [.var 82 [.v (.int .i64 B0_0), .v (.int .i64 B0_1)], .var 3 [.v (.int .i64 B1)]]
abbrev R_bits_Shifted_3 : Type := (((Int × (Int × Unit)) × Unit) × ((Int × (Int × Unit)) × ((Int × Unit) × Unit)))
noncomputable def res_bits_Shifted_3 : Res E ((Int × (Int × Unit)) × Unit) ((Int × (Int × Unit)) × ((Int × Unit) × Unit)) := { rows := [], flat := [], keep := 2, rl := (RdL.cons (Rd.agg (RdL.cons (Rd.int .i64) (RdL.cons (Rd.int .i64) RdL.nil))) RdL.nil), rb := (RdBL.cons (RdB.var 82 (RdL.cons (Rd.int .i64) (RdL.cons (Rd.int .i64) RdL.nil))) (RdBL.cons (RdB.var 3 (RdL.cons (Rd.int .i64) RdL.nil)) RdBL.nil)) }
noncomputable def run_bits_Shifted_3 : P_bits_Shifted_3 → Option R_bits_Shifted_3
 | .start B0_0 B0_1 B1 =>
   (run_bits_word_signed (.start B0_0 B0_1)) >>= fun t1 =>
   if (decide ((0 : Int) ≤ B1)) = true then
     (run_bits_of (.start (shr .i64 t1.1.1 B1) B0_0)) >>= fun t2 =>
     some (((t2.1.1.1, (t2.1.1.2.1, ())), ()), ((B0_0, (B0_1, ())), ((B1, ()), ())))
   else none
noncomputable def tab_bits_Shifted_3 : List (Plc E P_bits_Shifted_3) := []
theorem tab_bits_Shifted_3_ok : All (PlcOk 11 2 place_bits_Shifted_3 st_bits_Shifted_3) tab_bits_Shifted_3 := trivial
noncomputable def spec_bits_Shifted_3 : Spec E.S := (Con.add con_bits_of (Con.add con_bits_word_signed noSpec))
theorem spec_bits_Shifted_3_ok : SpecOk E spec_bits_Shifted_3 := (Con.add_ok con_bits_of_ok (Con.add_ok con_bits_word_signed_ok noSpec_ok))
noncomputable def code_bits_Shifted_3 : Code := Tryd.f67.body.getD .skip
theorem good_bits_Shifted_3 : ∀ pt r, run_bits_Shifted_3 pt = some r → Good E Tryd.f67 code_bits_Shifted_3 2 (res_bits_Shifted_3.av r) (res_bits_Shifted_3.bx r) (place_bits_Shifted_3 pt) (st_bits_Shifted_3 pt) := by
  intro pt r hr
  cases pt <;> exact fn_step (spec := spec_bits_Shifted_3) (wr := (fun i => mem i [])) (l := tab_bits_Shifted_3) (z := 11) (p := res_bits_Shifted_3) (run' := fun _ => none) E_ok tab_bits_Shifted_3_ok.mem rfl spec_bits_Shifted_3_ok (fun _ _ h => by cases h) (Eq.trans (by kernel_rfl) hr)
noncomputable def con_bits_Shifted_3 : Con E := ⟨67, (Unit × (Unit × Unit)), ((Int × (Int × Unit)) × ((Int × Unit) × Unit)), (RwL.cons (Rd.bp 0 0).w (RwL.cons (Rd.bp 1 0).w RwL.nil)), (RdBL.cons (RdB.var 82 (RdL.cons (Rd.int .i64) (RdL.cons (Rd.int .i64) RdL.nil))) (RdBL.cons (RdB.var 3 (RdL.cons (Rd.int .i64) RdL.nil)) RdBL.nil)), 2, R_bits_Shifted_3, fun a b => run_bits_Shifted_3 (.start b.1.1 b.1.2.1 b.2.1.1), res_bits_Shifted_3.av, res_bits_Shifted_3.bx⟩
theorem con_bits_Shifted_3_ok : con_bits_Shifted_3.Ok := fun a b r h => fn_ok (fn := Tryd.f67) (code := code_bits_Shifted_3) E_ok (by kernel_rfl) (by kernel_rfl) (by kernel_rfl) (Nat.le_of_ble_eq_true rfl) (good_bits_Shifted_3 (.start b.1.1 b.1.2.1 b.2.1.1) r h)

/-! ### (ratchet/bits.word).rotated -/
inductive P_bits_word_rotated where
 | start (w0_0 : Int) (w0_1 : Int) (by1 : Int)
noncomputable def place_bits_word_rotated : P_bits_word_rotated → List Bool
 | .start .. => []
noncomputable def st_bits_word_rotated : P_bits_word_rotated → St E.S
 | .start w0_0 w0_1 by1 => st0 29 [.agg [.v (.int .i64 w0_0), .v (.int .i64 w0_1)], .v (.int .i64 by1)] []
abbrev R_bits_word_rotated : Type := (((Int × (Int × Unit)) × Unit) × Unit)
noncomputable def res_bits_word_rotated : Res E ((Int × (Int × Unit)) × Unit) Unit := { rows := [], flat := [], keep := 0, rl := (RdL.cons (Rd.agg (RdL.cons (Rd.int .i64) (RdL.cons (Rd.int .i64) RdL.nil))) RdL.nil), rb := RdBL.nil }
noncomputable def run_bits_word_rotated : P_bits_word_rotated → Option R_bits_word_rotated
 | .start w0_0 w0_1 by1 =>
   if (!(w0_0 == (0 : Int))) = true then
     if (decide ((0 : Int) ≤ (Int.tmod by1 w0_0))) = true then
       if (decide ((0 : Int) ≤ (IntKind.wrap .i64 (w0_0 - (Int.tmod by1 w0_0))))) = true then
         (run_bits_of (.start (bits .or .i64 (shl .i64 w0_1 (Int.tmod by1 w0_0)) (shr .i64 w0_1 (IntKind.wrap .i64 (w0_0 - (Int.tmod by1 w0_0))))) w0_0)) >>= fun t1 =>
         some (((t1.1.1.1, (t1.1.1.2.1, ())), ()), ())
       else none
     else none
   else none
noncomputable def tab_bits_word_rotated : List (Plc E P_bits_word_rotated) := []
theorem tab_bits_word_rotated_ok : All (PlcOk 29 0 place_bits_word_rotated st_bits_word_rotated) tab_bits_word_rotated := trivial
noncomputable def spec_bits_word_rotated : Spec E.S := (Con.add con_bits_of noSpec)
theorem spec_bits_word_rotated_ok : SpecOk E spec_bits_word_rotated := (Con.add_ok con_bits_of_ok noSpec_ok)
noncomputable def code_bits_word_rotated : Code := Tryd.f70.body.getD .skip
theorem good_bits_word_rotated : ∀ pt r, run_bits_word_rotated pt = some r → Good E Tryd.f70 code_bits_word_rotated 0 (res_bits_word_rotated.av r) (res_bits_word_rotated.bx r) (place_bits_word_rotated pt) (st_bits_word_rotated pt) := by
  intro pt r hr
  cases pt <;> exact fn_step (spec := spec_bits_word_rotated) (wr := (fun i => mem i [])) (l := tab_bits_word_rotated) (z := 29) (p := res_bits_word_rotated) (run' := fun _ => none) E_ok tab_bits_word_rotated_ok.mem rfl spec_bits_word_rotated_ok (fun _ _ h => by cases h) (Eq.trans (by kernel_rfl) hr)
noncomputable def con_bits_word_rotated : Con E := ⟨70, ((Int × (Int × Unit)) × (Int × Unit)), Unit, (RwL.cons (Rw.agg (RwL.cons (Rd.int .i64).w (RwL.cons (Rd.int .i64).w RwL.nil))) (RwL.cons (Rd.int .i64).w RwL.nil)), RdBL.nil, 0, R_bits_word_rotated, fun a b => run_bits_word_rotated (.start a.1.1 a.1.2.1 a.2.1), res_bits_word_rotated.av, res_bits_word_rotated.bx⟩
theorem con_bits_word_rotated_ok : con_bits_word_rotated.Ok := fun a b r h => fn_ok (fn := Tryd.f70) (code := code_bits_word_rotated) E_ok (by kernel_rfl) (by kernel_rfl) (by kernel_rfl) (Nat.le_of_ble_eq_true rfl) (good_bits_word_rotated (.start a.1.1 a.1.2.1 a.2.1) r h)

/-! ### ratchet/bits.Shifted$4 -/
inductive P_bits_Shifted_4 where
 | start (B0_0 : Int) (B0_1 : Int) (B1 : Int)
noncomputable def place_bits_Shifted_4 : P_bits_Shifted_4 → List Bool
 | .start .. => []
noncomputable def st_bits_Shifted_4 : P_bits_Shifted_4 → St E.S
 | .start B0_0 B0_1 B1 => st0 6 [.bp 0 0, .bp 1 0] [.var 82 [.v (.int .i64 B0_0), .v (.int .i64 B0_1)], .var 3 [.v (.int .i64 B1)]]
abbrev R_bits_Shifted_4 : Type := (((Int × (Int × Unit)) × Unit) × ((Int × (Int × Unit)) × ((Int × Unit) × Unit)))
noncomputable def res_bits_Shifted_4 : Res E ((Int × (Int × Unit)) × Unit) ((Int × (Int × Unit)) × ((Int × Unit) × Unit)) := { rows := [], flat := [], keep := 2, rl := (RdL.cons (Rd.agg (RdL.cons (Rd.int .i64) (RdL.cons (Rd.int .i64) RdL.nil))) RdL.nil), rb := (RdBL.cons (RdB.var 82 (RdL.cons (Rd.int .i64) (RdL.cons (Rd.int .i64) RdL.nil))) (RdBL.cons (RdB.var 3 (RdL.cons (Rd.int .i64) RdL.nil)) RdBL.nil)) }
noncomputable def run_bits_Shifted_4 : P_bits_Shifted_4 → Option R_bits_Shifted_4
 | .start B0_0 B0_1 B1 =>
   (run_bits_word_rotated (.start B0_0 B0_1 B1)) >>= fun t1 =>
   some (((t1.1.1.1, (t1.1.1.2.1, ())), ()), ((B0_0, (B0_1, ())), ((B1, ()), ())))
noncomputable def tab_bits_Shifted_4 : List (Plc E P_bits_Shifted_4) := []
theorem tab_bits_Shifted_4_ok : All (PlcOk 6 2 place_bits_Shifted_4 st_bits_Shifted_4) tab_bits_Shifted_4 := trivial
noncomputable def spec_bits_Shifted_4 : Spec E.S := (Con.add con_bits_word_rotated noSpec)
theorem spec_bits_Shifted_4_ok : SpecOk E spec_bits_Shifted_4 := (Con.add_ok con_bits_word_rotated_ok noSpec_ok)
noncomputable def code_bits_Shifted_4 : Code := Tryd.f69.body.getD .skip
theorem good_bits_Shifted_4 : ∀ pt r, run_bits_Shifted_4 pt = some r → Good E Tryd.f69 code_bits_Shifted_4 2 (res_bits_Shifted_4.av r) (res_bits_Shifted_4.bx r) (place_bits_Shifted_4 pt) (st_bits_Shifted_4 pt) := by
  intro pt r hr
  cases pt <;> exact fn_step (spec := spec_bits_Shifted_4) (wr := (fun i => mem i [])) (l := tab_bits_Shifted_4) (z := 6) (p := res_bits_Shifted_4) (run' := fun _ => none) E_ok tab_bits_Shifted_4_ok.mem rfl spec_bits_Shifted_4_ok (fun _ _ h => by cases h) (Eq.trans (by kernel_rfl) hr)
noncomputable def con_bits_Shifted_4 : Con E := ⟨69, (Unit × (Unit × Unit)), ((Int × (Int × Unit)) × ((Int × Unit) × Unit)), (RwL.cons (Rd.bp 0 0).w (RwL.cons (Rd.bp 1 0).w RwL.nil)), (RdBL.cons (RdB.var 82 (RdL.cons (Rd.int .i64) (RdL.cons (Rd.int .i64) RdL.nil))) (RdBL.cons (RdB.var 3 (RdL.cons (Rd.int .i64) RdL.nil)) RdBL.nil)), 2, R_bits_Shifted_4, fun a b => run_bits_Shifted_4 (.start b.1.1 b.1.2.1 b.2.1.1), res_bits_Shifted_4.av, res_bits_Shifted_4.bx⟩
theorem con_bits_Shifted_4_ok : con_bits_Shifted_4.Ok := fun a b r h => fn_ok (fn := Tryd.f69) (code := code_bits_Shifted_4) E_ok (by kernel_rfl) (by kernel_rfl) (by kernel_rfl) (Nat.le_of_ble_eq_true rfl) (good_bits_Shifted_4 (.start b.1.1 b.1.2.1 b.2.1.1) r h)

/-! ### ratchet/bits.Shifted$5 -/
inductive P_bits_Shifted_5 where
 | start (B0_0 : Int) (B0_1 : Int) (B1 : Int)
noncomputable def place_bits_Shifted_5 : P_bits_Shifted_5 → List Bool
 | .start .. => []
noncomputable def st_bits_Shifted_5 : P_bits_Shifted_5 → St E.S
 | .start B0_0 B0_1 B1 => st0 14 [.bp 0 0, .bp 1 0] [.var 82 [.v (.int .i64 B0_0), .v (.int .i64 B0_1)], .var 3 [.v (.int .i64 B1)]]
abbrev R_bits_Shifted_5 : Type := (((Int × (Int × Unit)) × Unit) × ((Int × (Int × Unit)) × ((Int × Unit) × Unit)))
noncomputable def res_bits_Shifted_5 : Res E ((Int × (Int × Unit)) × Unit) ((Int × (Int × Unit)) × ((Int × Unit) × Unit)) := { rows := [], flat := [], keep := 2, rl := (RdL.cons (Rd.agg (RdL.cons (Rd.int .i64) (RdL.cons (Rd.int .i64) RdL.nil))) RdL.nil), rb := (RdBL.cons (RdB.var 82 (RdL.cons (Rd.int .i64) (RdL.cons (Rd.int .i64) RdL.nil))) (RdBL.cons (RdB.var 3 (RdL.cons (Rd.int .i64) RdL.nil)) RdBL.nil)) }
noncomputable def run_bits_Shifted_5 : P_bits_Shifted_5 → Option R_bits_Shifted_5
 | .start B0_0 B0_1 B1 =>
   if (!(B0_0 == (0 : Int))) = true then
     (run_bits_word_rotated (.start B0_0 B0_1 (IntKind.wrap .i64 (B0_0 - (Int.tmod B1 B0_0))))) >>= fun t1 =>
     some (((t1.1.1.1, (t1.1.1.2.1, ())), ()), ((B0_0, (B0_1, ())), ((B1, ()), ())))
   else none
noncomputable def tab_bits_Shifted_5 : List (Plc E P_bits_Shifted_5) := []
theorem tab_bits_Shifted_5_ok : All (PlcOk 14 2 place_bits_Shifted_5 st_bits_Shifted_5) tab_bits_Shifted_5 := trivial
noncomputable def spec_bits_Shifted_5 : Spec E.S := (Con.add con_bits_word_rotated noSpec)
theorem spec_bits_Shifted_5_ok : SpecOk E spec_bits_Shifted_5 := (Con.add_ok con_bits_word_rotated_ok noSpec_ok)
noncomputable def code_bits_Shifted_5 : Code := Tryd.f71.body.getD .skip
theorem good_bits_Shifted_5 : ∀ pt r, run_bits_Shifted_5 pt = some r → Good E Tryd.f71 code_bits_Shifted_5 2 (res_bits_Shifted_5.av r) (res_bits_Shifted_5.bx r) (place_bits_Shifted_5 pt) (st_bits_Shifted_5 pt) := by
  intro pt r hr
  cases pt <;> exact fn_step (spec := spec_bits_Shifted_5) (wr := (fun i => mem i [])) (l := tab_bits_Shifted_5) (z := 14) (p := res_bits_Shifted_5) (run' := fun _ => none) E_ok tab_bits_Shifted_5_ok.mem rfl spec_bits_Shifted_5_ok (fun _ _ h => by cases h) (Eq.trans (by kernel_rfl) hr)
noncomputable def con_bits_Shifted_5 : Con E := ⟨71, (Unit × (Unit × Unit)), ((Int × (Int × Unit)) × ((Int × Unit) × Unit)), (RwL.cons (Rd.bp 0 0).w (RwL.cons (Rd.bp 1 0).w RwL.nil)), (RdBL.cons (RdB.var 82 (RdL.cons (Rd.int .i64) (RdL.cons (Rd.int .i64) RdL.nil))) (RdBL.cons (RdB.var 3 (RdL.cons (Rd.int .i64) RdL.nil)) RdBL.nil)), 2, R_bits_Shifted_5, fun a b => run_bits_Shifted_5 (.start b.1.1 b.1.2.1 b.2.1.1), res_bits_Shifted_5.av, res_bits_Shifted_5.bx⟩
theorem con_bits_Shifted_5_ok : con_bits_Shifted_5.Ok := fun a b r h => fn_ok (fn := Tryd.f71) (code := code_bits_Shifted_5) E_ok (by kernel_rfl) (by kernel_rfl) (by kernel_rfl) (Nat.le_of_ble_eq_true rfl) (good_bits_Shifted_5 (.start b.1.1 b.1.2.1 b.2.1.1) r h)

/-! ### ratchet/bits.Shifted -/
inductive P_bits_Shifted where
 | start (a0_0 : Int) (a0_1 : Int) (kind1 : Int) (by2 : Int)
noncomputable def place_bits_Shifted : P_bits_Shifted → List Bool
 | .start .. => []
noncomputable def st_bits_Shifted : P_bits_Shifted → St E.S
 | .start a0_0 a0_1 kind1 by2 => st0 38 [.agg [.v (.int .i64 a0_0), .v (.int .i64 a0_1)], .v (.int .i64 kind1), .v (.int .i64 by2)] []
abbrev R_bits_Shifted : Type := (((Int × (Int × Unit)) × (Int × Unit)) × Unit)
noncomputable def res_bits_Shifted : Res E ((Int × (Int × Unit)) × (Int × Unit)) Unit := { rows := [], flat := [], keep := 0, rl := (RdL.cons (Rd.agg (RdL.cons (Rd.int .i64) (RdL.cons (Rd.int .i64) RdL.nil))) (RdL.cons (Rd.int .i64) RdL.nil)), rb := RdBL.nil }
noncomputable def run_bits_Shifted : P_bits_Shifted → Option R_bits_Shifted
 | .start a0_0 a0_1 kind1 by2 =>
   (run_bits_CheckBits (.start a0_0 a0_1)) >>= fun t1 =>
   (run_bits_within (.start kind1 (0 : Int) (4 : Int))) >>= fun t2 =>
   (run_bits_unless (.start t2.1.1 (15 : Int))) >>= fun t3 =>
   (run_bits_within (.start by2 (0 : Int) (16 : Int))) >>= fun t4 =>
   (run_bits_unless (.start t4.1.1 (2 : Int))) >>= fun t5 =>
   (run_bits_first (.start ([t1.1.1, t3.1.1, t5.1.1] : List Int))) >>= fun t6 =>
   if (t6.1.1 != (0 : Int)) = true then
     some ((((0 : Int), ((0 : Int), ())), (t6.1.1, ())), ())
   else
     if (decide (kind1 = 0)) = true then
       (run_bits_Shifted_1 (.start a0_0 a0_1 by2)) >>= fun t7 =>
       some (((t7.1.1.1, (t7.1.1.2.1, ())), ((0 : Int), ())), ())
     else
       if (decide (kind1 = 1)) = true then
         (run_bits_Shifted_2 (.start a0_0 a0_1 by2)) >>= fun t8 =>
         some (((t8.1.1.1, (t8.1.1.2.1, ())), ((0 : Int), ())), ())
       else
         if (decide (kind1 = 2)) = true then
           (run_bits_Shifted_3 (.start a0_0 a0_1 by2)) >>= fun t9 =>
           some (((t9.1.1.1, (t9.1.1.2.1, ())), ((0 : Int), ())), ())
         else
           if (decide (kind1 = 3)) = true then
             (run_bits_Shifted_4 (.start a0_0 a0_1 by2)) >>= fun t10 =>
             some (((t10.1.1.1, (t10.1.1.2.1, ())), ((0 : Int), ())), ())
           else
             if (decide (kind1 = 4)) = true then
               (run_bits_Shifted_5 (.start a0_0 a0_1 by2)) >>= fun t11 =>
               some (((t11.1.1.1, (t11.1.1.2.1, ())), ((0 : Int), ())), ())
             else none
noncomputable def tab_bits_Shifted : List (Plc E P_bits_Shifted) := []
theorem tab_bits_Shifted_ok : All (PlcOk 38 0 place_bits_Shifted st_bits_Shifted) tab_bits_Shifted := trivial
noncomputable def spec_bits_Shifted : Spec E.S := (Con.add con_bits_Shifted_5 (Con.add con_bits_Shifted_4 (Con.add con_bits_Shifted_3 (Con.add con_bits_Shifted_2 (Con.add con_bits_Shifted_1 (Con.add con_bits_first (Con.add con_bits_unless (Con.add con_bits_within (Con.add con_bits_CheckBits noSpec)))))))))
theorem spec_bits_Shifted_ok : SpecOk E spec_bits_Shifted := (Con.add_ok con_bits_Shifted_5_ok (Con.add_ok con_bits_Shifted_4_ok (Con.add_ok con_bits_Shifted_3_ok (Con.add_ok con_bits_Shifted_2_ok (Con.add_ok con_bits_Shifted_1_ok (Con.add_ok con_bits_first_ok (Con.add_ok con_bits_unless_ok (Con.add_ok con_bits_within_ok (Con.add_ok con_bits_CheckBits_ok noSpec_ok)))))))))
noncomputable def code_bits_Shifted : Code := Tryd.f12.body.getD .skip
theorem good_bits_Shifted : ∀ pt r, run_bits_Shifted pt = some r → Good E Tryd.f12 code_bits_Shifted 0 (res_bits_Shifted.av r) (res_bits_Shifted.bx r) (place_bits_Shifted pt) (st_bits_Shifted pt) := by
  intro pt r hr
  cases pt <;> exact fn_step (spec := spec_bits_Shifted) (wr := (fun i => mem i [])) (l := tab_bits_Shifted) (z := 38) (p := res_bits_Shifted) (run' := fun _ => none) E_ok tab_bits_Shifted_ok.mem rfl spec_bits_Shifted_ok (fun _ _ h => by cases h) (Eq.trans (by kernel_rfl) hr)
noncomputable def con_bits_Shifted : Con E := ⟨12, ((Int × (Int × Unit)) × (Int × (Int × Unit))), Unit, (RwL.cons (Rw.agg (RwL.cons (Rd.int .i64).w (RwL.cons (Rd.int .i64).w RwL.nil))) (RwL.cons (Rd.int .i64).w (RwL.cons (Rd.int .i64).w RwL.nil))), RdBL.nil, 0, R_bits_Shifted, fun a b => run_bits_Shifted (.start a.1.1 a.1.2.1 a.2.1 a.2.2.1), res_bits_Shifted.av, res_bits_Shifted.bx⟩
theorem con_bits_Shifted_ok : con_bits_Shifted.Ok := fun a b r h => fn_ok (fn := Tryd.f12) (code := code_bits_Shifted) E_ok (by kernel_rfl) (by kernel_rfl) (by kernel_rfl) (Nat.le_of_ble_eq_true rfl) (good_bits_Shifted (.start a.1.1 a.1.2.1 a.2.1 a.2.2.1) r h)

/-! ### ratchet/ratchetbase.Within -/
inductive P_ratchetbase_Within where
 | start (n0 : Int) (lo1 : Int) (hi2 : Int)
noncomputable def place_ratchetbase_Within : P_ratchetbase_Within → List Bool
 | .start .. => []
noncomputable def st_ratchetbase_Within : P_ratchetbase_Within → St E.S
 | .start n0 lo1 hi2 => st0 15 [.v (.int .i64 n0), .v (.int .i64 lo1), .v (.int .i64 hi2)] []
abbrev R_ratchetbase_Within : Type := ((Bool × Unit) × Unit)
noncomputable def res_ratchetbase_Within : Res E (Bool × Unit) Unit := { rows := [], flat := [], keep := 0, rl := (RdL.cons Rd.bool RdL.nil), rb := RdBL.nil }
noncomputable def run_ratchetbase_Within : P_ratchetbase_Within → Option R_ratchetbase_Within
 | .start n0 lo1 hi2 =>
   if (decide (lo1 ≤ n0)) = true then
     some ((decide (n0 ≤ hi2), ()), ())
   else
     some ((false, ()), ())
noncomputable def tab_ratchetbase_Within : List (Plc E P_ratchetbase_Within) := []
theorem tab_ratchetbase_Within_ok : All (PlcOk 15 0 place_ratchetbase_Within st_ratchetbase_Within) tab_ratchetbase_Within := trivial
noncomputable def spec_ratchetbase_Within : Spec E.S := noSpec
theorem spec_ratchetbase_Within_ok : SpecOk E spec_ratchetbase_Within := noSpec_ok
noncomputable def code_ratchetbase_Within : Code := Tryd.f49.body.getD .skip
theorem good_ratchetbase_Within : ∀ pt r, run_ratchetbase_Within pt = some r → Good E Tryd.f49 code_ratchetbase_Within 0 (res_ratchetbase_Within.av r) (res_ratchetbase_Within.bx r) (place_ratchetbase_Within pt) (st_ratchetbase_Within pt) := by
  intro pt r hr
  cases pt <;> exact fn_step (spec := spec_ratchetbase_Within) (wr := (fun i => mem i [])) (l := tab_ratchetbase_Within) (z := 15) (p := res_ratchetbase_Within) (run' := fun _ => none) E_ok tab_ratchetbase_Within_ok.mem rfl spec_ratchetbase_Within_ok (fun _ _ h => by cases h) (Eq.trans (by kernel_rfl) hr)
noncomputable def con_ratchetbase_Within : Con E := ⟨49, (Int × (Int × (Int × Unit))), Unit, (RwL.cons (Rd.int .i64).w (RwL.cons (Rd.int .i64).w (RwL.cons (Rd.int .i64).w RwL.nil))), RdBL.nil, 0, R_ratchetbase_Within, fun a b => run_ratchetbase_Within (.start a.1 a.2.1 a.2.2.1), res_ratchetbase_Within.av, res_ratchetbase_Within.bx⟩
theorem con_ratchetbase_Within_ok : con_ratchetbase_Within.Ok := fun a b r h => fn_ok (fn := Tryd.f49) (code := code_ratchetbase_Within) E_ok (by kernel_rfl) (by kernel_rfl) (by kernel_rfl) (Nat.le_of_ble_eq_true rfl) (good_ratchetbase_Within (.start a.1 a.2.1 a.2.2.1) r h)

/-! ### ratchet/ratchetbase.IsWidth -/
inductive P_ratchetbase_IsWidth where
 | start (n0 : Int)
noncomputable def place_ratchetbase_IsWidth : P_ratchetbase_IsWidth → List Bool
 | .start .. => []
noncomputable def st_ratchetbase_IsWidth : P_ratchetbase_IsWidth → St E.S
 | .start n0 => st0 5 [.v (.int .i64 n0)] []
abbrev R_ratchetbase_IsWidth : Type := ((Bool × Unit) × Unit)
noncomputable def res_ratchetbase_IsWidth : Res E (Bool × Unit) Unit := { rows := [], flat := [], keep := 0, rl := (RdL.cons Rd.bool RdL.nil), rb := RdBL.nil }
noncomputable def run_ratchetbase_IsWidth : P_ratchetbase_IsWidth → Option R_ratchetbase_IsWidth
 | .start n0 =>
   (run_ratchetbase_Within (.start n0 (1 : Int) (16 : Int))) >>= fun t1 =>
   some ((t1.1.1, ()), ())
noncomputable def tab_ratchetbase_IsWidth : List (Plc E P_ratchetbase_IsWidth) := []
theorem tab_ratchetbase_IsWidth_ok : All (PlcOk 5 0 place_ratchetbase_IsWidth st_ratchetbase_IsWidth) tab_ratchetbase_IsWidth := trivial
noncomputable def spec_ratchetbase_IsWidth : Spec E.S := (Con.add con_ratchetbase_Within noSpec)
theorem spec_ratchetbase_IsWidth_ok : SpecOk E spec_ratchetbase_IsWidth := (Con.add_ok con_ratchetbase_Within_ok noSpec_ok)
noncomputable def code_ratchetbase_IsWidth : Code := Tryd.f78.body.getD .skip
theorem good_ratchetbase_IsWidth : ∀ pt r, run_ratchetbase_IsWidth pt = some r → Good E Tryd.f78 code_ratchetbase_IsWidth 0 (res_ratchetbase_IsWidth.av r) (res_ratchetbase_IsWidth.bx r) (place_ratchetbase_IsWidth pt) (st_ratchetbase_IsWidth pt) := by
  intro pt r hr
  cases pt <;> exact fn_step (spec := spec_ratchetbase_IsWidth) (wr := (fun i => mem i [])) (l := tab_ratchetbase_IsWidth) (z := 5) (p := res_ratchetbase_IsWidth) (run' := fun _ => none) E_ok tab_ratchetbase_IsWidth_ok.mem rfl spec_ratchetbase_IsWidth_ok (fun _ _ h => by cases h) (Eq.trans (by kernel_rfl) hr)
noncomputable def con_ratchetbase_IsWidth : Con E := ⟨78, (Int × Unit), Unit, (RwL.cons (Rd.int .i64).w RwL.nil), RdBL.nil, 0, R_ratchetbase_IsWidth, fun a b => run_ratchetbase_IsWidth (.start a.1), res_ratchetbase_IsWidth.av, res_ratchetbase_IsWidth.bx⟩
theorem con_ratchetbase_IsWidth_ok : con_ratchetbase_IsWidth.Ok := fun a b r h => fn_ok (fn := Tryd.f78) (code := code_ratchetbase_IsWidth) E_ok (by kernel_rfl) (by kernel_rfl) (by kernel_rfl) (Nat.le_of_ble_eq_true rfl) (good_ratchetbase_IsWidth (.start a.1) r h)

/-! ### ratchet/ratchetbase.Power -/
inductive P_ratchetbase_Power where
 | start (n0 : Int)
noncomputable def place_ratchetbase_Power : P_ratchetbase_Power → List Bool
 | .start .. => []
noncomputable def st_ratchetbase_Power : P_ratchetbase_Power → St E.S
 | .start n0 => st0 5 [.v (.int .i64 n0)] []
abbrev R_ratchetbase_Power : Type := ((Int × Unit) × Unit)
noncomputable def res_ratchetbase_Power : Res E (Int × Unit) Unit := { rows := [], flat := [], keep := 0, rl := (RdL.cons (Rd.int .i64) RdL.nil), rb := RdBL.nil }
noncomputable def run_ratchetbase_Power : P_ratchetbase_Power → Option R_ratchetbase_Power
 | .start n0 =>
   if (decide ((0 : Int) ≤ n0)) = true then
     some ((shl .i64 (1 : Int) n0, ()), ())
   else none
noncomputable def tab_ratchetbase_Power : List (Plc E P_ratchetbase_Power) := []
theorem tab_ratchetbase_Power_ok : All (PlcOk 5 0 place_ratchetbase_Power st_ratchetbase_Power) tab_ratchetbase_Power := trivial
noncomputable def spec_ratchetbase_Power : Spec E.S := noSpec
theorem spec_ratchetbase_Power_ok : SpecOk E spec_ratchetbase_Power := noSpec_ok
noncomputable def code_ratchetbase_Power : Code := Tryd.f31.body.getD .skip
theorem good_ratchetbase_Power : ∀ pt r, run_ratchetbase_Power pt = some r → Good E Tryd.f31 code_ratchetbase_Power 0 (res_ratchetbase_Power.av r) (res_ratchetbase_Power.bx r) (place_ratchetbase_Power pt) (st_ratchetbase_Power pt) := by
  intro pt r hr
  cases pt <;> exact fn_step (spec := spec_ratchetbase_Power) (wr := (fun i => mem i [])) (l := tab_ratchetbase_Power) (z := 5) (p := res_ratchetbase_Power) (run' := fun _ => none) E_ok tab_ratchetbase_Power_ok.mem rfl spec_ratchetbase_Power_ok (fun _ _ h => by cases h) (Eq.trans (by kernel_rfl) hr)
noncomputable def con_ratchetbase_Power : Con E := ⟨31, (Int × Unit), Unit, (RwL.cons (Rd.int .i64).w RwL.nil), RdBL.nil, 0, R_ratchetbase_Power, fun a b => run_ratchetbase_Power (.start a.1), res_ratchetbase_Power.av, res_ratchetbase_Power.bx⟩
theorem con_ratchetbase_Power_ok : con_ratchetbase_Power.Ok := fun a b r h => fn_ok (fn := Tryd.f31) (code := code_ratchetbase_Power) E_ok (by kernel_rfl) (by kernel_rfl) (by kernel_rfl) (Nat.le_of_ble_eq_true rfl) (good_ratchetbase_Power (.start a.1) r h)

/-! ### ratchet/ratchetbase.Fits -/
inductive P_ratchetbase_Fits where
 | start (n0 : Int) (width1 : Int)
noncomputable def place_ratchetbase_Fits : P_ratchetbase_Fits → List Bool
 | .start .. => []
noncomputable def st_ratchetbase_Fits : P_ratchetbase_Fits → St E.S
 | .start n0 width1 => st0 10 [.v (.int .i64 n0), .v (.int .i64 width1)] []
abbrev R_ratchetbase_Fits : Type := ((Bool × Unit) × Unit)
noncomputable def res_ratchetbase_Fits : Res E (Bool × Unit) Unit := { rows := [], flat := [], keep := 0, rl := (RdL.cons Rd.bool RdL.nil), rb := RdBL.nil }
noncomputable def run_ratchetbase_Fits : P_ratchetbase_Fits → Option R_ratchetbase_Fits
 | .start n0 width1 =>
   (run_ratchetbase_Power (.start width1)) >>= fun t1 =>
   (run_ratchetbase_Within (.start n0 (0 : Int) (IntKind.wrap .i64 (t1.1.1 - (1 : Int))))) >>= fun t2 =>
   some ((t2.1.1, ()), ())
noncomputable def tab_ratchetbase_Fits : List (Plc E P_ratchetbase_Fits) := []
theorem tab_ratchetbase_Fits_ok : All (PlcOk 10 0 place_ratchetbase_Fits st_ratchetbase_Fits) tab_ratchetbase_Fits := trivial
noncomputable def spec_ratchetbase_Fits : Spec E.S := (Con.add con_ratchetbase_Within (Con.add con_ratchetbase_Power noSpec))
theorem spec_ratchetbase_Fits_ok : SpecOk E spec_ratchetbase_Fits := (Con.add_ok con_ratchetbase_Within_ok (Con.add_ok con_ratchetbase_Power_ok noSpec_ok))
noncomputable def code_ratchetbase_Fits : Code := Tryd.f79.body.getD .skip
theorem good_ratchetbase_Fits : ∀ pt r, run_ratchetbase_Fits pt = some r → Good E Tryd.f79 code_ratchetbase_Fits 0 (res_ratchetbase_Fits.av r) (res_ratchetbase_Fits.bx r) (place_ratchetbase_Fits pt) (st_ratchetbase_Fits pt) := by
  intro pt r hr
  cases pt <;> exact fn_step (spec := spec_ratchetbase_Fits) (wr := (fun i => mem i [])) (l := tab_ratchetbase_Fits) (z := 10) (p := res_ratchetbase_Fits) (run' := fun _ => none) E_ok tab_ratchetbase_Fits_ok.mem rfl spec_ratchetbase_Fits_ok (fun _ _ h => by cases h) (Eq.trans (by kernel_rfl) hr)
noncomputable def con_ratchetbase_Fits : Con E := ⟨79, (Int × (Int × Unit)), Unit, (RwL.cons (Rd.int .i64).w (RwL.cons (Rd.int .i64).w RwL.nil)), RdBL.nil, 0, R_ratchetbase_Fits, fun a b => run_ratchetbase_Fits (.start a.1 a.2.1), res_ratchetbase_Fits.av, res_ratchetbase_Fits.bx⟩
theorem con_ratchetbase_Fits_ok : con_ratchetbase_Fits.Ok := fun a b r h => fn_ok (fn := Tryd.f79) (code := code_ratchetbase_Fits) E_ok (by kernel_rfl) (by kernel_rfl) (by kernel_rfl) (Nat.le_of_ble_eq_true rfl) (good_ratchetbase_Fits (.start a.1 a.2.1) r h)

/-! ### ratchet/ratchetref01.BitsErr -/
inductive P_ratchetref01_BitsErr where
 | start (x0_0 : Int) (x0_1 : Int)
noncomputable def place_ratchetref01_BitsErr : P_ratchetref01_BitsErr → List Bool
 | .start .. => []
noncomputable def st_ratchetref01_BitsErr : P_ratchetref01_BitsErr → St E.S
 | .start x0_0 x0_1 => st0 13 [.agg [.v (.int .i64 x0_0), .v (.int .i64 x0_1)]] []
abbrev R_ratchetref01_BitsErr : Type := ((Int × Unit) × Unit)
noncomputable def res_ratchetref01_BitsErr : Res E (Int × Unit) Unit := { rows := [], flat := [], keep := 0, rl := (RdL.cons (Rd.int .i64) RdL.nil), rb := RdBL.nil }
noncomputable def run_ratchetref01_BitsErr : P_ratchetref01_BitsErr → Option R_ratchetref01_BitsErr
 | .start x0_0 x0_1 =>
   (run_ratchetbase_IsWidth (.start x0_0)) >>= fun t1 =>
   if (!t1.1.1) = true then
     some (((25 : Int), ()), ())
   else
     (run_ratchetbase_Fits (.start x0_1 x0_0)) >>= fun t2 =>
     if (!t2.1.1) = true then
       some (((2 : Int), ()), ())
     else
       some (((0 : Int), ()), ())
noncomputable def tab_ratchetref01_BitsErr : List (Plc E P_ratchetref01_BitsErr) := []
theorem tab_ratchetref01_BitsErr_ok : All (PlcOk 13 0 place_ratchetref01_BitsErr st_ratchetref01_BitsErr) tab_ratchetref01_BitsErr := trivial
noncomputable def spec_ratchetref01_BitsErr : Spec E.S := (Con.add con_ratchetbase_Fits (Con.add con_ratchetbase_IsWidth noSpec))
theorem spec_ratchetref01_BitsErr_ok : SpecOk E spec_ratchetref01_BitsErr := (Con.add_ok con_ratchetbase_Fits_ok (Con.add_ok con_ratchetbase_IsWidth_ok noSpec_ok))
noncomputable def code_ratchetref01_BitsErr : Code := Tryd.f18.body.getD .skip
theorem good_ratchetref01_BitsErr : ∀ pt r, run_ratchetref01_BitsErr pt = some r → Good E Tryd.f18 code_ratchetref01_BitsErr 0 (res_ratchetref01_BitsErr.av r) (res_ratchetref01_BitsErr.bx r) (place_ratchetref01_BitsErr pt) (st_ratchetref01_BitsErr pt) := by
  intro pt r hr
  cases pt <;> exact fn_step (spec := spec_ratchetref01_BitsErr) (wr := (fun i => mem i [])) (l := tab_ratchetref01_BitsErr) (z := 13) (p := res_ratchetref01_BitsErr) (run' := fun _ => none) E_ok tab_ratchetref01_BitsErr_ok.mem rfl spec_ratchetref01_BitsErr_ok (fun _ _ h => by cases h) (Eq.trans (by kernel_rfl) hr)
noncomputable def con_ratchetref01_BitsErr : Con E := ⟨18, ((Int × (Int × Unit)) × Unit), Unit, (RwL.cons (Rw.agg (RwL.cons (Rd.int .i64).w (RwL.cons (Rd.int .i64).w RwL.nil))) RwL.nil), RdBL.nil, 0, R_ratchetref01_BitsErr, fun a b => run_ratchetref01_BitsErr (.start a.1.1 a.1.2.1), res_ratchetref01_BitsErr.av, res_ratchetref01_BitsErr.bx⟩
theorem con_ratchetref01_BitsErr_ok : con_ratchetref01_BitsErr.Ok := fun a b r h => fn_ok (fn := Tryd.f18) (code := code_ratchetref01_BitsErr) E_ok (by kernel_rfl) (by kernel_rfl) (by kernel_rfl) (Nat.le_of_ble_eq_true rfl) (good_ratchetref01_BitsErr (.start a.1.1 a.1.2.1) r h)

/-! ### ratchet/ratchetref01.ShiftErr -/
inductive P_ratchetref01_ShiftErr where
 | start (a0_0 : Int) (a0_1 : Int) (kind1 : Int) (by2 : Int)
noncomputable def place_ratchetref01_ShiftErr : P_ratchetref01_ShiftErr → List Bool
 | .start .. => []
noncomputable def st_ratchetref01_ShiftErr : P_ratchetref01_ShiftErr → St E.S
 | .start a0_0 a0_1 kind1 by2 => st0 19 [.agg [.v (.int .i64 a0_0), .v (.int .i64 a0_1)], .v (.int .i64 kind1), .v (.int .i64 by2)] []
abbrev R_ratchetref01_ShiftErr : Type := ((Int × Unit) × Unit)
noncomputable def res_ratchetref01_ShiftErr : Res E (Int × Unit) Unit := { rows := [], flat := [], keep := 0, rl := (RdL.cons (Rd.int .i64) RdL.nil), rb := RdBL.nil }
noncomputable def run_ratchetref01_ShiftErr : P_ratchetref01_ShiftErr → Option R_ratchetref01_ShiftErr
 | .start a0_0 a0_1 kind1 by2 =>
   (run_ratchetref01_BitsErr (.start a0_0 a0_1)) >>= fun t1 =>
   if (t1.1.1 != (0 : Int)) = true then
     some ((t1.1.1, ()), ())
   else
     (run_ratchetbase_Within (.start kind1 (0 : Int) (4 : Int))) >>= fun t2 =>
     if (!t2.1.1) = true then
       some (((15 : Int), ()), ())
     else
       (run_ratchetbase_Within (.start by2 (0 : Int) (16 : Int))) >>= fun t3 =>
       if (!t3.1.1) = true then
         some (((2 : Int), ()), ())
       else
         some (((0 : Int), ()), ())
noncomputable def tab_ratchetref01_ShiftErr : List (Plc E P_ratchetref01_ShiftErr) := []
theorem tab_ratchetref01_ShiftErr_ok : All (PlcOk 19 0 place_ratchetref01_ShiftErr st_ratchetref01_ShiftErr) tab_ratchetref01_ShiftErr := trivial
noncomputable def spec_ratchetref01_ShiftErr : Spec E.S := (Con.add con_ratchetbase_Within (Con.add con_ratchetref01_BitsErr noSpec))
theorem spec_ratchetref01_ShiftErr_ok : SpecOk E spec_ratchetref01_ShiftErr := (Con.add_ok con_ratchetbase_Within_ok (Con.add_ok con_ratchetref01_BitsErr_ok noSpec_ok))
noncomputable def code_ratchetref01_ShiftErr : Code := Tryd.f13.body.getD .skip
theorem good_ratchetref01_ShiftErr : ∀ pt r, run_ratchetref01_ShiftErr pt = some r → Good E Tryd.f13 code_ratchetref01_ShiftErr 0 (res_ratchetref01_ShiftErr.av r) (res_ratchetref01_ShiftErr.bx r) (place_ratchetref01_ShiftErr pt) (st_ratchetref01_ShiftErr pt) := by
  intro pt r hr
  cases pt <;> exact fn_step (spec := spec_ratchetref01_ShiftErr) (wr := (fun i => mem i [])) (l := tab_ratchetref01_ShiftErr) (z := 19) (p := res_ratchetref01_ShiftErr) (run' := fun _ => none) E_ok tab_ratchetref01_ShiftErr_ok.mem rfl spec_ratchetref01_ShiftErr_ok (fun _ _ h => by cases h) (Eq.trans (by kernel_rfl) hr)
noncomputable def con_ratchetref01_ShiftErr : Con E := ⟨13, ((Int × (Int × Unit)) × (Int × (Int × Unit))), Unit, (RwL.cons (Rw.agg (RwL.cons (Rd.int .i64).w (RwL.cons (Rd.int .i64).w RwL.nil))) (RwL.cons (Rd.int .i64).w (RwL.cons (Rd.int .i64).w RwL.nil))), RdBL.nil, 0, R_ratchetref01_ShiftErr, fun a b => run_ratchetref01_ShiftErr (.start a.1.1 a.1.2.1 a.2.1 a.2.2.1), res_ratchetref01_ShiftErr.av, res_ratchetref01_ShiftErr.bx⟩
theorem con_ratchetref01_ShiftErr_ok : con_ratchetref01_ShiftErr.Ok := fun a b r h => fn_ok (fn := Tryd.f13) (code := code_ratchetref01_ShiftErr) E_ok (by kernel_rfl) (by kernel_rfl) (by kernel_rfl) (Nat.le_of_ble_eq_true rfl) (good_ratchetref01_ShiftErr (.start a.1.1 a.1.2.1 a.2.1 a.2.2.1) r h)

/-! ### ratchet/ratchetref01.low -/
inductive P_ratchetref01_low where
 | start (n0 : Int) (count1 : Int)
 | p116 (n0 : Int) (count1 : Int) (i6 : Int) (B0 : (List Int))
noncomputable def place_ratchetref01_low : P_ratchetref01_low → List Bool
 | .start .. => []
 | .p116 .. => [false, false, true, false, true, true]
noncomputable def st_ratchetref01_low : P_ratchetref01_low → St E.S
 | .start n0 count1 => st0 20 [.v (.int .i64 n0), .v (.int .i64 count1)] []
 | .p116 n0 count1 i6 B0 => mkSt 20 [0, 1, 5, 6] [.v (.int .i64 n0), .v (.int .i64 count1), .rw 0, .v (.int .i64 i6)] [.row 3 B0 true]
abbrev R_ratchetref01_low : Type := ((Unit × Unit) × ((List Int) × Unit))
noncomputable def res_ratchetref01_low : Res E (Unit × Unit) ((List Int) × Unit) := { rows := [], flat := [], keep := 0, rl := (RdL.cons (Rd.rw 0) RdL.nil), rb := (RdBL.cons (RdB.row 3 true) RdBL.nil) }
noncomputable def run_ratchetref01_low : P_ratchetref01_low → Option R_ratchetref01_low
 | .start n0 count1 =>
   run_ratchetref01_low (.p116 n0 count1 (0 : Int) ([]))
 | .p116 n0 count1 i6 B0 =>
   if (decide (i6 < count1)) = true then
     if (!((2 : Int) == (0 : Int))) = true then
       if (fits (List.length B0) (List.length ([Int.tmod n0 (2 : Int)] : List Int)) 8) = true then
         if (!((2 : Int) == (0 : Int))) = true then
           run_ratchetref01_low (.p116 (IntKind.wrap .i64 (Int.tdiv n0 (2 : Int))) count1 (IntKind.wrap .i64 (i6 + (1 : Int))) (B0 ++ ([Int.tmod n0 (2 : Int)] : List Int)))
         else none
       else none
     else none
   else
     some (((), ()), (B0, ()))
  partial_fixpoint
noncomputable def tab_ratchetref01_low : List (Plc E P_ratchetref01_low) := [⟨116, [false, false, true, false, true, true], { slots := [0, 1, 5, 6], rows := [(5, 3)], flat := [], keep := 0 }, (Int × (Int × (Unit × (Int × Unit)))), ((List Int) × Unit), (RdL.cons (Rd.int .i64) (RdL.cons (Rd.int .i64) (RdL.cons (Rd.rw 0) (RdL.cons (Rd.int .i64) RdL.nil)))), (RdBL.cons (RdB.row 3 true) RdBL.nil), fun a b => .p116 a.1 a.2.1 a.2.2.2.1 b.1⟩]
theorem tab_ratchetref01_low_ok : All (PlcOk 20 0 place_ratchetref01_low st_ratchetref01_low) tab_ratchetref01_low := ⟨⟨rfl, rfl, fun _ _ => rfl, fun _ _ => rfl⟩, trivial⟩
noncomputable def spec_ratchetref01_low : Spec E.S := noSpec
theorem spec_ratchetref01_low_ok : SpecOk E spec_ratchetref01_low := noSpec_ok
noncomputable def code_ratchetref01_low : Code := Tryd.f72.body.getD .skip
theorem good_ratchetref01_low : ∀ pt r, run_ratchetref01_low pt = some r → Good E Tryd.f72 code_ratchetref01_low 0 (res_ratchetref01_low.av r) (res_ratchetref01_low.bx r) (place_ratchetref01_low pt) (st_ratchetref01_low pt) := by
  refine run_ratchetref01_low.partial_correctness (fun pt r => Good E Tryd.f72 code_ratchetref01_low 0 (res_ratchetref01_low.av r) (res_ratchetref01_low.bx r) (place_ratchetref01_low pt) (st_ratchetref01_low pt)) ?_
  intro run' ih pt r hr
  cases pt <;> exact fn_step (spec := spec_ratchetref01_low) (wr := (fun i => mem i [])) (l := tab_ratchetref01_low) (z := 20) (p := res_ratchetref01_low) E_ok tab_ratchetref01_low_ok.mem rfl spec_ratchetref01_low_ok ih (Eq.trans (by kernel_rfl) hr)
noncomputable def con_ratchetref01_low : Con E := ⟨72, (Int × (Int × Unit)), Unit, (RwL.cons (Rd.int .i64).w (RwL.cons (Rd.int .i64).w RwL.nil)), RdBL.nil, 0, R_ratchetref01_low, fun a b => run_ratchetref01_low (.start a.1 a.2.1), res_ratchetref01_low.av, res_ratchetref01_low.bx⟩
theorem con_ratchetref01_low_ok : con_ratchetref01_low.Ok := fun a b r h => fn_ok (fn := Tryd.f72) (code := code_ratchetref01_low) E_ok (by kernel_rfl) (by kernel_rfl) (by kernel_rfl) (Nat.le_of_ble_eq_true rfl) (good_ratchetref01_low (.start a.1 a.2.1) r h)

/-! ### ratchet/ratchetbase.Mod -/
inductive P_ratchetbase_Mod where
 | start (n0 : Int) (by1 : Int)
noncomputable def place_ratchetbase_Mod : P_ratchetbase_Mod → List Bool
 | .start .. => []
noncomputable def st_ratchetbase_Mod : P_ratchetbase_Mod → St E.S
 | .start n0 by1 => st0 14 [.v (.int .i64 n0), .v (.int .i64 by1)] []
abbrev R_ratchetbase_Mod : Type := ((Int × Unit) × Unit)
noncomputable def res_ratchetbase_Mod : Res E (Int × Unit) Unit := { rows := [], flat := [], keep := 0, rl := (RdL.cons (Rd.int .i64) RdL.nil), rb := RdBL.nil }
noncomputable def run_ratchetbase_Mod : P_ratchetbase_Mod → Option R_ratchetbase_Mod
 | .start n0 by1 =>
   if (!(by1 == (0 : Int))) = true then
     if (decide ((Int.tmod n0 by1) < (0 : Int))) = true then
       some ((IntKind.wrap .i64 ((Int.tmod n0 by1) + by1), ()), ())
     else
       some ((Int.tmod n0 by1, ()), ())
   else none
noncomputable def tab_ratchetbase_Mod : List (Plc E P_ratchetbase_Mod) := []
theorem tab_ratchetbase_Mod_ok : All (PlcOk 14 0 place_ratchetbase_Mod st_ratchetbase_Mod) tab_ratchetbase_Mod := trivial
noncomputable def spec_ratchetbase_Mod : Spec E.S := noSpec
theorem spec_ratchetbase_Mod_ok : SpecOk E spec_ratchetbase_Mod := noSpec_ok
noncomputable def code_ratchetbase_Mod : Code := Tryd.f30.body.getD .skip
theorem good_ratchetbase_Mod : ∀ pt r, run_ratchetbase_Mod pt = some r → Good E Tryd.f30 code_ratchetbase_Mod 0 (res_ratchetbase_Mod.av r) (res_ratchetbase_Mod.bx r) (place_ratchetbase_Mod pt) (st_ratchetbase_Mod pt) := by
  intro pt r hr
  cases pt <;> exact fn_step (spec := spec_ratchetbase_Mod) (wr := (fun i => mem i [])) (l := tab_ratchetbase_Mod) (z := 14) (p := res_ratchetbase_Mod) (run' := fun _ => none) E_ok tab_ratchetbase_Mod_ok.mem rfl spec_ratchetbase_Mod_ok (fun _ _ h => by cases h) (Eq.trans (by kernel_rfl) hr)
noncomputable def con_ratchetbase_Mod : Con E := ⟨30, (Int × (Int × Unit)), Unit, (RwL.cons (Rd.int .i64).w (RwL.cons (Rd.int .i64).w RwL.nil)), RdBL.nil, 0, R_ratchetbase_Mod, fun a b => run_ratchetbase_Mod (.start a.1 a.2.1), res_ratchetbase_Mod.av, res_ratchetbase_Mod.bx⟩
theorem con_ratchetbase_Mod_ok : con_ratchetbase_Mod.Ok := fun a b r h => fn_ok (fn := Tryd.f30) (code := code_ratchetbase_Mod) E_ok (by kernel_rfl) (by kernel_rfl) (by kernel_rfl) (Nat.le_of_ble_eq_true rfl) (good_ratchetbase_Mod (.start a.1 a.2.1) r h)

/-! ### ratchet/ratchetref01.whole -/
inductive P_ratchetref01_whole where
 | start (l0 : (List Int))
 | p116 (l0 : (List Int)) (n3 : Int) (i4 : Int)
noncomputable def place_ratchetref01_whole : P_ratchetref01_whole → List Bool
 | .start .. => []
 | .p116 .. => [false, false, true, false, true, true]
noncomputable def st_ratchetref01_whole : P_ratchetref01_whole → St E.S
 | .start l0 => st0 20 [.sl 3 l0 false] []
 | .p116 l0 n3 i4 => mkSt 20 [0, 3, 4] [.sl 3 l0 false, .v (.int .i64 n3), .v (.int .i64 i4)] []
abbrev R_ratchetref01_whole : Type := ((Int × Unit) × Unit)
noncomputable def res_ratchetref01_whole : Res E (Int × Unit) Unit := { rows := [], flat := [], keep := 0, rl := (RdL.cons (Rd.int .i64) RdL.nil), rb := RdBL.nil }
noncomputable def run_ratchetref01_whole : P_ratchetref01_whole → Option R_ratchetref01_whole
 | .start l0 =>
   run_ratchetref01_whole (.p116 l0 (0 : Int) (IntKind.wrap .i64 ((List.length l0 : Int) - (1 : Int))))
 | .p116 l0 n3 i4 =>
   if (decide (i4 ≥ (0 : Int))) = true then
     (idx l0 i4) >>= fun t1 =>
     run_ratchetref01_whole (.p116 l0 (IntKind.wrap .i64 ((IntKind.wrap .i64 ((2 : Int) * n3)) + t1)) (IntKind.wrap .i64 (i4 - (1 : Int))))
   else
     some ((n3, ()), ())
  partial_fixpoint
noncomputable def tab_ratchetref01_whole : List (Plc E P_ratchetref01_whole) := [⟨116, [false, false, true, false, true, true], { slots := [0, 3, 4], rows := [], flat := [], keep := 0 }, ((List Int) × (Int × (Int × Unit))), Unit, (RdL.cons (Rd.sl 3 false) (RdL.cons (Rd.int .i64) (RdL.cons (Rd.int .i64) RdL.nil))), RdBL.nil, fun a b => .p116 a.1 a.2.1 a.2.2.1⟩]
theorem tab_ratchetref01_whole_ok : All (PlcOk 20 0 place_ratchetref01_whole st_ratchetref01_whole) tab_ratchetref01_whole := ⟨⟨rfl, rfl, fun _ _ => rfl, fun _ _ => rfl⟩, trivial⟩
noncomputable def spec_ratchetref01_whole : Spec E.S := noSpec
theorem spec_ratchetref01_whole_ok : SpecOk E spec_ratchetref01_whole := noSpec_ok
noncomputable def code_ratchetref01_whole : Code := Tryd.f73.body.getD .skip
theorem good_ratchetref01_whole : ∀ pt r, run_ratchetref01_whole pt = some r → Good E Tryd.f73 code_ratchetref01_whole 0 (res_ratchetref01_whole.av r) (res_ratchetref01_whole.bx r) (place_ratchetref01_whole pt) (st_ratchetref01_whole pt) := by
  refine run_ratchetref01_whole.partial_correctness (fun pt r => Good E Tryd.f73 code_ratchetref01_whole 0 (res_ratchetref01_whole.av r) (res_ratchetref01_whole.bx r) (place_ratchetref01_whole pt) (st_ratchetref01_whole pt)) ?_
  intro run' ih pt r hr
  cases pt <;> exact fn_step (spec := spec_ratchetref01_whole) (wr := (fun i => mem i [])) (l := tab_ratchetref01_whole) (z := 20) (p := res_ratchetref01_whole) E_ok tab_ratchetref01_whole_ok.mem rfl spec_ratchetref01_whole_ok ih (Eq.trans (by kernel_rfl) hr)
noncomputable def con_ratchetref01_whole : Con E := ⟨73, ((List Int) × Unit), Unit, (RwL.cons (Rw.sl 3) RwL.nil), RdBL.nil, 0, R_ratchetref01_whole, fun a b => run_ratchetref01_whole (.start a.1), res_ratchetref01_whole.av, res_ratchetref01_whole.bx⟩
theorem con_ratchetref01_whole_ok : con_ratchetref01_whole.Ok := fun a b r h => fn_ok (fn := Tryd.f73) (code := code_ratchetref01_whole) E_ok (by kernel_rfl) (by kernel_rfl) (by kernel_rfl) (Nat.le_of_ble_eq_true rfl) (good_ratchetref01_whole (.start a.1) r h)

/-! ### ratchet/ratchetref01.Shift -/
inductive P_ratchetref01_Shift where
 | start (a0_0 : Int) (a0_1 : Int) (kind1 : Int) (by2 : Int)
 | p244 (kind1 : Int) (by2 : Int) (i9 : Int) (B0_0 : Int) (B0_1 : Int) (B1_0 : Int) (B1_1 : Int) (B2 : (List Int)) (B3 : (List Int))
noncomputable def place_ratchetref01_Shift : P_ratchetref01_Shift → List Bool
 | .start .. => []
 | .p244 .. => [false, false, true, false, true, true, true]
noncomputable def st_ratchetref01_Shift : P_ratchetref01_Shift → St E.S
 | .start a0_0 a0_1 kind1 by2 => st0 91 [.agg [.v (.int .i64 a0_0), .v (.int .i64 a0_1)], .v (.int .i64 kind1), .v (.int .i64 by2)] []
 | .p244 kind1 by2 i9 B0_0 B0_1 B1_0 B1_1 B2 B3 => mkSt 91 [1, 2, 3, 6, 7, 8, 9] [.v (.int .i64 kind1), .v (.int .i64 by2), .bp 0 0, .bp 1 0, .rw 2, .rw 3, .v (.int .i64 i9)] [.var 23 [.v (.int .i64 B0_0), .v (.int .i64 B0_1)], .var 23 [.v (.int .i64 B1_0), .v (.int .i64 B1_1)], .row 3 B2 true, .row 3 B3 true]
abbrev R_ratchetref01_Shift : Type := (((Int × (Int × Unit)) × Unit) × Unit)
noncomputable def res_ratchetref01_Shift : Res E ((Int × (Int × Unit)) × Unit) Unit := { rows := [], flat := [], keep := 0, rl := (RdL.cons (Rd.agg (RdL.cons (Rd.int .i64) (RdL.cons (Rd.int .i64) RdL.nil))) RdL.nil), rb := RdBL.nil }
noncomputable def run_ratchetref01_Shift : P_ratchetref01_Shift → Option R_ratchetref01_Shift
 | .start a0_0 a0_1 kind1 by2 =>
   (run_ratchetref01_low (.start a0_1 a0_0)) >>= fun t1 =>
   run_ratchetref01_Shift (.p244 kind1 by2 (0 : Int) a0_0 a0_1 (0 : Int) (0 : Int) t1.2.1 ([]))
 | .p244 kind1 by2 i9 B0_0 B0_1 B1_0 B1_1 B2 B3 =>
   if (decide (i9 < B0_0)) = true then
     if (kind1 == (0 : Int)) = true then
       if (decide (i9 ≥ by2)) = true then
         if (decide ((0 : Int) ≤ (IntKind.wrap .i64 (i9 - by2))) && decide ((IntKind.wrap .i64 (i9 - by2)) < (List.length B2 : Int))) = true then
           (idx B2 (IntKind.wrap .i64 (i9 - by2))) >>= fun t1 =>
           if (fits (List.length B3) (List.length ([t1] : List Int)) 8) = true then
             run_ratchetref01_Shift (.p244 kind1 by2 (IntKind.wrap .i64 (i9 + (1 : Int))) B0_0 B0_1 B1_0 B1_1 B2 (B3 ++ ([t1] : List Int)))
           else none
         else none
       else
         if (fits (List.length B3) (List.length ([(0 : Int)] : List Int)) 8) = true then
           run_ratchetref01_Shift (.p244 kind1 by2 (IntKind.wrap .i64 (i9 + (1 : Int))) B0_0 B0_1 B1_0 B1_1 B2 (B3 ++ ([(0 : Int)] : List Int)))
         else none
     else
       if (kind1 == (1 : Int)) = true then
         if (decide ((IntKind.wrap .i64 (i9 + by2)) < B0_0)) = true then
           if (decide ((0 : Int) ≤ (IntKind.wrap .i64 (i9 + by2))) && decide ((IntKind.wrap .i64 (i9 + by2)) < (List.length B2 : Int))) = true then
             (idx B2 (IntKind.wrap .i64 (i9 + by2))) >>= fun t2 =>
             if (fits (List.length B3) (List.length ([t2] : List Int)) 8) = true then
               run_ratchetref01_Shift (.p244 kind1 by2 (IntKind.wrap .i64 (i9 + (1 : Int))) B0_0 B0_1 B1_0 B1_1 B2 (B3 ++ ([t2] : List Int)))
             else none
           else none
         else
           if (fits (List.length B3) (List.length ([(0 : Int)] : List Int)) 8) = true then
             run_ratchetref01_Shift (.p244 kind1 by2 (IntKind.wrap .i64 (i9 + (1 : Int))) B0_0 B0_1 B1_0 B1_1 B2 (B3 ++ ([(0 : Int)] : List Int)))
           else none
       else
         if (kind1 == (2 : Int)) = true then
           if (decide ((0 : Int) ≤ (if (IntKind.wrap .i64 (B0_0 - (1 : Int))) < (IntKind.wrap .i64 (i9 + by2)) then (IntKind.wrap .i64 (B0_0 - (1 : Int))) else (IntKind.wrap .i64 (i9 + by2)))) && decide ((if (IntKind.wrap .i64 (B0_0 - (1 : Int))) < (IntKind.wrap .i64 (i9 + by2)) then (IntKind.wrap .i64 (B0_0 - (1 : Int))) else (IntKind.wrap .i64 (i9 + by2))) < (List.length B2 : Int))) = true then
             (idx B2 (if (IntKind.wrap .i64 (B0_0 - (1 : Int))) < (IntKind.wrap .i64 (i9 + by2)) then (IntKind.wrap .i64 (B0_0 - (1 : Int))) else (IntKind.wrap .i64 (i9 + by2)))) >>= fun t3 =>
             if (fits (List.length B3) (List.length ([t3] : List Int)) 8) = true then
               run_ratchetref01_Shift (.p244 kind1 by2 (IntKind.wrap .i64 (i9 + (1 : Int))) B0_0 B0_1 B1_0 B1_1 B2 (B3 ++ ([t3] : List Int)))
             else none
           else none
         else
           if (kind1 == (3 : Int)) = true then
             (run_ratchetbase_Mod (.start (IntKind.wrap .i64 (i9 - by2)) B0_0)) >>= fun t4 =>
             if (decide ((0 : Int) ≤ t4.1.1) && decide (t4.1.1 < (List.length B2 : Int))) = true then
               (idx B2 t4.1.1) >>= fun t5 =>
               if (fits (List.length B3) (List.length ([t5] : List Int)) 8) = true then
                 run_ratchetref01_Shift (.p244 kind1 by2 (IntKind.wrap .i64 (i9 + (1 : Int))) B0_0 B0_1 B1_0 B1_1 B2 (B3 ++ ([t5] : List Int)))
               else none
             else none
           else
             if (kind1 == (4 : Int)) = true then
               (run_ratchetbase_Mod (.start (IntKind.wrap .i64 (i9 + by2)) B0_0)) >>= fun t6 =>
               if (decide ((0 : Int) ≤ t6.1.1) && decide (t6.1.1 < (List.length B2 : Int))) = true then
                 (idx B2 t6.1.1) >>= fun t7 =>
                 if (fits (List.length B3) (List.length ([t7] : List Int)) 8) = true then
                   run_ratchetref01_Shift (.p244 kind1 by2 (IntKind.wrap .i64 (i9 + (1 : Int))) B0_0 B0_1 B1_0 B1_1 B2 (B3 ++ ([t7] : List Int)))
                 else none
               else none
             else
               if (fits (List.length B3) (List.length ([(0 : Int)] : List Int)) 8) = true then
                 run_ratchetref01_Shift (.p244 kind1 by2 (IntKind.wrap .i64 (i9 + (1 : Int))) B0_0 B0_1 B1_0 B1_1 B2 (B3 ++ ([(0 : Int)] : List Int)))
               else none
   else
     (run_ratchetref01_whole (.start B3)) >>= fun t8 =>
     some (((B0_0, (t8.1.1, ())), ()), ())
  partial_fixpoint
noncomputable def tab_ratchetref01_Shift : List (Plc E P_ratchetref01_Shift) := [⟨244, [false, false, true, false, true, true, true], { slots := [1, 2, 3, 6, 7, 8, 9], rows := [(8, 3)], flat := [], keep := 0 }, (Int × (Int × (Unit × (Unit × (Unit × (Unit × (Int × Unit))))))), ((Int × (Int × Unit)) × ((Int × (Int × Unit)) × ((List Int) × ((List Int) × Unit)))), (RdL.cons (Rd.int .i64) (RdL.cons (Rd.int .i64) (RdL.cons (Rd.bp 0 0) (RdL.cons (Rd.bp 1 0) (RdL.cons (Rd.rw 2) (RdL.cons (Rd.rw 3) (RdL.cons (Rd.int .i64) RdL.nil))))))), (RdBL.cons (RdB.var 23 (RdL.cons (Rd.int .i64) (RdL.cons (Rd.int .i64) RdL.nil))) (RdBL.cons (RdB.var 23 (RdL.cons (Rd.int .i64) (RdL.cons (Rd.int .i64) RdL.nil))) (RdBL.cons (RdB.row 3 true) (RdBL.cons (RdB.row 3 true) RdBL.nil)))), fun a b => .p244 a.1 a.2.1 a.2.2.2.2.2.2.1 b.1.1 b.1.2.1 b.2.1.1 b.2.1.2.1 b.2.2.1 b.2.2.2.1⟩]
theorem tab_ratchetref01_Shift_ok : All (PlcOk 91 0 place_ratchetref01_Shift st_ratchetref01_Shift) tab_ratchetref01_Shift := ⟨⟨rfl, rfl, fun _ _ => rfl, fun _ _ => rfl⟩, trivial⟩
noncomputable def spec_ratchetref01_Shift : Spec E.S := (Con.add con_ratchetref01_whole (Con.add con_ratchetbase_Mod (Con.add con_ratchetref01_low noSpec)))
theorem spec_ratchetref01_Shift_ok : SpecOk E spec_ratchetref01_Shift := (Con.add_ok con_ratchetref01_whole_ok (Con.add_ok con_ratchetbase_Mod_ok (Con.add_ok con_ratchetref01_low_ok noSpec_ok)))
noncomputable def code_ratchetref01_Shift : Code := Tryd.f14.body.getD .skip
theorem good_ratchetref01_Shift : ∀ pt r, run_ratchetref01_Shift pt = some r → Good E Tryd.f14 code_ratchetref01_Shift 0 (res_ratchetref01_Shift.av r) (res_ratchetref01_Shift.bx r) (place_ratchetref01_Shift pt) (st_ratchetref01_Shift pt) := by
  refine run_ratchetref01_Shift.partial_correctness (fun pt r => Good E Tryd.f14 code_ratchetref01_Shift 0 (res_ratchetref01_Shift.av r) (res_ratchetref01_Shift.bx r) (place_ratchetref01_Shift pt) (st_ratchetref01_Shift pt)) ?_
  intro run' ih pt r hr
  cases pt <;> exact fn_step (spec := spec_ratchetref01_Shift) (wr := (fun i => mem i [])) (l := tab_ratchetref01_Shift) (z := 91) (p := res_ratchetref01_Shift) E_ok tab_ratchetref01_Shift_ok.mem rfl spec_ratchetref01_Shift_ok ih (Eq.trans (by kernel_rfl) hr)
noncomputable def con_ratchetref01_Shift : Con E := ⟨14, ((Int × (Int × Unit)) × (Int × (Int × Unit))), Unit, (RwL.cons (Rw.agg (RwL.cons (Rd.int .i64).w (RwL.cons (Rd.int .i64).w RwL.nil))) (RwL.cons (Rd.int .i64).w (RwL.cons (Rd.int .i64).w RwL.nil))), RdBL.nil, 0, R_ratchetref01_Shift, fun a b => run_ratchetref01_Shift (.start a.1.1 a.1.2.1 a.2.1 a.2.2.1), res_ratchetref01_Shift.av, res_ratchetref01_Shift.bx⟩
theorem con_ratchetref01_Shift_ok : con_ratchetref01_Shift.Ok := fun a b r h => fn_ok (fn := Tryd.f14) (code := code_ratchetref01_Shift) E_ok (by kernel_rfl) (by kernel_rfl) (by kernel_rfl) (Nat.le_of_ble_eq_true rfl) (good_ratchetref01_Shift (.start a.1.1 a.1.2.1 a.2.1 a.2.2.1) r h)

/-! ### ratchet/ratchetlaw01.BitsShifts -/
inductive P_ratchetlaw01_BitsShifts where
 | start (a0_0 : Int) (a0_1 : Int) (kind1 : Int) (by2 : Int)
 | p63 (by2 : Int) (B0_0 : Int) (B0_1 : Int)
noncomputable def place_ratchetlaw01_BitsShifts : P_ratchetlaw01_BitsShifts → List Bool
 | .start .. => []
 | .p63 .. => [true, true, true, true, true]
noncomputable def st_ratchetlaw01_BitsShifts : P_ratchetlaw01_BitsShifts → St E.S
 | .start a0_0 a0_1 kind1 by2 => st0 70 [.agg [.v (.int .i64 a0_0), .v (.int .i64 a0_1)], .v (.int .i64 kind1), .v (.int .i64 by2)] []
 | .p63 by2 B0_0 B0_1 => mkSt 70 [2, 3] [.v (.int .i64 by2), .bp 0 0] [.var 23 [.v (.int .i64 B0_0), .v (.int .i64 B0_1)]]
abbrev R_ratchetlaw01_BitsShifts : Type := ((Bool × Unit) × Unit)
noncomputable def res_ratchetlaw01_BitsShifts : Res E (Bool × Unit) Unit := { rows := [], flat := [], keep := 0, rl := (RdL.cons Rd.bool RdL.nil), rb := RdBL.nil }
noncomputable def run_ratchetlaw01_BitsShifts : P_ratchetlaw01_BitsShifts → Option R_ratchetlaw01_BitsShifts
 | .start a0_0 a0_1 kind1 by2 =>
   (some () : Option Unit) >>= fun t1 =>
   if (!true) = true then
     some ((false, ()), ())
   else
     (run_bits_Shifted (.start a0_0 a0_1 kind1 by2)) >>= fun t2 =>
     (run_ratchetref01_ShiftErr (.start a0_0 a0_1 kind1 by2)) >>= fun t3 =>
     if (t3.1.1 != (0 : Int)) = true then
       if (t2.1.2.1 == t3.1.1) = true then
         some ((((t2.1.1.1 == (0 : Int)) && ((t2.1.1.2.1 == (0 : Int)) && true)), ()), ())
       else
         some ((false, ()), ())
     else
       if (t2.1.2.1 != (0 : Int)) = true then
         some ((false, ()), ())
       else
         (run_ratchetref01_Shift (.start a0_0 a0_1 kind1 by2)) >>= fun t4 =>
         if (!((t2.1.1.1 == t4.1.1.1) && ((t2.1.1.2.1 == t4.1.1.2.1) && true))) = true then
           some ((false, ()), ())
         else
           run_ratchetlaw01_BitsShifts (.p63 by2 a0_0 a0_1)
 | .p63 by2 B0_0 B0_1 =>
   (run_bits_Shifted (.start B0_0 B0_1 (3 : Int) by2)) >>= fun t1 =>
   (run_bits_Shifted (.start t1.1.1.1 t1.1.1.2.1 (4 : Int) by2)) >>= fun t2 =>
   if (t1.1.2.1 == (0 : Int)) = true then
     if (t2.1.2.1 == (0 : Int)) = true then
       some ((((t2.1.1.1 == B0_0) && ((t2.1.1.2.1 == B0_1) && true)), ()), ())
     else
       some ((false, ()), ())
   else
     some ((false, ()), ())
  partial_fixpoint
noncomputable def tab_ratchetlaw01_BitsShifts : List (Plc E P_ratchetlaw01_BitsShifts) := [⟨63, [true, true, true, true, true], { slots := [2, 3], rows := [], flat := [], keep := 0 }, (Int × (Unit × Unit)), ((Int × (Int × Unit)) × Unit), (RdL.cons (Rd.int .i64) (RdL.cons (Rd.bp 0 0) RdL.nil)), (RdBL.cons (RdB.var 23 (RdL.cons (Rd.int .i64) (RdL.cons (Rd.int .i64) RdL.nil))) RdBL.nil), fun a b => .p63 a.1 b.1.1 b.1.2.1⟩]
theorem tab_ratchetlaw01_BitsShifts_ok : All (PlcOk 70 0 place_ratchetlaw01_BitsShifts st_ratchetlaw01_BitsShifts) tab_ratchetlaw01_BitsShifts := ⟨⟨rfl, rfl, fun _ _ => rfl, fun _ _ => rfl⟩, trivial⟩
noncomputable def spec_ratchetlaw01_BitsShifts : Spec E.S := (Con.add con_ratchetref01_Shift (Con.add con_ratchetref01_ShiftErr (Con.add con_bits_Shifted (Con.add con_ratchetlaw01_awake noSpec))))
theorem spec_ratchetlaw01_BitsShifts_ok : SpecOk E spec_ratchetlaw01_BitsShifts := (Con.add_ok con_ratchetref01_Shift_ok (Con.add_ok con_ratchetref01_ShiftErr_ok (Con.add_ok con_bits_Shifted_ok (Con.add_ok con_ratchetlaw01_awake_ok noSpec_ok))))
noncomputable def code_ratchetlaw01_BitsShifts : Code := Tryd.f3.body.getD .skip
theorem good_ratchetlaw01_BitsShifts : ∀ pt r, run_ratchetlaw01_BitsShifts pt = some r → Good E Tryd.f3 code_ratchetlaw01_BitsShifts 0 (res_ratchetlaw01_BitsShifts.av r) (res_ratchetlaw01_BitsShifts.bx r) (place_ratchetlaw01_BitsShifts pt) (st_ratchetlaw01_BitsShifts pt) := by
  refine run_ratchetlaw01_BitsShifts.partial_correctness (fun pt r => Good E Tryd.f3 code_ratchetlaw01_BitsShifts 0 (res_ratchetlaw01_BitsShifts.av r) (res_ratchetlaw01_BitsShifts.bx r) (place_ratchetlaw01_BitsShifts pt) (st_ratchetlaw01_BitsShifts pt)) ?_
  intro run' ih pt r hr
  cases pt <;> exact fn_step (spec := spec_ratchetlaw01_BitsShifts) (wr := (fun i => mem i [])) (l := tab_ratchetlaw01_BitsShifts) (z := 70) (p := res_ratchetlaw01_BitsShifts) E_ok tab_ratchetlaw01_BitsShifts_ok.mem rfl spec_ratchetlaw01_BitsShifts_ok ih (Eq.trans (by kernel_rfl) hr)
noncomputable def con_ratchetlaw01_BitsShifts : Con E := ⟨3, ((Int × (Int × Unit)) × (Int × (Int × Unit))), Unit, (RwL.cons (Rw.agg (RwL.cons (Rd.int .i64).w (RwL.cons (Rd.int .i64).w RwL.nil))) (RwL.cons (Rd.int .i64).w (RwL.cons (Rd.int .i64).w RwL.nil))), RdBL.nil, 0, R_ratchetlaw01_BitsShifts, fun a b => run_ratchetlaw01_BitsShifts (.start a.1.1 a.1.2.1 a.2.1 a.2.2.1), res_ratchetlaw01_BitsShifts.av, res_ratchetlaw01_BitsShifts.bx⟩
theorem con_ratchetlaw01_BitsShifts_ok : con_ratchetlaw01_BitsShifts.Ok := fun a b r h => fn_ok (fn := Tryd.f3) (code := code_ratchetlaw01_BitsShifts) E_ok (by kernel_rfl) (by kernel_rfl) (by kernel_rfl) (Nat.le_of_ble_eq_true rfl) (good_ratchetlaw01_BitsShifts (.start a.1.1 a.1.2.1 a.2.1 a.2.2.1) r h)

/-! ### ratchet/bits.pair -/
inductive P_bits_pair where
 | start (a0_0 : Int) (a0_1 : Int) (b1_0 : Int) (b1_1 : Int)
noncomputable def place_bits_pair : P_bits_pair → List Bool
 | .start .. => []
noncomputable def st_bits_pair : P_bits_pair → St E.S
 | .start a0_0 a0_1 b1_0 b1_1 => st0 17 [.agg [.v (.int .i64 a0_0), .v (.int .i64 a0_1)], .agg [.v (.int .i64 b1_0), .v (.int .i64 b1_1)]] []
abbrev R_bits_pair : Type := ((Int × Unit) × Unit)
noncomputable def res_bits_pair : Res E (Int × Unit) Unit := { rows := [], flat := [], keep := 0, rl := (RdL.cons (Rd.int .i64) RdL.nil), rb := RdBL.nil }
noncomputable def run_bits_pair : P_bits_pair → Option R_bits_pair
 | .start a0_0 a0_1 b1_0 b1_1 =>
   (run_bits_CheckBits (.start a0_0 a0_1)) >>= fun t1 =>
   (run_bits_CheckBits (.start b1_0 b1_1)) >>= fun t2 =>
   (run_bits_unless (.start (a0_0 == b1_0) (25 : Int))) >>= fun t3 =>
   (run_bits_first (.start ([t1.1.1, t2.1.1, t3.1.1] : List Int))) >>= fun t4 =>
   some ((t4.1.1, ()), ())
noncomputable def tab_bits_pair : List (Plc E P_bits_pair) := []
theorem tab_bits_pair_ok : All (PlcOk 17 0 place_bits_pair st_bits_pair) tab_bits_pair := trivial
noncomputable def spec_bits_pair : Spec E.S := (Con.add con_bits_first (Con.add con_bits_unless (Con.add con_bits_CheckBits noSpec)))
theorem spec_bits_pair_ok : SpecOk E spec_bits_pair := (Con.add_ok con_bits_first_ok (Con.add_ok con_bits_unless_ok (Con.add_ok con_bits_CheckBits_ok noSpec_ok)))
noncomputable def code_bits_pair : Code := Tryd.f74.body.getD .skip
theorem good_bits_pair : ∀ pt r, run_bits_pair pt = some r → Good E Tryd.f74 code_bits_pair 0 (res_bits_pair.av r) (res_bits_pair.bx r) (place_bits_pair pt) (st_bits_pair pt) := by
  intro pt r hr
  cases pt <;> exact fn_step (spec := spec_bits_pair) (wr := (fun i => mem i [])) (l := tab_bits_pair) (z := 17) (p := res_bits_pair) (run' := fun _ => none) E_ok tab_bits_pair_ok.mem rfl spec_bits_pair_ok (fun _ _ h => by cases h) (Eq.trans (by kernel_rfl) hr)
noncomputable def con_bits_pair : Con E := ⟨74, ((Int × (Int × Unit)) × ((Int × (Int × Unit)) × Unit)), Unit, (RwL.cons (Rw.agg (RwL.cons (Rd.int .i64).w (RwL.cons (Rd.int .i64).w RwL.nil))) (RwL.cons (Rw.agg (RwL.cons (Rd.int .i64).w (RwL.cons (Rd.int .i64).w RwL.nil))) RwL.nil)), RdBL.nil, 0, R_bits_pair, fun a b => run_bits_pair (.start a.1.1 a.1.2.1 a.2.1.1 a.2.1.2.1), res_bits_pair.av, res_bits_pair.bx⟩
theorem con_bits_pair_ok : con_bits_pair.Ok := fun a b r h => fn_ok (fn := Tryd.f74) (code := code_bits_pair) E_ok (by kernel_rfl) (by kernel_rfl) (by kernel_rfl) (Nat.le_of_ble_eq_true rfl) (good_bits_pair (.start a.1.1 a.1.2.1 a.2.1.1 a.2.1.2.1) r h)

/-! ### ratchet/bits.isBit -/
inductive P_bits_isBit where
 | start (n0 : Int)
noncomputable def place_bits_isBit : P_bits_isBit → List Bool
 | .start .. => []
noncomputable def st_bits_isBit : P_bits_isBit → St E.S
 | .start n0 => st0 5 [.v (.int .i64 n0)] []
abbrev R_bits_isBit : Type := ((Bool × Unit) × Unit)
noncomputable def res_bits_isBit : Res E (Bool × Unit) Unit := { rows := [], flat := [], keep := 0, rl := (RdL.cons Rd.bool RdL.nil), rb := RdBL.nil }
noncomputable def run_bits_isBit : P_bits_isBit → Option R_bits_isBit
 | .start n0 =>
   (run_bits_within (.start n0 (0 : Int) (1 : Int))) >>= fun t1 =>
   some ((t1.1.1, ()), ())
noncomputable def tab_bits_isBit : List (Plc E P_bits_isBit) := []
theorem tab_bits_isBit_ok : All (PlcOk 5 0 place_bits_isBit st_bits_isBit) tab_bits_isBit := trivial
noncomputable def spec_bits_isBit : Spec E.S := (Con.add con_bits_within noSpec)
theorem spec_bits_isBit_ok : SpecOk E spec_bits_isBit := (Con.add_ok con_bits_within_ok noSpec_ok)
noncomputable def code_bits_isBit : Code := Tryd.f75.body.getD .skip
theorem good_bits_isBit : ∀ pt r, run_bits_isBit pt = some r → Good E Tryd.f75 code_bits_isBit 0 (res_bits_isBit.av r) (res_bits_isBit.bx r) (place_bits_isBit pt) (st_bits_isBit pt) := by
  intro pt r hr
  cases pt <;> exact fn_step (spec := spec_bits_isBit) (wr := (fun i => mem i [])) (l := tab_bits_isBit) (z := 5) (p := res_bits_isBit) (run' := fun _ => none) E_ok tab_bits_isBit_ok.mem rfl spec_bits_isBit_ok (fun _ _ h => by cases h) (Eq.trans (by kernel_rfl) hr)
noncomputable def con_bits_isBit : Con E := ⟨75, (Int × Unit), Unit, (RwL.cons (Rd.int .i64).w RwL.nil), RdBL.nil, 0, R_bits_isBit, fun a b => run_bits_isBit (.start a.1), res_bits_isBit.av, res_bits_isBit.bx⟩
theorem con_bits_isBit_ok : con_bits_isBit.Ok := fun a b r h => fn_ok (fn := Tryd.f75) (code := code_bits_isBit) E_ok (by kernel_rfl) (by kernel_rfl) (by kernel_rfl) (Nat.le_of_ble_eq_true rfl) (good_bits_isBit (.start a.1) r h)

/-! ### ratchet/bits.one -/
inductive P_bits_one where
 | start (is0 : Bool)
noncomputable def place_bits_one : P_bits_one → List Bool
 | .start .. => []
noncomputable def st_bits_one : P_bits_one → St E.S
 | .start is0 => st0 4 [.v (.bool is0)] []
abbrev R_bits_one : Type := ((Int × Unit) × Unit)
noncomputable def res_bits_one : Res E (Int × Unit) Unit := { rows := [], flat := [], keep := 0, rl := (RdL.cons (Rd.int .i64) RdL.nil), rb := RdBL.nil }
noncomputable def run_bits_one : P_bits_one → Option R_bits_one
 | .start is0 =>
   if is0 = true then
     some (((1 : Int), ()), ())
   else
     some (((0 : Int), ()), ())
noncomputable def tab_bits_one : List (Plc E P_bits_one) := []
theorem tab_bits_one_ok : All (PlcOk 4 0 place_bits_one st_bits_one) tab_bits_one := trivial
noncomputable def spec_bits_one : Spec E.S := noSpec
theorem spec_bits_one_ok : SpecOk E spec_bits_one := noSpec_ok
noncomputable def code_bits_one : Code := Tryd.f96.body.getD .skip
theorem good_bits_one : ∀ pt r, run_bits_one pt = some r → Good E Tryd.f96 code_bits_one 0 (res_bits_one.av r) (res_bits_one.bx r) (place_bits_one pt) (st_bits_one pt) := by
  intro pt r hr
  cases pt <;> exact fn_step (spec := spec_bits_one) (wr := (fun i => mem i [])) (l := tab_bits_one) (z := 4) (p := res_bits_one) (run' := fun _ => none) E_ok tab_bits_one_ok.mem rfl spec_bits_one_ok (fun _ _ h => by cases h) (Eq.trans (by kernel_rfl) hr)
noncomputable def con_bits_one : Con E := ⟨96, (Bool × Unit), Unit, (RwL.cons Rd.bool.w RwL.nil), RdBL.nil, 0, R_bits_one, fun a b => run_bits_one (.start a.1), res_bits_one.av, res_bits_one.bx⟩
theorem con_bits_one_ok : con_bits_one.Ok := fun a b r h => fn_ok (fn := Tryd.f96) (code := code_bits_one) E_ok (by kernel_rfl) (by kernel_rfl) (by kernel_rfl) (Nat.le_of_ble_eq_true rfl) (good_bits_one (.start a.1) r h)

/-! ### ratchet/bits.flags -/
inductive P_bits_flags where
 | start (width0 : Int) (exact1 : Int) (signed2 : Int)
noncomputable def place_bits_flags : P_bits_flags → List Bool
 | .start .. => []
noncomputable def st_bits_flags : P_bits_flags → St E.S
 | .start width0 exact1 signed2 => st0 33 [.v (.int .i64 width0), .v (.int .i64 exact1), .v (.int .i64 signed2)] []
abbrev R_bits_flags : Type := (((Int × (Int × (Int × (Int × (Int × (Int × Unit)))))) × Unit) × Unit)
noncomputable def res_bits_flags : Res E ((Int × (Int × (Int × (Int × (Int × (Int × Unit)))))) × Unit) Unit := { rows := [], flat := [], keep := 0, rl := (RdL.cons (Rd.agg (RdL.cons (Rd.int .i64) (RdL.cons (Rd.int .i64) (RdL.cons (Rd.int .i64) (RdL.cons (Rd.int .i64) (RdL.cons (Rd.int .i64) (RdL.cons (Rd.int .i64) RdL.nil))))))) RdL.nil), rb := RdBL.nil }
noncomputable def run_bits_flags : P_bits_flags → Option R_bits_flags
 | .start width0 exact1 signed2 =>
   (run_bits_of (.start exact1 width0)) >>= fun t1 =>
   if (decide ((0 : Int) ≤ width0)) = true then
     (run_bits_within (.start exact1 (0 : Int) (IntKind.wrap .i64 ((shl .i64 (1 : Int) width0) - (1 : Int))))) >>= fun t2 =>
     (run_bits_one (.start (!t2.1.1))) >>= fun t3 =>
     (run_bits_word_signed (.start t1.1.1.1 t1.1.1.2.1)) >>= fun t4 =>
     (run_bits_one (.start (t4.1.1 != signed2))) >>= fun t5 =>
     (run_bits_one (.start (t1.1.1.2.1 == (0 : Int)))) >>= fun t6 =>
     (run_bits_word_top (.start t1.1.1.1 t1.1.1.2.1)) >>= fun t7 =>
     some (((t1.1.1.1, (t1.1.1.2.1, (t3.1.1, (t5.1.1, (t6.1.1, (t7.1.1, ())))))), ()), ())
   else none
noncomputable def tab_bits_flags : List (Plc E P_bits_flags) := []
theorem tab_bits_flags_ok : All (PlcOk 33 0 place_bits_flags st_bits_flags) tab_bits_flags := trivial
noncomputable def spec_bits_flags : Spec E.S := (Con.add con_bits_word_top (Con.add con_bits_word_signed (Con.add con_bits_one (Con.add con_bits_within (Con.add con_bits_of noSpec)))))
theorem spec_bits_flags_ok : SpecOk E spec_bits_flags := (Con.add_ok con_bits_word_top_ok (Con.add_ok con_bits_word_signed_ok (Con.add_ok con_bits_one_ok (Con.add_ok con_bits_within_ok (Con.add_ok con_bits_of_ok noSpec_ok)))))
noncomputable def code_bits_flags : Code := Tryd.f76.body.getD .skip
theorem good_bits_flags : ∀ pt r, run_bits_flags pt = some r → Good E Tryd.f76 code_bits_flags 0 (res_bits_flags.av r) (res_bits_flags.bx r) (place_bits_flags pt) (st_bits_flags pt) := by
  intro pt r hr
  cases pt <;> exact fn_step (spec := spec_bits_flags) (wr := (fun i => mem i [])) (l := tab_bits_flags) (z := 33) (p := res_bits_flags) (run' := fun _ => none) E_ok tab_bits_flags_ok.mem rfl spec_bits_flags_ok (fun _ _ h => by cases h) (Eq.trans (by kernel_rfl) hr)
noncomputable def con_bits_flags : Con E := ⟨76, (Int × (Int × (Int × Unit))), Unit, (RwL.cons (Rd.int .i64).w (RwL.cons (Rd.int .i64).w (RwL.cons (Rd.int .i64).w RwL.nil))), RdBL.nil, 0, R_bits_flags, fun a b => run_bits_flags (.start a.1 a.2.1 a.2.2.1), res_bits_flags.av, res_bits_flags.bx⟩
theorem con_bits_flags_ok : con_bits_flags.Ok := fun a b r h => fn_ok (fn := Tryd.f76) (code := code_bits_flags) E_ok (by kernel_rfl) (by kernel_rfl) (by kernel_rfl) (Nat.le_of_ble_eq_true rfl) (good_bits_flags (.start a.1 a.2.1 a.2.2.1) r h)

/-! ### ratchet/bits.AddWith -/
inductive P_bits_AddWith where
 | start (a0_0 : Int) (a0_1 : Int) (b1_0 : Int) (b1_1 : Int) (carry2 : Int)
noncomputable def place_bits_AddWith : P_bits_AddWith → List Bool
 | .start .. => []
noncomputable def st_bits_AddWith : P_bits_AddWith → St E.S
 | .start a0_0 a0_1 b1_0 b1_1 carry2 => st0 40 [.agg [.v (.int .i64 a0_0), .v (.int .i64 a0_1)], .agg [.v (.int .i64 b1_0), .v (.int .i64 b1_1)], .v (.int .i64 carry2)] []
abbrev R_bits_AddWith : Type := (((Int × (Int × (Int × (Int × (Int × (Int × Unit)))))) × (Int × Unit)) × Unit)
noncomputable def res_bits_AddWith : Res E ((Int × (Int × (Int × (Int × (Int × (Int × Unit)))))) × (Int × Unit)) Unit := { rows := [], flat := [], keep := 0, rl := (RdL.cons (Rd.agg (RdL.cons (Rd.int .i64) (RdL.cons (Rd.int .i64) (RdL.cons (Rd.int .i64) (RdL.cons (Rd.int .i64) (RdL.cons (Rd.int .i64) (RdL.cons (Rd.int .i64) RdL.nil))))))) (RdL.cons (Rd.int .i64) RdL.nil)), rb := RdBL.nil }
noncomputable def run_bits_AddWith : P_bits_AddWith → Option R_bits_AddWith
 | .start a0_0 a0_1 b1_0 b1_1 carry2 =>
   (run_bits_pair (.start a0_0 a0_1 b1_0 b1_1)) >>= fun t1 =>
   (run_bits_isBit (.start carry2)) >>= fun t2 =>
   (run_bits_unless (.start t2.1.1 (2 : Int))) >>= fun t3 =>
   (run_bits_first (.start ([t1.1.1, t3.1.1] : List Int))) >>= fun t4 =>
   if (t4.1.1 != (0 : Int)) = true then
     some ((((0 : Int), ((0 : Int), ((0 : Int), ((0 : Int), ((0 : Int), ((0 : Int), ())))))), (t4.1.1, ())), ())
   else
     (run_bits_word_signed (.start a0_0 a0_1)) >>= fun t5 =>
     (run_bits_word_signed (.start b1_0 b1_1)) >>= fun t6 =>
     (run_bits_flags (.start a0_0 (IntKind.wrap .i64 ((IntKind.wrap .i64 (a0_1 + b1_1)) + carry2)) (IntKind.wrap .i64 ((IntKind.wrap .i64 (t5.1.1 + t6.1.1)) + carry2)))) >>= fun t7 =>
     some (((t7.1.1.1, (t7.1.1.2.1, (t7.1.1.2.2.1, (t7.1.1.2.2.2.1, (t7.1.1.2.2.2.2.1, (t7.1.1.2.2.2.2.2.1, ())))))), ((0 : Int), ())), ())
noncomputable def tab_bits_AddWith : List (Plc E P_bits_AddWith) := []
theorem tab_bits_AddWith_ok : All (PlcOk 40 0 place_bits_AddWith st_bits_AddWith) tab_bits_AddWith := trivial
noncomputable def spec_bits_AddWith : Spec E.S := (Con.add con_bits_flags (Con.add con_bits_word_signed (Con.add con_bits_first (Con.add con_bits_unless (Con.add con_bits_isBit (Con.add con_bits_pair noSpec))))))
theorem spec_bits_AddWith_ok : SpecOk E spec_bits_AddWith := (Con.add_ok con_bits_flags_ok (Con.add_ok con_bits_word_signed_ok (Con.add_ok con_bits_first_ok (Con.add_ok con_bits_unless_ok (Con.add_ok con_bits_isBit_ok (Con.add_ok con_bits_pair_ok noSpec_ok))))))
noncomputable def code_bits_AddWith : Code := Tryd.f15.body.getD .skip
theorem good_bits_AddWith : ∀ pt r, run_bits_AddWith pt = some r → Good E Tryd.f15 code_bits_AddWith 0 (res_bits_AddWith.av r) (res_bits_AddWith.bx r) (place_bits_AddWith pt) (st_bits_AddWith pt) := by
  intro pt r hr
  cases pt <;> exact fn_step (spec := spec_bits_AddWith) (wr := (fun i => mem i [])) (l := tab_bits_AddWith) (z := 40) (p := res_bits_AddWith) (run' := fun _ => none) E_ok tab_bits_AddWith_ok.mem rfl spec_bits_AddWith_ok (fun _ _ h => by cases h) (Eq.trans (by kernel_rfl) hr)
noncomputable def con_bits_AddWith : Con E := ⟨15, ((Int × (Int × Unit)) × ((Int × (Int × Unit)) × (Int × Unit))), Unit, (RwL.cons (Rw.agg (RwL.cons (Rd.int .i64).w (RwL.cons (Rd.int .i64).w RwL.nil))) (RwL.cons (Rw.agg (RwL.cons (Rd.int .i64).w (RwL.cons (Rd.int .i64).w RwL.nil))) (RwL.cons (Rd.int .i64).w RwL.nil))), RdBL.nil, 0, R_bits_AddWith, fun a b => run_bits_AddWith (.start a.1.1 a.1.2.1 a.2.1.1 a.2.1.2.1 a.2.2.1), res_bits_AddWith.av, res_bits_AddWith.bx⟩
theorem con_bits_AddWith_ok : con_bits_AddWith.Ok := fun a b r h => fn_ok (fn := Tryd.f15) (code := code_bits_AddWith) E_ok (by kernel_rfl) (by kernel_rfl) (by kernel_rfl) (Nat.le_of_ble_eq_true rfl) (good_bits_AddWith (.start a.1.1 a.1.2.1 a.2.1.1 a.2.1.2.1 a.2.2.1) r h)

/-! ### ratchet/bits.SubWith -/
inductive P_bits_SubWith where
 | start (a0_0 : Int) (a0_1 : Int) (b1_0 : Int) (b1_1 : Int) (borrow2 : Int)
noncomputable def place_bits_SubWith : P_bits_SubWith → List Bool
 | .start .. => []
noncomputable def st_bits_SubWith : P_bits_SubWith → St E.S
 | .start a0_0 a0_1 b1_0 b1_1 borrow2 => st0 40 [.agg [.v (.int .i64 a0_0), .v (.int .i64 a0_1)], .agg [.v (.int .i64 b1_0), .v (.int .i64 b1_1)], .v (.int .i64 borrow2)] []
abbrev R_bits_SubWith : Type := (((Int × (Int × (Int × (Int × (Int × (Int × Unit)))))) × (Int × Unit)) × Unit)
noncomputable def res_bits_SubWith : Res E ((Int × (Int × (Int × (Int × (Int × (Int × Unit)))))) × (Int × Unit)) Unit := { rows := [], flat := [], keep := 0, rl := (RdL.cons (Rd.agg (RdL.cons (Rd.int .i64) (RdL.cons (Rd.int .i64) (RdL.cons (Rd.int .i64) (RdL.cons (Rd.int .i64) (RdL.cons (Rd.int .i64) (RdL.cons (Rd.int .i64) RdL.nil))))))) (RdL.cons (Rd.int .i64) RdL.nil)), rb := RdBL.nil }
noncomputable def run_bits_SubWith : P_bits_SubWith → Option R_bits_SubWith
 | .start a0_0 a0_1 b1_0 b1_1 borrow2 =>
   (run_bits_pair (.start a0_0 a0_1 b1_0 b1_1)) >>= fun t1 =>
   (run_bits_isBit (.start borrow2)) >>= fun t2 =>
   (run_bits_unless (.start t2.1.1 (2 : Int))) >>= fun t3 =>
   (run_bits_first (.start ([t1.1.1, t3.1.1] : List Int))) >>= fun t4 =>
   if (t4.1.1 != (0 : Int)) = true then
     some ((((0 : Int), ((0 : Int), ((0 : Int), ((0 : Int), ((0 : Int), ((0 : Int), ())))))), (t4.1.1, ())), ())
   else
     (run_bits_word_signed (.start a0_0 a0_1)) >>= fun t5 =>
     (run_bits_word_signed (.start b1_0 b1_1)) >>= fun t6 =>
     (run_bits_flags (.start a0_0 (IntKind.wrap .i64 ((IntKind.wrap .i64 (a0_1 - b1_1)) - borrow2)) (IntKind.wrap .i64 ((IntKind.wrap .i64 (t5.1.1 - t6.1.1)) - borrow2)))) >>= fun t7 =>
     some (((t7.1.1.1, (t7.1.1.2.1, (t7.1.1.2.2.1, (t7.1.1.2.2.2.1, (t7.1.1.2.2.2.2.1, (t7.1.1.2.2.2.2.2.1, ())))))), ((0 : Int), ())), ())
noncomputable def tab_bits_SubWith : List (Plc E P_bits_SubWith) := []
theorem tab_bits_SubWith_ok : All (PlcOk 40 0 place_bits_SubWith st_bits_SubWith) tab_bits_SubWith := trivial
noncomputable def spec_bits_SubWith : Spec E.S := (Con.add con_bits_flags (Con.add con_bits_word_signed (Con.add con_bits_first (Con.add con_bits_unless (Con.add con_bits_isBit (Con.add con_bits_pair noSpec))))))
theorem spec_bits_SubWith_ok : SpecOk E spec_bits_SubWith := (Con.add_ok con_bits_flags_ok (Con.add_ok con_bits_word_signed_ok (Con.add_ok con_bits_first_ok (Con.add_ok con_bits_unless_ok (Con.add_ok con_bits_isBit_ok (Con.add_ok con_bits_pair_ok noSpec_ok))))))
noncomputable def code_bits_SubWith : Code := Tryd.f16.body.getD .skip
theorem good_bits_SubWith : ∀ pt r, run_bits_SubWith pt = some r → Good E Tryd.f16 code_bits_SubWith 0 (res_bits_SubWith.av r) (res_bits_SubWith.bx r) (place_bits_SubWith pt) (st_bits_SubWith pt) := by
  intro pt r hr
  cases pt <;> exact fn_step (spec := spec_bits_SubWith) (wr := (fun i => mem i [])) (l := tab_bits_SubWith) (z := 40) (p := res_bits_SubWith) (run' := fun _ => none) E_ok tab_bits_SubWith_ok.mem rfl spec_bits_SubWith_ok (fun _ _ h => by cases h) (Eq.trans (by kernel_rfl) hr)
noncomputable def con_bits_SubWith : Con E := ⟨16, ((Int × (Int × Unit)) × ((Int × (Int × Unit)) × (Int × Unit))), Unit, (RwL.cons (Rw.agg (RwL.cons (Rd.int .i64).w (RwL.cons (Rd.int .i64).w RwL.nil))) (RwL.cons (Rw.agg (RwL.cons (Rd.int .i64).w (RwL.cons (Rd.int .i64).w RwL.nil))) (RwL.cons (Rd.int .i64).w RwL.nil))), RdBL.nil, 0, R_bits_SubWith, fun a b => run_bits_SubWith (.start a.1.1 a.1.2.1 a.2.1.1 a.2.1.2.1 a.2.2.1), res_bits_SubWith.av, res_bits_SubWith.bx⟩
theorem con_bits_SubWith_ok : con_bits_SubWith.Ok := fun a b r h => fn_ok (fn := Tryd.f16) (code := code_bits_SubWith) E_ok (by kernel_rfl) (by kernel_rfl) (by kernel_rfl) (Nat.le_of_ble_eq_true rfl) (good_bits_SubWith (.start a.1.1 a.1.2.1 a.2.1.1 a.2.1.2.1 a.2.2.1) r h)

/-! ### ratchet/ratchetref01.PairErr -/
inductive P_ratchetref01_PairErr where
 | start (a0_0 : Int) (a0_1 : Int) (b1_0 : Int) (b1_1 : Int)
noncomputable def place_ratchetref01_PairErr : P_ratchetref01_PairErr → List Bool
 | .start .. => []
noncomputable def st_ratchetref01_PairErr : P_ratchetref01_PairErr → St E.S
 | .start a0_0 a0_1 b1_0 b1_1 => st0 13 [.agg [.v (.int .i64 a0_0), .v (.int .i64 a0_1)], .agg [.v (.int .i64 b1_0), .v (.int .i64 b1_1)]] []
abbrev R_ratchetref01_PairErr : Type := ((Int × Unit) × Unit)
noncomputable def res_ratchetref01_PairErr : Res E (Int × Unit) Unit := { rows := [], flat := [], keep := 0, rl := (RdL.cons (Rd.int .i64) RdL.nil), rb := RdBL.nil }
noncomputable def run_ratchetref01_PairErr : P_ratchetref01_PairErr → Option R_ratchetref01_PairErr
 | .start a0_0 a0_1 b1_0 b1_1 =>
   (run_ratchetref01_BitsErr (.start a0_0 a0_1)) >>= fun t1 =>
   if (t1.1.1 != (0 : Int)) = true then
     some ((t1.1.1, ()), ())
   else
     (run_ratchetref01_BitsErr (.start b1_0 b1_1)) >>= fun t2 =>
     some ((t2.1.1, ()), ())
noncomputable def tab_ratchetref01_PairErr : List (Plc E P_ratchetref01_PairErr) := []
theorem tab_ratchetref01_PairErr_ok : All (PlcOk 13 0 place_ratchetref01_PairErr st_ratchetref01_PairErr) tab_ratchetref01_PairErr := trivial
noncomputable def spec_ratchetref01_PairErr : Spec E.S := (Con.add con_ratchetref01_BitsErr noSpec)
theorem spec_ratchetref01_PairErr_ok : SpecOk E spec_ratchetref01_PairErr := (Con.add_ok con_ratchetref01_BitsErr_ok noSpec_ok)
noncomputable def code_ratchetref01_PairErr : Code := Tryd.f82.body.getD .skip
theorem good_ratchetref01_PairErr : ∀ pt r, run_ratchetref01_PairErr pt = some r → Good E Tryd.f82 code_ratchetref01_PairErr 0 (res_ratchetref01_PairErr.av r) (res_ratchetref01_PairErr.bx r) (place_ratchetref01_PairErr pt) (st_ratchetref01_PairErr pt) := by
  intro pt r hr
  cases pt <;> exact fn_step (spec := spec_ratchetref01_PairErr) (wr := (fun i => mem i [])) (l := tab_ratchetref01_PairErr) (z := 13) (p := res_ratchetref01_PairErr) (run' := fun _ => none) E_ok tab_ratchetref01_PairErr_ok.mem rfl spec_ratchetref01_PairErr_ok (fun _ _ h => by cases h) (Eq.trans (by kernel_rfl) hr)
noncomputable def con_ratchetref01_PairErr : Con E := ⟨82, ((Int × (Int × Unit)) × ((Int × (Int × Unit)) × Unit)), Unit, (RwL.cons (Rw.agg (RwL.cons (Rd.int .i64).w (RwL.cons (Rd.int .i64).w RwL.nil))) (RwL.cons (Rw.agg (RwL.cons (Rd.int .i64).w (RwL.cons (Rd.int .i64).w RwL.nil))) RwL.nil)), RdBL.nil, 0, R_ratchetref01_PairErr, fun a b => run_ratchetref01_PairErr (.start a.1.1 a.1.2.1 a.2.1.1 a.2.1.2.1), res_ratchetref01_PairErr.av, res_ratchetref01_PairErr.bx⟩
theorem con_ratchetref01_PairErr_ok : con_ratchetref01_PairErr.Ok := fun a b r h => fn_ok (fn := Tryd.f82) (code := code_ratchetref01_PairErr) E_ok (by kernel_rfl) (by kernel_rfl) (by kernel_rfl) (Nat.le_of_ble_eq_true rfl) (good_ratchetref01_PairErr (.start a.1.1 a.1.2.1 a.2.1.1 a.2.1.2.1) r h)

/-! ### ratchet/ratchetref01.TwinErr -/
inductive P_ratchetref01_TwinErr where
 | start (a0_0 : Int) (a0_1 : Int) (b1_0 : Int) (b1_1 : Int)
noncomputable def place_ratchetref01_TwinErr : P_ratchetref01_TwinErr → List Bool
 | .start .. => []
noncomputable def st_ratchetref01_TwinErr : P_ratchetref01_TwinErr → St E.S
 | .start a0_0 a0_1 b1_0 b1_1 => st0 17 [.agg [.v (.int .i64 a0_0), .v (.int .i64 a0_1)], .agg [.v (.int .i64 b1_0), .v (.int .i64 b1_1)]] []
abbrev R_ratchetref01_TwinErr : Type := ((Int × Unit) × Unit)
noncomputable def res_ratchetref01_TwinErr : Res E (Int × Unit) Unit := { rows := [], flat := [], keep := 0, rl := (RdL.cons (Rd.int .i64) RdL.nil), rb := RdBL.nil }
noncomputable def run_ratchetref01_TwinErr : P_ratchetref01_TwinErr → Option R_ratchetref01_TwinErr
 | .start a0_0 a0_1 b1_0 b1_1 =>
   (run_ratchetref01_PairErr (.start a0_0 a0_1 b1_0 b1_1)) >>= fun t1 =>
   if (t1.1.1 != (0 : Int)) = true then
     some ((t1.1.1, ()), ())
   else
     if (a0_0 != b1_0) = true then
       some (((25 : Int), ()), ())
     else
       some (((0 : Int), ()), ())
noncomputable def tab_ratchetref01_TwinErr : List (Plc E P_ratchetref01_TwinErr) := []
theorem tab_ratchetref01_TwinErr_ok : All (PlcOk 17 0 place_ratchetref01_TwinErr st_ratchetref01_TwinErr) tab_ratchetref01_TwinErr := trivial
noncomputable def spec_ratchetref01_TwinErr : Spec E.S := (Con.add con_ratchetref01_PairErr noSpec)
theorem spec_ratchetref01_TwinErr_ok : SpecOk E spec_ratchetref01_TwinErr := (Con.add_ok con_ratchetref01_PairErr_ok noSpec_ok)
noncomputable def code_ratchetref01_TwinErr : Code := Tryd.f80.body.getD .skip
theorem good_ratchetref01_TwinErr : ∀ pt r, run_ratchetref01_TwinErr pt = some r → Good E Tryd.f80 code_ratchetref01_TwinErr 0 (res_ratchetref01_TwinErr.av r) (res_ratchetref01_TwinErr.bx r) (place_ratchetref01_TwinErr pt) (st_ratchetref01_TwinErr pt) := by
  intro pt r hr
  cases pt <;> exact fn_step (spec := spec_ratchetref01_TwinErr) (wr := (fun i => mem i [])) (l := tab_ratchetref01_TwinErr) (z := 17) (p := res_ratchetref01_TwinErr) (run' := fun _ => none) E_ok tab_ratchetref01_TwinErr_ok.mem rfl spec_ratchetref01_TwinErr_ok (fun _ _ h => by cases h) (Eq.trans (by kernel_rfl) hr)
noncomputable def con_ratchetref01_TwinErr : Con E := ⟨80, ((Int × (Int × Unit)) × ((Int × (Int × Unit)) × Unit)), Unit, (RwL.cons (Rw.agg (RwL.cons (Rd.int .i64).w (RwL.cons (Rd.int .i64).w RwL.nil))) (RwL.cons (Rw.agg (RwL.cons (Rd.int .i64).w (RwL.cons (Rd.int .i64).w RwL.nil))) RwL.nil)), RdBL.nil, 0, R_ratchetref01_TwinErr, fun a b => run_ratchetref01_TwinErr (.start a.1.1 a.1.2.1 a.2.1.1 a.2.1.2.1), res_ratchetref01_TwinErr.av, res_ratchetref01_TwinErr.bx⟩
theorem con_ratchetref01_TwinErr_ok : con_ratchetref01_TwinErr.Ok := fun a b r h => fn_ok (fn := Tryd.f80) (code := code_ratchetref01_TwinErr) E_ok (by kernel_rfl) (by kernel_rfl) (by kernel_rfl) (Nat.le_of_ble_eq_true rfl) (good_ratchetref01_TwinErr (.start a.1.1 a.1.2.1 a.2.1.1 a.2.1.2.1) r h)

/-! ### ratchet/ratchetref01.CarryErr -/
inductive P_ratchetref01_CarryErr where
 | start (a0_0 : Int) (a0_1 : Int) (b1_0 : Int) (b1_1 : Int) (carry2 : Int)
noncomputable def place_ratchetref01_CarryErr : P_ratchetref01_CarryErr → List Bool
 | .start .. => []
noncomputable def st_ratchetref01_CarryErr : P_ratchetref01_CarryErr → St E.S
 | .start a0_0 a0_1 b1_0 b1_1 carry2 => st0 17 [.agg [.v (.int .i64 a0_0), .v (.int .i64 a0_1)], .agg [.v (.int .i64 b1_0), .v (.int .i64 b1_1)], .v (.int .i64 carry2)] []
abbrev R_ratchetref01_CarryErr : Type := ((Int × Unit) × Unit)
noncomputable def res_ratchetref01_CarryErr : Res E (Int × Unit) Unit := { rows := [], flat := [], keep := 0, rl := (RdL.cons (Rd.int .i64) RdL.nil), rb := RdBL.nil }
noncomputable def run_ratchetref01_CarryErr : P_ratchetref01_CarryErr → Option R_ratchetref01_CarryErr
 | .start a0_0 a0_1 b1_0 b1_1 carry2 =>
   (run_ratchetref01_TwinErr (.start a0_0 a0_1 b1_0 b1_1)) >>= fun t1 =>
   if (t1.1.1 != (0 : Int)) = true then
     some ((t1.1.1, ()), ())
   else
     (run_ratchetbase_Within (.start carry2 (0 : Int) (1 : Int))) >>= fun t2 =>
     if (!t2.1.1) = true then
       some (((2 : Int), ()), ())
     else
       some (((0 : Int), ()), ())
noncomputable def tab_ratchetref01_CarryErr : List (Plc E P_ratchetref01_CarryErr) := []
theorem tab_ratchetref01_CarryErr_ok : All (PlcOk 17 0 place_ratchetref01_CarryErr st_ratchetref01_CarryErr) tab_ratchetref01_CarryErr := trivial
noncomputable def spec_ratchetref01_CarryErr : Spec E.S := (Con.add con_ratchetbase_Within (Con.add con_ratchetref01_TwinErr noSpec))
theorem spec_ratchetref01_CarryErr_ok : SpecOk E spec_ratchetref01_CarryErr := (Con.add_ok con_ratchetbase_Within_ok (Con.add_ok con_ratchetref01_TwinErr_ok noSpec_ok))
noncomputable def code_ratchetref01_CarryErr : Code := Tryd.f19.body.getD .skip
theorem good_ratchetref01_CarryErr : ∀ pt r, run_ratchetref01_CarryErr pt = some r → Good E Tryd.f19 code_ratchetref01_CarryErr 0 (res_ratchetref01_CarryErr.av r) (res_ratchetref01_CarryErr.bx r) (place_ratchetref01_CarryErr pt) (st_ratchetref01_CarryErr pt) := by
  intro pt r hr
  cases pt <;> exact fn_step (spec := spec_ratchetref01_CarryErr) (wr := (fun i => mem i [])) (l := tab_ratchetref01_CarryErr) (z := 17) (p := res_ratchetref01_CarryErr) (run' := fun _ => none) E_ok tab_ratchetref01_CarryErr_ok.mem rfl spec_ratchetref01_CarryErr_ok (fun _ _ h => by cases h) (Eq.trans (by kernel_rfl) hr)
noncomputable def con_ratchetref01_CarryErr : Con E := ⟨19, ((Int × (Int × Unit)) × ((Int × (Int × Unit)) × (Int × Unit))), Unit, (RwL.cons (Rw.agg (RwL.cons (Rd.int .i64).w (RwL.cons (Rd.int .i64).w RwL.nil))) (RwL.cons (Rw.agg (RwL.cons (Rd.int .i64).w (RwL.cons (Rd.int .i64).w RwL.nil))) (RwL.cons (Rd.int .i64).w RwL.nil))), RdBL.nil, 0, R_ratchetref01_CarryErr, fun a b => run_ratchetref01_CarryErr (.start a.1.1 a.1.2.1 a.2.1.1 a.2.1.2.1 a.2.2.1), res_ratchetref01_CarryErr.av, res_ratchetref01_CarryErr.bx⟩
theorem con_ratchetref01_CarryErr_ok : con_ratchetref01_CarryErr.Ok := fun a b r h => fn_ok (fn := Tryd.f19) (code := code_ratchetref01_CarryErr) E_ok (by kernel_rfl) (by kernel_rfl) (by kernel_rfl) (Nat.le_of_ble_eq_true rfl) (good_ratchetref01_CarryErr (.start a.1.1 a.1.2.1 a.2.1.1 a.2.1.2.1 a.2.2.1) r h)

/-! ### ratchet/ratchetbase.Signed -/
inductive P_ratchetbase_Signed where
 | start (n0 : Int) (width1 : Int)
noncomputable def place_ratchetbase_Signed : P_ratchetbase_Signed → List Bool
 | .start .. => []
noncomputable def st_ratchetbase_Signed : P_ratchetbase_Signed → St E.S
 | .start n0 width1 => st0 15 [.v (.int .i64 n0), .v (.int .i64 width1)] []
abbrev R_ratchetbase_Signed : Type := ((Int × Unit) × Unit)
noncomputable def res_ratchetbase_Signed : Res E (Int × Unit) Unit := { rows := [], flat := [], keep := 0, rl := (RdL.cons (Rd.int .i64) RdL.nil), rb := RdBL.nil }
noncomputable def run_ratchetbase_Signed : P_ratchetbase_Signed → Option R_ratchetbase_Signed
 | .start n0 width1 =>
   (run_ratchetbase_Power (.start (IntKind.wrap .i64 (width1 - (1 : Int))))) >>= fun t1 =>
   if (decide (n0 ≥ t1.1.1)) = true then
     (run_ratchetbase_Power (.start width1)) >>= fun t2 =>
     some ((IntKind.wrap .i64 (n0 - t2.1.1), ()), ())
   else
     some ((n0, ()), ())
noncomputable def tab_ratchetbase_Signed : List (Plc E P_ratchetbase_Signed) := []
theorem tab_ratchetbase_Signed_ok : All (PlcOk 15 0 place_ratchetbase_Signed st_ratchetbase_Signed) tab_ratchetbase_Signed := trivial
noncomputable def spec_ratchetbase_Signed : Spec E.S := (Con.add con_ratchetbase_Power noSpec)
theorem spec_ratchetbase_Signed_ok : SpecOk E spec_ratchetbase_Signed := (Con.add_ok con_ratchetbase_Power_ok noSpec_ok)
noncomputable def code_ratchetbase_Signed : Code := Tryd.f32.body.getD .skip
theorem good_ratchetbase_Signed : ∀ pt r, run_ratchetbase_Signed pt = some r → Good E Tryd.f32 code_ratchetbase_Signed 0 (res_ratchetbase_Signed.av r) (res_ratchetbase_Signed.bx r) (place_ratchetbase_Signed pt) (st_ratchetbase_Signed pt) := by
  intro pt r hr
  cases pt <;> exact fn_step (spec := spec_ratchetbase_Signed) (wr := (fun i => mem i [])) (l := tab_ratchetbase_Signed) (z := 15) (p := res_ratchetbase_Signed) (run' := fun _ => none) E_ok tab_ratchetbase_Signed_ok.mem rfl spec_ratchetbase_Signed_ok (fun _ _ h => by cases h) (Eq.trans (by kernel_rfl) hr)
noncomputable def con_ratchetbase_Signed : Con E := ⟨32, (Int × (Int × Unit)), Unit, (RwL.cons (Rd.int .i64).w (RwL.cons (Rd.int .i64).w RwL.nil)), RdBL.nil, 0, R_ratchetbase_Signed, fun a b => run_ratchetbase_Signed (.start a.1 a.2.1), res_ratchetbase_Signed.av, res_ratchetbase_Signed.bx⟩
theorem con_ratchetbase_Signed_ok : con_ratchetbase_Signed.Ok := fun a b r h => fn_ok (fn := Tryd.f32) (code := code_ratchetbase_Signed) E_ok (by kernel_rfl) (by kernel_rfl) (by kernel_rfl) (Nat.le_of_ble_eq_true rfl) (good_ratchetbase_Signed (.start a.1 a.2.1) r h)

/-! ### ratchet/ratchetbase.Bit -/
inductive P_ratchetbase_Bit where
 | start (is0 : Bool)
noncomputable def place_ratchetbase_Bit : P_ratchetbase_Bit → List Bool
 | .start .. => []
noncomputable def st_ratchetbase_Bit : P_ratchetbase_Bit → St E.S
 | .start is0 => st0 4 [.v (.bool is0)] []
abbrev R_ratchetbase_Bit : Type := ((Int × Unit) × Unit)
noncomputable def res_ratchetbase_Bit : Res E (Int × Unit) Unit := { rows := [], flat := [], keep := 0, rl := (RdL.cons (Rd.int .i64) RdL.nil), rb := RdBL.nil }
noncomputable def run_ratchetbase_Bit : P_ratchetbase_Bit → Option R_ratchetbase_Bit
 | .start is0 =>
   if is0 = true then
     some (((1 : Int), ()), ())
   else
     some (((0 : Int), ()), ())
noncomputable def tab_ratchetbase_Bit : List (Plc E P_ratchetbase_Bit) := []
theorem tab_ratchetbase_Bit_ok : All (PlcOk 4 0 place_ratchetbase_Bit st_ratchetbase_Bit) tab_ratchetbase_Bit := trivial
noncomputable def spec_ratchetbase_Bit : Spec E.S := noSpec
theorem spec_ratchetbase_Bit_ok : SpecOk E spec_ratchetbase_Bit := noSpec_ok
noncomputable def code_ratchetbase_Bit : Code := Tryd.f38.body.getD .skip
theorem good_ratchetbase_Bit : ∀ pt r, run_ratchetbase_Bit pt = some r → Good E Tryd.f38 code_ratchetbase_Bit 0 (res_ratchetbase_Bit.av r) (res_ratchetbase_Bit.bx r) (place_ratchetbase_Bit pt) (st_ratchetbase_Bit pt) := by
  intro pt r hr
  cases pt <;> exact fn_step (spec := spec_ratchetbase_Bit) (wr := (fun i => mem i [])) (l := tab_ratchetbase_Bit) (z := 4) (p := res_ratchetbase_Bit) (run' := fun _ => none) E_ok tab_ratchetbase_Bit_ok.mem rfl spec_ratchetbase_Bit_ok (fun _ _ h => by cases h) (Eq.trans (by kernel_rfl) hr)
noncomputable def con_ratchetbase_Bit : Con E := ⟨38, (Bool × Unit), Unit, (RwL.cons Rd.bool.w RwL.nil), RdBL.nil, 0, R_ratchetbase_Bit, fun a b => run_ratchetbase_Bit (.start a.1), res_ratchetbase_Bit.av, res_ratchetbase_Bit.bx⟩
theorem con_ratchetbase_Bit_ok : con_ratchetbase_Bit.Ok := fun a b r h => fn_ok (fn := Tryd.f38) (code := code_ratchetbase_Bit) E_ok (by kernel_rfl) (by kernel_rfl) (by kernel_rfl) (Nat.le_of_ble_eq_true rfl) (good_ratchetbase_Bit (.start a.1) r h)

/-! ### ratchet/ratchetref01.flags -/
inductive P_ratchetref01_flags where
 | start (exact0 : Int) (signed1 : Int) (width2 : Int)
noncomputable def place_ratchetref01_flags : P_ratchetref01_flags → List Bool
 | .start .. => []
noncomputable def st_ratchetref01_flags : P_ratchetref01_flags → St E.S
 | .start exact0 signed1 width2 => st0 38 [.v (.int .i64 exact0), .v (.int .i64 signed1), .v (.int .i64 width2)] []
abbrev R_ratchetref01_flags : Type := (((Int × (Int × (Int × (Int × (Int × (Int × Unit)))))) × Unit) × Unit)
noncomputable def res_ratchetref01_flags : Res E ((Int × (Int × (Int × (Int × (Int × (Int × Unit)))))) × Unit) Unit := { rows := [], flat := [], keep := 0, rl := (RdL.cons (Rd.agg (RdL.cons (Rd.int .i64) (RdL.cons (Rd.int .i64) (RdL.cons (Rd.int .i64) (RdL.cons (Rd.int .i64) (RdL.cons (Rd.int .i64) (RdL.cons (Rd.int .i64) RdL.nil))))))) RdL.nil), rb := RdBL.nil }
noncomputable def run_ratchetref01_flags : P_ratchetref01_flags → Option R_ratchetref01_flags
 | .start exact0 signed1 width2 =>
   (run_ratchetbase_Power (.start width2)) >>= fun t1 =>
   (run_ratchetbase_Mod (.start exact0 t1.1.1)) >>= fun t2 =>
   (run_ratchetbase_Fits (.start exact0 width2)) >>= fun t3 =>
   (run_ratchetbase_Bit (.start (!t3.1.1))) >>= fun t4 =>
   (run_ratchetbase_Signed (.start t2.1.1 width2)) >>= fun t5 =>
   (run_ratchetbase_Bit (.start (t5.1.1 != signed1))) >>= fun t6 =>
   (run_ratchetbase_Bit (.start (t2.1.1 == (0 : Int)))) >>= fun t7 =>
   (run_ratchetbase_Signed (.start t2.1.1 width2)) >>= fun t8 =>
   (run_ratchetbase_Bit (.start (decide (t8.1.1 < (0 : Int))))) >>= fun t9 =>
   some (((width2, (t2.1.1, (t4.1.1, (t6.1.1, (t7.1.1, (t9.1.1, ())))))), ()), ())
noncomputable def tab_ratchetref01_flags : List (Plc E P_ratchetref01_flags) := []
theorem tab_ratchetref01_flags_ok : All (PlcOk 38 0 place_ratchetref01_flags st_ratchetref01_flags) tab_ratchetref01_flags := trivial
noncomputable def spec_ratchetref01_flags : Spec E.S := (Con.add con_ratchetbase_Signed (Con.add con_ratchetbase_Bit (Con.add con_ratchetbase_Fits (Con.add con_ratchetbase_Mod (Con.add con_ratchetbase_Power noSpec)))))
theorem spec_ratchetref01_flags_ok : SpecOk E spec_ratchetref01_flags := (Con.add_ok con_ratchetbase_Signed_ok (Con.add_ok con_ratchetbase_Bit_ok (Con.add_ok con_ratchetbase_Fits_ok (Con.add_ok con_ratchetbase_Mod_ok (Con.add_ok con_ratchetbase_Power_ok noSpec_ok)))))
noncomputable def code_ratchetref01_flags : Code := Tryd.f81.body.getD .skip
theorem good_ratchetref01_flags : ∀ pt r, run_ratchetref01_flags pt = some r → Good E Tryd.f81 code_ratchetref01_flags 0 (res_ratchetref01_flags.av r) (res_ratchetref01_flags.bx r) (place_ratchetref01_flags pt) (st_ratchetref01_flags pt) := by
  intro pt r hr
  cases pt <;> exact fn_step (spec := spec_ratchetref01_flags) (wr := (fun i => mem i [])) (l := tab_ratchetref01_flags) (z := 38) (p := res_ratchetref01_flags) (run' := fun _ => none) E_ok tab_ratchetref01_flags_ok.mem rfl spec_ratchetref01_flags_ok (fun _ _ h => by cases h) (Eq.trans (by kernel_rfl) hr)
noncomputable def con_ratchetref01_flags : Con E := ⟨81, (Int × (Int × (Int × Unit))), Unit, (RwL.cons (Rd.int .i64).w (RwL.cons (Rd.int .i64).w (RwL.cons (Rd.int .i64).w RwL.nil))), RdBL.nil, 0, R_ratchetref01_flags, fun a b => run_ratchetref01_flags (.start a.1 a.2.1 a.2.2.1), res_ratchetref01_flags.av, res_ratchetref01_flags.bx⟩
theorem con_ratchetref01_flags_ok : con_ratchetref01_flags.Ok := fun a b r h => fn_ok (fn := Tryd.f81) (code := code_ratchetref01_flags) E_ok (by kernel_rfl) (by kernel_rfl) (by kernel_rfl) (Nat.le_of_ble_eq_true rfl) (good_ratchetref01_flags (.start a.1 a.2.1 a.2.2.1) r h)

/-! ### ratchet/ratchetref01.Add -/
inductive P_ratchetref01_Add where
 | start (a0_0 : Int) (a0_1 : Int) (b1_0 : Int) (b1_1 : Int) (carry2 : Int)
noncomputable def place_ratchetref01_Add : P_ratchetref01_Add → List Bool
 | .start .. => []
noncomputable def st_ratchetref01_Add : P_ratchetref01_Add → St E.S
 | .start a0_0 a0_1 b1_0 b1_1 carry2 => st0 30 [.agg [.v (.int .i64 a0_0), .v (.int .i64 a0_1)], .agg [.v (.int .i64 b1_0), .v (.int .i64 b1_1)], .v (.int .i64 carry2)] []
abbrev R_ratchetref01_Add : Type := (((Int × (Int × (Int × (Int × (Int × (Int × Unit)))))) × Unit) × Unit)
noncomputable def res_ratchetref01_Add : Res E ((Int × (Int × (Int × (Int × (Int × (Int × Unit)))))) × Unit) Unit := { rows := [], flat := [], keep := 0, rl := (RdL.cons (Rd.agg (RdL.cons (Rd.int .i64) (RdL.cons (Rd.int .i64) (RdL.cons (Rd.int .i64) (RdL.cons (Rd.int .i64) (RdL.cons (Rd.int .i64) (RdL.cons (Rd.int .i64) RdL.nil))))))) RdL.nil), rb := RdBL.nil }
noncomputable def run_ratchetref01_Add : P_ratchetref01_Add → Option R_ratchetref01_Add
 | .start a0_0 a0_1 b1_0 b1_1 carry2 =>
   (run_ratchetbase_Signed (.start a0_1 a0_0)) >>= fun t1 =>
   (run_ratchetbase_Signed (.start b1_1 b1_0)) >>= fun t2 =>
   (run_ratchetref01_flags (.start (IntKind.wrap .i64 ((IntKind.wrap .i64 (a0_1 + b1_1)) + carry2)) (IntKind.wrap .i64 ((IntKind.wrap .i64 (t1.1.1 + t2.1.1)) + carry2)) a0_0)) >>= fun t3 =>
   some (((t3.1.1.1, (t3.1.1.2.1, (t3.1.1.2.2.1, (t3.1.1.2.2.2.1, (t3.1.1.2.2.2.2.1, (t3.1.1.2.2.2.2.2.1, ())))))), ()), ())
noncomputable def tab_ratchetref01_Add : List (Plc E P_ratchetref01_Add) := []
theorem tab_ratchetref01_Add_ok : All (PlcOk 30 0 place_ratchetref01_Add st_ratchetref01_Add) tab_ratchetref01_Add := trivial
noncomputable def spec_ratchetref01_Add : Spec E.S := (Con.add con_ratchetref01_flags (Con.add con_ratchetbase_Signed noSpec))
theorem spec_ratchetref01_Add_ok : SpecOk E spec_ratchetref01_Add := (Con.add_ok con_ratchetref01_flags_ok (Con.add_ok con_ratchetbase_Signed_ok noSpec_ok))
noncomputable def code_ratchetref01_Add : Code := Tryd.f20.body.getD .skip
theorem good_ratchetref01_Add : ∀ pt r, run_ratchetref01_Add pt = some r → Good E Tryd.f20 code_ratchetref01_Add 0 (res_ratchetref01_Add.av r) (res_ratchetref01_Add.bx r) (place_ratchetref01_Add pt) (st_ratchetref01_Add pt) := by
  intro pt r hr
  cases pt <;> exact fn_step (spec := spec_ratchetref01_Add) (wr := (fun i => mem i [])) (l := tab_ratchetref01_Add) (z := 30) (p := res_ratchetref01_Add) (run' := fun _ => none) E_ok tab_ratchetref01_Add_ok.mem rfl spec_ratchetref01_Add_ok (fun _ _ h => by cases h) (Eq.trans (by kernel_rfl) hr)
noncomputable def con_ratchetref01_Add : Con E := ⟨20, ((Int × (Int × Unit)) × ((Int × (Int × Unit)) × (Int × Unit))), Unit, (RwL.cons (Rw.agg (RwL.cons (Rd.int .i64).w (RwL.cons (Rd.int .i64).w RwL.nil))) (RwL.cons (Rw.agg (RwL.cons (Rd.int .i64).w (RwL.cons (Rd.int .i64).w RwL.nil))) (RwL.cons (Rd.int .i64).w RwL.nil))), RdBL.nil, 0, R_ratchetref01_Add, fun a b => run_ratchetref01_Add (.start a.1.1 a.1.2.1 a.2.1.1 a.2.1.2.1 a.2.2.1), res_ratchetref01_Add.av, res_ratchetref01_Add.bx⟩
theorem con_ratchetref01_Add_ok : con_ratchetref01_Add.Ok := fun a b r h => fn_ok (fn := Tryd.f20) (code := code_ratchetref01_Add) E_ok (by kernel_rfl) (by kernel_rfl) (by kernel_rfl) (Nat.le_of_ble_eq_true rfl) (good_ratchetref01_Add (.start a.1.1 a.1.2.1 a.2.1.1 a.2.1.2.1 a.2.2.1) r h)

/-! ### ratchet/ratchetref01.Sub -/
inductive P_ratchetref01_Sub where
 | start (a0_0 : Int) (a0_1 : Int) (b1_0 : Int) (b1_1 : Int) (borrow2 : Int)
noncomputable def place_ratchetref01_Sub : P_ratchetref01_Sub → List Bool
 | .start .. => []
noncomputable def st_ratchetref01_Sub : P_ratchetref01_Sub → St E.S
 | .start a0_0 a0_1 b1_0 b1_1 borrow2 => st0 30 [.agg [.v (.int .i64 a0_0), .v (.int .i64 a0_1)], .agg [.v (.int .i64 b1_0), .v (.int .i64 b1_1)], .v (.int .i64 borrow2)] []
abbrev R_ratchetref01_Sub : Type := (((Int × (Int × (Int × (Int × (Int × (Int × Unit)))))) × Unit) × Unit)
noncomputable def res_ratchetref01_Sub : Res E ((Int × (Int × (Int × (Int × (Int × (Int × Unit)))))) × Unit) Unit := { rows := [], flat := [], keep := 0, rl := (RdL.cons (Rd.agg (RdL.cons (Rd.int .i64) (RdL.cons (Rd.int .i64) (RdL.cons (Rd.int .i64) (RdL.cons (Rd.int .i64) (RdL.cons (Rd.int .i64) (RdL.cons (Rd.int .i64) RdL.nil))))))) RdL.nil), rb := RdBL.nil }
noncomputable def run_ratchetref01_Sub : P_ratchetref01_Sub → Option R_ratchetref01_Sub
 | .start a0_0 a0_1 b1_0 b1_1 borrow2 =>
   (run_ratchetbase_Signed (.start a0_1 a0_0)) >>= fun t1 =>
   (run_ratchetbase_Signed (.start b1_1 b1_0)) >>= fun t2 =>
   (run_ratchetref01_flags (.start (IntKind.wrap .i64 ((IntKind.wrap .i64 (a0_1 - b1_1)) - borrow2)) (IntKind.wrap .i64 ((IntKind.wrap .i64 (t1.1.1 - t2.1.1)) - borrow2)) a0_0)) >>= fun t3 =>
   some (((t3.1.1.1, (t3.1.1.2.1, (t3.1.1.2.2.1, (t3.1.1.2.2.2.1, (t3.1.1.2.2.2.2.1, (t3.1.1.2.2.2.2.2.1, ())))))), ()), ())
noncomputable def tab_ratchetref01_Sub : List (Plc E P_ratchetref01_Sub) := []
theorem tab_ratchetref01_Sub_ok : All (PlcOk 30 0 place_ratchetref01_Sub st_ratchetref01_Sub) tab_ratchetref01_Sub := trivial
noncomputable def spec_ratchetref01_Sub : Spec E.S := (Con.add con_ratchetref01_flags (Con.add con_ratchetbase_Signed noSpec))
theorem spec_ratchetref01_Sub_ok : SpecOk E spec_ratchetref01_Sub := (Con.add_ok con_ratchetref01_flags_ok (Con.add_ok con_ratchetbase_Signed_ok noSpec_ok))
noncomputable def code_ratchetref01_Sub : Code := Tryd.f21.body.getD .skip
theorem good_ratchetref01_Sub : ∀ pt r, run_ratchetref01_Sub pt = some r → Good E Tryd.f21 code_ratchetref01_Sub 0 (res_ratchetref01_Sub.av r) (res_ratchetref01_Sub.bx r) (place_ratchetref01_Sub pt) (st_ratchetref01_Sub pt) := by
  intro pt r hr
  cases pt <;> exact fn_step (spec := spec_ratchetref01_Sub) (wr := (fun i => mem i [])) (l := tab_ratchetref01_Sub) (z := 30) (p := res_ratchetref01_Sub) (run' := fun _ => none) E_ok tab_ratchetref01_Sub_ok.mem rfl spec_ratchetref01_Sub_ok (fun _ _ h => by cases h) (Eq.trans (by kernel_rfl) hr)
noncomputable def con_ratchetref01_Sub : Con E := ⟨21, ((Int × (Int × Unit)) × ((Int × (Int × Unit)) × (Int × Unit))), Unit, (RwL.cons (Rw.agg (RwL.cons (Rd.int .i64).w (RwL.cons (Rd.int .i64).w RwL.nil))) (RwL.cons (Rw.agg (RwL.cons (Rd.int .i64).w (RwL.cons (Rd.int .i64).w RwL.nil))) (RwL.cons (Rd.int .i64).w RwL.nil))), RdBL.nil, 0, R_ratchetref01_Sub, fun a b => run_ratchetref01_Sub (.start a.1.1 a.1.2.1 a.2.1.1 a.2.1.2.1 a.2.2.1), res_ratchetref01_Sub.av, res_ratchetref01_Sub.bx⟩
theorem con_ratchetref01_Sub_ok : con_ratchetref01_Sub.Ok := fun a b r h => fn_ok (fn := Tryd.f21) (code := code_ratchetref01_Sub) E_ok (by kernel_rfl) (by kernel_rfl) (by kernel_rfl) (Nat.le_of_ble_eq_true rfl) (good_ratchetref01_Sub (.start a.1.1 a.1.2.1 a.2.1.1 a.2.1.2.1 a.2.2.1) r h)

/-! ### ratchet/ratchetlaw01.BitsSums -/
inductive P_ratchetlaw01_BitsSums where
 | start (a0_0 : Int) (a0_1 : Int) (b1_0 : Int) (b1_1 : Int) (carry2 : Int)
noncomputable def place_ratchetlaw01_BitsSums : P_ratchetlaw01_BitsSums → List Bool
 | .start .. => []
noncomputable def st_ratchetlaw01_BitsSums : P_ratchetlaw01_BitsSums → St E.S
 | .start a0_0 a0_1 b1_0 b1_1 carry2 => st0 79 [.agg [.v (.int .i64 a0_0), .v (.int .i64 a0_1)], .agg [.v (.int .i64 b1_0), .v (.int .i64 b1_1)], .v (.int .i64 carry2)] []
abbrev R_ratchetlaw01_BitsSums : Type := ((Bool × Unit) × Unit)
noncomputable def res_ratchetlaw01_BitsSums : Res E (Bool × Unit) Unit := { rows := [], flat := [], keep := 0, rl := (RdL.cons Rd.bool RdL.nil), rb := RdBL.nil }
noncomputable def run_ratchetlaw01_BitsSums : P_ratchetlaw01_BitsSums → Option R_ratchetlaw01_BitsSums
 | .start a0_0 a0_1 b1_0 b1_1 carry2 =>
   (some () : Option Unit) >>= fun t1 =>
   if (!true) = true then
     some ((false, ()), ())
   else
     (run_bits_AddWith (.start a0_0 a0_1 b1_0 b1_1 carry2)) >>= fun t2 =>
     (run_bits_SubWith (.start a0_0 a0_1 b1_0 b1_1 carry2)) >>= fun t3 =>
     (run_bits_CheckBits (.start a0_0 a0_1)) >>= fun t4 =>
     (run_ratchetref01_BitsErr (.start a0_0 a0_1)) >>= fun t5 =>
     if (t4.1.1 != t5.1.1) = true then
       some ((false, ()), ())
     else
       (run_ratchetref01_CarryErr (.start a0_0 a0_1 b1_0 b1_1 carry2)) >>= fun t6 =>
       if (t6.1.1 != (0 : Int)) = true then
         if (t2.1.2.1 == t6.1.1) = true then
           if (t3.1.2.1 == t6.1.1) = true then
             if (((t2.1.1.1 == (0 : Int)) && ((t2.1.1.2.1 == (0 : Int)) && true)) && ((t2.1.1.2.2.1 == (0 : Int)) && ((t2.1.1.2.2.2.1 == (0 : Int)) && ((t2.1.1.2.2.2.2.1 == (0 : Int)) && ((t2.1.1.2.2.2.2.2.1 == (0 : Int)) && true))))) = true then
               some (((((t3.1.1.1 == (0 : Int)) && ((t3.1.1.2.1 == (0 : Int)) && true)) && ((t3.1.1.2.2.1 == (0 : Int)) && ((t3.1.1.2.2.2.1 == (0 : Int)) && ((t3.1.1.2.2.2.2.1 == (0 : Int)) && ((t3.1.1.2.2.2.2.2.1 == (0 : Int)) && true))))), ()), ())
             else
               some ((false, ()), ())
           else
             some ((false, ()), ())
         else
           some ((false, ()), ())
       else
         if (t2.1.2.1 == (0 : Int)) = true then
           if (t3.1.2.1 == (0 : Int)) = true then
             (run_ratchetref01_Add (.start a0_0 a0_1 b1_0 b1_1 carry2)) >>= fun t7 =>
             if (((t2.1.1.1 == t7.1.1.1) && ((t2.1.1.2.1 == t7.1.1.2.1) && true)) && ((t2.1.1.2.2.1 == t7.1.1.2.2.1) && ((t2.1.1.2.2.2.1 == t7.1.1.2.2.2.1) && ((t2.1.1.2.2.2.2.1 == t7.1.1.2.2.2.2.1) && ((t2.1.1.2.2.2.2.2.1 == t7.1.1.2.2.2.2.2.1) && true))))) = true then
               (run_ratchetref01_Sub (.start a0_0 a0_1 b1_0 b1_1 carry2)) >>= fun t8 =>
               some (((((t3.1.1.1 == t8.1.1.1) && ((t3.1.1.2.1 == t8.1.1.2.1) && true)) && ((t3.1.1.2.2.1 == t8.1.1.2.2.1) && ((t3.1.1.2.2.2.1 == t8.1.1.2.2.2.1) && ((t3.1.1.2.2.2.2.1 == t8.1.1.2.2.2.2.1) && ((t3.1.1.2.2.2.2.2.1 == t8.1.1.2.2.2.2.2.1) && true))))), ()), ())
             else
               some ((false, ()), ())
           else
             some ((false, ()), ())
         else
           some ((false, ()), ())
noncomputable def tab_ratchetlaw01_BitsSums : List (Plc E P_ratchetlaw01_BitsSums) := []
theorem tab_ratchetlaw01_BitsSums_ok : All (PlcOk 79 0 place_ratchetlaw01_BitsSums st_ratchetlaw01_BitsSums) tab_ratchetlaw01_BitsSums := trivial
noncomputable def spec_ratchetlaw01_BitsSums : Spec E.S := (Con.add con_ratchetref01_Sub (Con.add con_ratchetref01_Add (Con.add con_ratchetref01_CarryErr (Con.add con_ratchetref01_BitsErr (Con.add con_bits_CheckBits (Con.add con_bits_SubWith (Con.add con_bits_AddWith (Con.add con_ratchetlaw01_awake noSpec))))))))
theorem spec_ratchetlaw01_BitsSums_ok : SpecOk E spec_ratchetlaw01_BitsSums := (Con.add_ok con_ratchetref01_Sub_ok (Con.add_ok con_ratchetref01_Add_ok (Con.add_ok con_ratchetref01_CarryErr_ok (Con.add_ok con_ratchetref01_BitsErr_ok (Con.add_ok con_bits_CheckBits_ok (Con.add_ok con_bits_SubWith_ok (Con.add_ok con_bits_AddWith_ok (Con.add_ok con_ratchetlaw01_awake_ok noSpec_ok))))))))
noncomputable def code_ratchetlaw01_BitsSums : Code := Tryd.f4.body.getD .skip
theorem good_ratchetlaw01_BitsSums : ∀ pt r, run_ratchetlaw01_BitsSums pt = some r → Good E Tryd.f4 code_ratchetlaw01_BitsSums 0 (res_ratchetlaw01_BitsSums.av r) (res_ratchetlaw01_BitsSums.bx r) (place_ratchetlaw01_BitsSums pt) (st_ratchetlaw01_BitsSums pt) := by
  intro pt r hr
  cases pt <;> exact fn_step (spec := spec_ratchetlaw01_BitsSums) (wr := (fun i => mem i [])) (l := tab_ratchetlaw01_BitsSums) (z := 79) (p := res_ratchetlaw01_BitsSums) (run' := fun _ => none) E_ok tab_ratchetlaw01_BitsSums_ok.mem rfl spec_ratchetlaw01_BitsSums_ok (fun _ _ h => by cases h) (Eq.trans (by kernel_rfl) hr)
noncomputable def con_ratchetlaw01_BitsSums : Con E := ⟨4, ((Int × (Int × Unit)) × ((Int × (Int × Unit)) × (Int × Unit))), Unit, (RwL.cons (Rw.agg (RwL.cons (Rd.int .i64).w (RwL.cons (Rd.int .i64).w RwL.nil))) (RwL.cons (Rw.agg (RwL.cons (Rd.int .i64).w (RwL.cons (Rd.int .i64).w RwL.nil))) (RwL.cons (Rd.int .i64).w RwL.nil))), RdBL.nil, 0, R_ratchetlaw01_BitsSums, fun a b => run_ratchetlaw01_BitsSums (.start a.1.1 a.1.2.1 a.2.1.1 a.2.1.2.1 a.2.2.1), res_ratchetlaw01_BitsSums.av, res_ratchetlaw01_BitsSums.bx⟩
theorem con_ratchetlaw01_BitsSums_ok : con_ratchetlaw01_BitsSums.Ok := fun a b r h => fn_ok (fn := Tryd.f4) (code := code_ratchetlaw01_BitsSums) E_ok (by kernel_rfl) (by kernel_rfl) (by kernel_rfl) (Nat.le_of_ble_eq_true rfl) (good_ratchetlaw01_BitsSums (.start a.1.1 a.1.2.1 a.2.1.1 a.2.1.2.1 a.2.2.1) r h)

/-! ### ratchet/bits.MulWide -/
inductive P_bits_MulWide where
 | start (a0_0 : Int) (a0_1 : Int) (b1_0 : Int) (b1_1 : Int)
noncomputable def place_bits_MulWide : P_bits_MulWide → List Bool
 | .start .. => []
noncomputable def st_bits_MulWide : P_bits_MulWide → St E.S
 | .start a0_0 a0_1 b1_0 b1_1 => st0 36 [.agg [.v (.int .i64 a0_0), .v (.int .i64 a0_1)], .agg [.v (.int .i64 b1_0), .v (.int .i64 b1_1)]] []
abbrev R_bits_MulWide : Type := (((Int × (Int × Unit)) × (Int × Unit)) × Unit)
noncomputable def res_bits_MulWide : Res E ((Int × (Int × Unit)) × (Int × Unit)) Unit := { rows := [], flat := [], keep := 0, rl := (RdL.cons (Rd.agg (RdL.cons (Rd.int .i64) (RdL.cons (Rd.int .i64) RdL.nil))) (RdL.cons (Rd.int .i64) RdL.nil)), rb := RdBL.nil }
noncomputable def run_bits_MulWide : P_bits_MulWide → Option R_bits_MulWide
 | .start a0_0 a0_1 b1_0 b1_1 =>
   (run_bits_CheckBits (.start a0_0 a0_1)) >>= fun t1 =>
   (run_bits_CheckBits (.start b1_0 b1_1)) >>= fun t2 =>
   (run_bits_unless (.start (decide ((IntKind.wrap .i64 (a0_0 + b1_0)) ≤ (16 : Int))) (8 : Int))) >>= fun t3 =>
   (run_bits_first (.start ([t1.1.1, t2.1.1, t3.1.1] : List Int))) >>= fun t4 =>
   if (t4.1.1 != (0 : Int)) = true then
     some ((((0 : Int), ((0 : Int), ())), (t4.1.1, ())), ())
   else
     (run_bits_of (.start (IntKind.wrap .i64 (a0_1 * b1_1)) (IntKind.wrap .i64 (a0_0 + b1_0)))) >>= fun t5 =>
     some (((t5.1.1.1, (t5.1.1.2.1, ())), ((0 : Int), ())), ())
noncomputable def tab_bits_MulWide : List (Plc E P_bits_MulWide) := []
theorem tab_bits_MulWide_ok : All (PlcOk 36 0 place_bits_MulWide st_bits_MulWide) tab_bits_MulWide := trivial
noncomputable def spec_bits_MulWide : Spec E.S := (Con.add con_bits_of (Con.add con_bits_first (Con.add con_bits_unless (Con.add con_bits_CheckBits noSpec))))
theorem spec_bits_MulWide_ok : SpecOk E spec_bits_MulWide := (Con.add_ok con_bits_of_ok (Con.add_ok con_bits_first_ok (Con.add_ok con_bits_unless_ok (Con.add_ok con_bits_CheckBits_ok noSpec_ok))))
noncomputable def code_bits_MulWide : Code := Tryd.f22.body.getD .skip
theorem good_bits_MulWide : ∀ pt r, run_bits_MulWide pt = some r → Good E Tryd.f22 code_bits_MulWide 0 (res_bits_MulWide.av r) (res_bits_MulWide.bx r) (place_bits_MulWide pt) (st_bits_MulWide pt) := by
  intro pt r hr
  cases pt <;> exact fn_step (spec := spec_bits_MulWide) (wr := (fun i => mem i [])) (l := tab_bits_MulWide) (z := 36) (p := res_bits_MulWide) (run' := fun _ => none) E_ok tab_bits_MulWide_ok.mem rfl spec_bits_MulWide_ok (fun _ _ h => by cases h) (Eq.trans (by kernel_rfl) hr)
noncomputable def con_bits_MulWide : Con E := ⟨22, ((Int × (Int × Unit)) × ((Int × (Int × Unit)) × Unit)), Unit, (RwL.cons (Rw.agg (RwL.cons (Rd.int .i64).w (RwL.cons (Rd.int .i64).w RwL.nil))) (RwL.cons (Rw.agg (RwL.cons (Rd.int .i64).w (RwL.cons (Rd.int .i64).w RwL.nil))) RwL.nil)), RdBL.nil, 0, R_bits_MulWide, fun a b => run_bits_MulWide (.start a.1.1 a.1.2.1 a.2.1.1 a.2.1.2.1), res_bits_MulWide.av, res_bits_MulWide.bx⟩
theorem con_bits_MulWide_ok : con_bits_MulWide.Ok := fun a b r h => fn_ok (fn := Tryd.f22) (code := code_bits_MulWide) E_ok (by kernel_rfl) (by kernel_rfl) (by kernel_rfl) (Nat.le_of_ble_eq_true rfl) (good_bits_MulWide (.start a.1.1 a.1.2.1 a.2.1.1 a.2.1.2.1) r h)

/-! ### ratchet/bits.DivMod -/
inductive P_bits_DivMod where
 | start (a0_0 : Int) (a0_1 : Int) (b1_0 : Int) (b1_1 : Int)
noncomputable def place_bits_DivMod : P_bits_DivMod → List Bool
 | .start .. => []
noncomputable def st_bits_DivMod : P_bits_DivMod → St E.S
 | .start a0_0 a0_1 b1_0 b1_1 => st0 40 [.agg [.v (.int .i64 a0_0), .v (.int .i64 a0_1)], .agg [.v (.int .i64 b1_0), .v (.int .i64 b1_1)]] []
abbrev R_bits_DivMod : Type := (((Int × (Int × Unit)) × ((Int × (Int × Unit)) × (Int × Unit))) × Unit)
noncomputable def res_bits_DivMod : Res E ((Int × (Int × Unit)) × ((Int × (Int × Unit)) × (Int × Unit))) Unit := { rows := [], flat := [], keep := 0, rl := (RdL.cons (Rd.agg (RdL.cons (Rd.int .i64) (RdL.cons (Rd.int .i64) RdL.nil))) (RdL.cons (Rd.agg (RdL.cons (Rd.int .i64) (RdL.cons (Rd.int .i64) RdL.nil))) (RdL.cons (Rd.int .i64) RdL.nil))), rb := RdBL.nil }
noncomputable def run_bits_DivMod : P_bits_DivMod → Option R_bits_DivMod
 | .start a0_0 a0_1 b1_0 b1_1 =>
   (run_bits_pair (.start a0_0 a0_1 b1_0 b1_1)) >>= fun t1 =>
   (run_bits_unless (.start (b1_1 != (0 : Int)) (11 : Int))) >>= fun t2 =>
   (run_bits_first (.start ([t1.1.1, t2.1.1] : List Int))) >>= fun t3 =>
   if (t3.1.1 != (0 : Int)) = true then
     some ((((0 : Int), ((0 : Int), ())), (((0 : Int), ((0 : Int), ())), (t3.1.1, ()))), ())
   else
     if (!(b1_1 == (0 : Int))) = true then
       (run_bits_of (.start (IntKind.wrap .i64 (Int.tdiv a0_1 b1_1)) a0_0)) >>= fun t4 =>
       if (!(b1_1 == (0 : Int))) = true then
         (run_bits_of (.start (Int.tmod a0_1 b1_1) a0_0)) >>= fun t5 =>
         some (((t4.1.1.1, (t4.1.1.2.1, ())), ((t5.1.1.1, (t5.1.1.2.1, ())), ((0 : Int), ()))), ())
       else none
     else none
noncomputable def tab_bits_DivMod : List (Plc E P_bits_DivMod) := []
theorem tab_bits_DivMod_ok : All (PlcOk 40 0 place_bits_DivMod st_bits_DivMod) tab_bits_DivMod := trivial
noncomputable def spec_bits_DivMod : Spec E.S := (Con.add con_bits_of (Con.add con_bits_first (Con.add con_bits_unless (Con.add con_bits_pair noSpec))))
theorem spec_bits_DivMod_ok : SpecOk E spec_bits_DivMod := (Con.add_ok con_bits_of_ok (Con.add_ok con_bits_first_ok (Con.add_ok con_bits_unless_ok (Con.add_ok con_bits_pair_ok noSpec_ok))))
noncomputable def code_bits_DivMod : Code := Tryd.f23.body.getD .skip
theorem good_bits_DivMod : ∀ pt r, run_bits_DivMod pt = some r → Good E Tryd.f23 code_bits_DivMod 0 (res_bits_DivMod.av r) (res_bits_DivMod.bx r) (place_bits_DivMod pt) (st_bits_DivMod pt) := by
  intro pt r hr
  cases pt <;> exact fn_step (spec := spec_bits_DivMod) (wr := (fun i => mem i [])) (l := tab_bits_DivMod) (z := 40) (p := res_bits_DivMod) (run' := fun _ => none) E_ok tab_bits_DivMod_ok.mem rfl spec_bits_DivMod_ok (fun _ _ h => by cases h) (Eq.trans (by kernel_rfl) hr)
noncomputable def con_bits_DivMod : Con E := ⟨23, ((Int × (Int × Unit)) × ((Int × (Int × Unit)) × Unit)), Unit, (RwL.cons (Rw.agg (RwL.cons (Rd.int .i64).w (RwL.cons (Rd.int .i64).w RwL.nil))) (RwL.cons (Rw.agg (RwL.cons (Rd.int .i64).w (RwL.cons (Rd.int .i64).w RwL.nil))) RwL.nil)), RdBL.nil, 0, R_bits_DivMod, fun a b => run_bits_DivMod (.start a.1.1 a.1.2.1 a.2.1.1 a.2.1.2.1), res_bits_DivMod.av, res_bits_DivMod.bx⟩
theorem con_bits_DivMod_ok : con_bits_DivMod.Ok := fun a b r h => fn_ok (fn := Tryd.f23) (code := code_bits_DivMod) E_ok (by kernel_rfl) (by kernel_rfl) (by kernel_rfl) (Nat.le_of_ble_eq_true rfl) (good_bits_DivMod (.start a.1.1 a.1.2.1 a.2.1.1 a.2.1.2.1) r h)

/-! ### ratchet/ratchetref01.MulErr -/
inductive P_ratchetref01_MulErr where
 | start (a0_0 : Int) (a0_1 : Int) (b1_0 : Int) (b1_1 : Int)
noncomputable def place_ratchetref01_MulErr : P_ratchetref01_MulErr → List Bool
 | .start .. => []
noncomputable def st_ratchetref01_MulErr : P_ratchetref01_MulErr → St E.S
 | .start a0_0 a0_1 b1_0 b1_1 => st0 18 [.agg [.v (.int .i64 a0_0), .v (.int .i64 a0_1)], .agg [.v (.int .i64 b1_0), .v (.int .i64 b1_1)]] []
abbrev R_ratchetref01_MulErr : Type := ((Int × Unit) × Unit)
noncomputable def res_ratchetref01_MulErr : Res E (Int × Unit) Unit := { rows := [], flat := [], keep := 0, rl := (RdL.cons (Rd.int .i64) RdL.nil), rb := RdBL.nil }
noncomputable def run_ratchetref01_MulErr : P_ratchetref01_MulErr → Option R_ratchetref01_MulErr
 | .start a0_0 a0_1 b1_0 b1_1 =>
   (run_ratchetref01_PairErr (.start a0_0 a0_1 b1_0 b1_1)) >>= fun t1 =>
   if (t1.1.1 != (0 : Int)) = true then
     some ((t1.1.1, ()), ())
   else
     if (decide ((IntKind.wrap .i64 (a0_0 + b1_0)) > (16 : Int))) = true then
       some (((8 : Int), ()), ())
     else
       some (((0 : Int), ()), ())
noncomputable def tab_ratchetref01_MulErr : List (Plc E P_ratchetref01_MulErr) := []
theorem tab_ratchetref01_MulErr_ok : All (PlcOk 18 0 place_ratchetref01_MulErr st_ratchetref01_MulErr) tab_ratchetref01_MulErr := trivial
noncomputable def spec_ratchetref01_MulErr : Spec E.S := (Con.add con_ratchetref01_PairErr noSpec)
theorem spec_ratchetref01_MulErr_ok : SpecOk E spec_ratchetref01_MulErr := (Con.add_ok con_ratchetref01_PairErr_ok noSpec_ok)
noncomputable def code_ratchetref01_MulErr : Code := Tryd.f24.body.getD .skip
theorem good_ratchetref01_MulErr : ∀ pt r, run_ratchetref01_MulErr pt = some r → Good E Tryd.f24 code_ratchetref01_MulErr 0 (res_ratchetref01_MulErr.av r) (res_ratchetref01_MulErr.bx r) (place_ratchetref01_MulErr pt) (st_ratchetref01_MulErr pt) := by
  intro pt r hr
  cases pt <;> exact fn_step (spec := spec_ratchetref01_MulErr) (wr := (fun i => mem i [])) (l := tab_ratchetref01_MulErr) (z := 18) (p := res_ratchetref01_MulErr) (run' := fun _ => none) E_ok tab_ratchetref01_MulErr_ok.mem rfl spec_ratchetref01_MulErr_ok (fun _ _ h => by cases h) (Eq.trans (by kernel_rfl) hr)
noncomputable def con_ratchetref01_MulErr : Con E := ⟨24, ((Int × (Int × Unit)) × ((Int × (Int × Unit)) × Unit)), Unit, (RwL.cons (Rw.agg (RwL.cons (Rd.int .i64).w (RwL.cons (Rd.int .i64).w RwL.nil))) (RwL.cons (Rw.agg (RwL.cons (Rd.int .i64).w (RwL.cons (Rd.int .i64).w RwL.nil))) RwL.nil)), RdBL.nil, 0, R_ratchetref01_MulErr, fun a b => run_ratchetref01_MulErr (.start a.1.1 a.1.2.1 a.2.1.1 a.2.1.2.1), res_ratchetref01_MulErr.av, res_ratchetref01_MulErr.bx⟩
theorem con_ratchetref01_MulErr_ok : con_ratchetref01_MulErr.Ok := fun a b r h => fn_ok (fn := Tryd.f24) (code := code_ratchetref01_MulErr) E_ok (by kernel_rfl) (by kernel_rfl) (by kernel_rfl) (Nat.le_of_ble_eq_true rfl) (good_ratchetref01_MulErr (.start a.1.1 a.1.2.1 a.2.1.1 a.2.1.2.1) r h)

/-! ### ratchet/ratchetlaw01.of -/
inductive P_ratchetlaw01_of where
 | start (width0 : Int) (value1 : Int)
noncomputable def place_ratchetlaw01_of : P_ratchetlaw01_of → List Bool
 | .start .. => []
noncomputable def st_ratchetlaw01_of : P_ratchetlaw01_of → St E.S
 | .start width0 value1 => st0 8 [.v (.int .i64 width0), .v (.int .i64 value1)] []
abbrev R_ratchetlaw01_of : Type := (((Int × (Int × Unit)) × Unit) × Unit)
noncomputable def res_ratchetlaw01_of : Res E ((Int × (Int × Unit)) × Unit) Unit := { rows := [], flat := [], keep := 0, rl := (RdL.cons (Rd.agg (RdL.cons (Rd.int .i64) (RdL.cons (Rd.int .i64) RdL.nil))) RdL.nil), rb := RdBL.nil }
noncomputable def run_ratchetlaw01_of : P_ratchetlaw01_of → Option R_ratchetlaw01_of
 | .start width0 value1 =>
   some (((width0, (value1, ())), ()), ())
noncomputable def tab_ratchetlaw01_of : List (Plc E P_ratchetlaw01_of) := []
theorem tab_ratchetlaw01_of_ok : All (PlcOk 8 0 place_ratchetlaw01_of st_ratchetlaw01_of) tab_ratchetlaw01_of := trivial
noncomputable def spec_ratchetlaw01_of : Spec E.S := noSpec
theorem spec_ratchetlaw01_of_ok : SpecOk E spec_ratchetlaw01_of := noSpec_ok
noncomputable def code_ratchetlaw01_of : Code := Tryd.f25.body.getD .skip
theorem good_ratchetlaw01_of : ∀ pt r, run_ratchetlaw01_of pt = some r → Good E Tryd.f25 code_ratchetlaw01_of 0 (res_ratchetlaw01_of.av r) (res_ratchetlaw01_of.bx r) (place_ratchetlaw01_of pt) (st_ratchetlaw01_of pt) := by
  intro pt r hr
  cases pt <;> exact fn_step (spec := spec_ratchetlaw01_of) (wr := (fun i => mem i [])) (l := tab_ratchetlaw01_of) (z := 8) (p := res_ratchetlaw01_of) (run' := fun _ => none) E_ok tab_ratchetlaw01_of_ok.mem rfl spec_ratchetlaw01_of_ok (fun _ _ h => by cases h) (Eq.trans (by kernel_rfl) hr)
noncomputable def con_ratchetlaw01_of : Con E := ⟨25, (Int × (Int × Unit)), Unit, (RwL.cons (Rd.int .i64).w (RwL.cons (Rd.int .i64).w RwL.nil)), RdBL.nil, 0, R_ratchetlaw01_of, fun a b => run_ratchetlaw01_of (.start a.1 a.2.1), res_ratchetlaw01_of.av, res_ratchetlaw01_of.bx⟩
theorem con_ratchetlaw01_of_ok : con_ratchetlaw01_of.Ok := fun a b r h => fn_ok (fn := Tryd.f25) (code := code_ratchetlaw01_of) E_ok (by kernel_rfl) (by kernel_rfl) (by kernel_rfl) (Nat.le_of_ble_eq_true rfl) (good_ratchetlaw01_of (.start a.1 a.2.1) r h)

/-! ### ratchet/ratchetref01.DivErr -/
inductive P_ratchetref01_DivErr where
 | start (a0_0 : Int) (a0_1 : Int) (b1_0 : Int) (b1_1 : Int)
noncomputable def place_ratchetref01_DivErr : P_ratchetref01_DivErr → List Bool
 | .start .. => []
noncomputable def st_ratchetref01_DivErr : P_ratchetref01_DivErr → St E.S
 | .start a0_0 a0_1 b1_0 b1_1 => st0 15 [.agg [.v (.int .i64 a0_0), .v (.int .i64 a0_1)], .agg [.v (.int .i64 b1_0), .v (.int .i64 b1_1)]] []
abbrev R_ratchetref01_DivErr : Type := ((Int × Unit) × Unit)
noncomputable def res_ratchetref01_DivErr : Res E (Int × Unit) Unit := { rows := [], flat := [], keep := 0, rl := (RdL.cons (Rd.int .i64) RdL.nil), rb := RdBL.nil }
noncomputable def run_ratchetref01_DivErr : P_ratchetref01_DivErr → Option R_ratchetref01_DivErr
 | .start a0_0 a0_1 b1_0 b1_1 =>
   (run_ratchetref01_TwinErr (.start a0_0 a0_1 b1_0 b1_1)) >>= fun t1 =>
   if (t1.1.1 != (0 : Int)) = true then
     some ((t1.1.1, ()), ())
   else
     if (b1_1 == (0 : Int)) = true then
       some (((11 : Int), ()), ())
     else
       some (((0 : Int), ()), ())
noncomputable def tab_ratchetref01_DivErr : List (Plc E P_ratchetref01_DivErr) := []
theorem tab_ratchetref01_DivErr_ok : All (PlcOk 15 0 place_ratchetref01_DivErr st_ratchetref01_DivErr) tab_ratchetref01_DivErr := trivial
noncomputable def spec_ratchetref01_DivErr : Spec E.S := (Con.add con_ratchetref01_TwinErr noSpec)
theorem spec_ratchetref01_DivErr_ok : SpecOk E spec_ratchetref01_DivErr := (Con.add_ok con_ratchetref01_TwinErr_ok noSpec_ok)
noncomputable def code_ratchetref01_DivErr : Code := Tryd.f26.body.getD .skip
theorem good_ratchetref01_DivErr : ∀ pt r, run_ratchetref01_DivErr pt = some r → Good E Tryd.f26 code_ratchetref01_DivErr 0 (res_ratchetref01_DivErr.av r) (res_ratchetref01_DivErr.bx r) (place_ratchetref01_DivErr pt) (st_ratchetref01_DivErr pt) := by
  intro pt r hr
  cases pt <;> exact fn_step (spec := spec_ratchetref01_DivErr) (wr := (fun i => mem i [])) (l := tab_ratchetref01_DivErr) (z := 15) (p := res_ratchetref01_DivErr) (run' := fun _ => none) E_ok tab_ratchetref01_DivErr_ok.mem rfl spec_ratchetref01_DivErr_ok (fun _ _ h => by cases h) (Eq.trans (by kernel_rfl) hr)
noncomputable def con_ratchetref01_DivErr : Con E := ⟨26, ((Int × (Int × Unit)) × ((Int × (Int × Unit)) × Unit)), Unit, (RwL.cons (Rw.agg (RwL.cons (Rd.int .i64).w (RwL.cons (Rd.int .i64).w RwL.nil))) (RwL.cons (Rw.agg (RwL.cons (Rd.int .i64).w (RwL.cons (Rd.int .i64).w RwL.nil))) RwL.nil)), RdBL.nil, 0, R_ratchetref01_DivErr, fun a b => run_ratchetref01_DivErr (.start a.1.1 a.1.2.1 a.2.1.1 a.2.1.2.1), res_ratchetref01_DivErr.av, res_ratchetref01_DivErr.bx⟩
theorem con_ratchetref01_DivErr_ok : con_ratchetref01_DivErr.Ok := fun a b r h => fn_ok (fn := Tryd.f26) (code := code_ratchetref01_DivErr) E_ok (by kernel_rfl) (by kernel_rfl) (by kernel_rfl) (Nat.le_of_ble_eq_true rfl) (good_ratchetref01_DivErr (.start a.1.1 a.1.2.1 a.2.1.1 a.2.1.2.1) r h)

/-! ### ratchet/ratchetlaw01.BitsProducts -/
inductive P_ratchetlaw01_BitsProducts where
 | start (a0_0 : Int) (a0_1 : Int) (b1_0 : Int) (b1_1 : Int)
 | p63 (f9 : Int) (B0_0 : Int) (B0_1 : Int) (B1_0 : Int) (B1_1 : Int) (B2_0 : Int) (B2_1 : Int) (B3_0 : Int) (B3_1 : Int)
noncomputable def place_ratchetlaw01_BitsProducts : P_ratchetlaw01_BitsProducts → List Bool
 | .start .. => []
 | .p63 .. => [true, true, true, true, true]
noncomputable def st_ratchetlaw01_BitsProducts : P_ratchetlaw01_BitsProducts → St E.S
 | .start a0_0 a0_1 b1_0 b1_1 => st0 109 [.agg [.v (.int .i64 a0_0), .v (.int .i64 a0_1)], .agg [.v (.int .i64 b1_0), .v (.int .i64 b1_1)]] []
 | .p63 f9 B0_0 B0_1 B1_0 B1_1 B2_0 B2_1 B3_0 B3_1 => mkSt 109 [2, 3, 7, 8, 9] [.bp 0 0, .bp 1 0, .bp 2 0, .bp 3 0, .v (.int .i64 f9)] [.var 23 [.v (.int .i64 B0_0), .v (.int .i64 B0_1)], .var 23 [.v (.int .i64 B1_0), .v (.int .i64 B1_1)], .var 23 [.v (.int .i64 B2_0), .v (.int .i64 B2_1)], .var 23 [.v (.int .i64 B3_0), .v (.int .i64 B3_1)]]
abbrev R_ratchetlaw01_BitsProducts : Type := ((Bool × Unit) × Unit)
noncomputable def res_ratchetlaw01_BitsProducts : Res E (Bool × Unit) Unit := { rows := [], flat := [], keep := 0, rl := (RdL.cons Rd.bool RdL.nil), rb := RdBL.nil }
noncomputable def run_ratchetlaw01_BitsProducts : P_ratchetlaw01_BitsProducts → Option R_ratchetlaw01_BitsProducts
 | .start a0_0 a0_1 b1_0 b1_1 =>
   (some () : Option Unit) >>= fun t1 =>
   if (!true) = true then
     some ((false, ()), ())
   else
     (run_bits_MulWide (.start a0_0 a0_1 b1_0 b1_1)) >>= fun t2 =>
     (run_bits_DivMod (.start a0_0 a0_1 b1_0 b1_1)) >>= fun t3 =>
     (run_ratchetref01_MulErr (.start a0_0 a0_1 b1_0 b1_1)) >>= fun t4 =>
     if (t4.1.1 != (0 : Int)) = true then
       if (t2.1.2.1 != t4.1.1) = true then
         some ((false, ()), ())
       else
         if (!((t2.1.1.1 == (0 : Int)) && ((t2.1.1.2.1 == (0 : Int)) && true))) = true then
           some ((false, ()), ())
         else
           if (t4.1.1 == (0 : Int)) = true then
             if (t2.1.2.1 != (0 : Int)) = true then
               some ((false, ()), ())
             else
               (run_ratchetlaw01_of (.start (IntKind.wrap .i64 (a0_0 + b1_0)) (IntKind.wrap .i64 (a0_1 * b1_1)))) >>= fun t5 =>
               if (!((t2.1.1.1 == t5.1.1.1) && ((t2.1.1.2.1 == t5.1.1.2.1) && true))) = true then
                 some ((false, ()), ())
               else
                 run_ratchetlaw01_BitsProducts (.p63 t3.1.2.2.1 a0_0 a0_1 b1_0 b1_1 t3.1.1.1 t3.1.1.2.1 t3.1.2.1.1 t3.1.2.1.2.1)
           else
             run_ratchetlaw01_BitsProducts (.p63 t3.1.2.2.1 a0_0 a0_1 b1_0 b1_1 t3.1.1.1 t3.1.1.2.1 t3.1.2.1.1 t3.1.2.1.2.1)
     else
       if (t4.1.1 == (0 : Int)) = true then
         if (t2.1.2.1 != (0 : Int)) = true then
           some ((false, ()), ())
         else
           (run_ratchetlaw01_of (.start (IntKind.wrap .i64 (a0_0 + b1_0)) (IntKind.wrap .i64 (a0_1 * b1_1)))) >>= fun t6 =>
           if (!((t2.1.1.1 == t6.1.1.1) && ((t2.1.1.2.1 == t6.1.1.2.1) && true))) = true then
             some ((false, ()), ())
           else
             run_ratchetlaw01_BitsProducts (.p63 t3.1.2.2.1 a0_0 a0_1 b1_0 b1_1 t3.1.1.1 t3.1.1.2.1 t3.1.2.1.1 t3.1.2.1.2.1)
       else
         run_ratchetlaw01_BitsProducts (.p63 t3.1.2.2.1 a0_0 a0_1 b1_0 b1_1 t3.1.1.1 t3.1.1.2.1 t3.1.2.1.1 t3.1.2.1.2.1)
 | .p63 f9 B0_0 B0_1 B1_0 B1_1 B2_0 B2_1 B3_0 B3_1 =>
   (run_ratchetref01_DivErr (.start B0_0 B0_1 B1_0 B1_1)) >>= fun t1 =>
   if (t1.1.1 != (0 : Int)) = true then
     if (f9 == t1.1.1) = true then
       if ((B2_0 == (0 : Int)) && ((B2_1 == (0 : Int)) && true)) = true then
         some ((((B3_0 == (0 : Int)) && ((B3_1 == (0 : Int)) && true)), ()), ())
       else
         some ((false, ()), ())
     else
       some ((false, ()), ())
   else
     if (f9 == (0 : Int)) = true then
       if (!(B1_1 == (0 : Int))) = true then
         (run_ratchetlaw01_of (.start B0_0 (IntKind.wrap .i64 (Int.tdiv B0_1 B1_1)))) >>= fun t2 =>
         if ((B2_0 == t2.1.1.1) && ((B2_1 == t2.1.1.2.1) && true)) = true then
           if (!(B1_1 == (0 : Int))) = true then
             (run_ratchetlaw01_of (.start B0_0 (Int.tmod B0_1 B1_1))) >>= fun t3 =>
             some ((((B3_0 == t3.1.1.1) && ((B3_1 == t3.1.1.2.1) && true)), ()), ())
           else none
         else
           some ((false, ()), ())
       else none
     else
       some ((false, ()), ())
  partial_fixpoint
noncomputable def tab_ratchetlaw01_BitsProducts : List (Plc E P_ratchetlaw01_BitsProducts) := [⟨63, [true, true, true, true, true], { slots := [2, 3, 7, 8, 9], rows := [], flat := [], keep := 0 }, (Unit × (Unit × (Unit × (Unit × (Int × Unit))))), ((Int × (Int × Unit)) × ((Int × (Int × Unit)) × ((Int × (Int × Unit)) × ((Int × (Int × Unit)) × Unit)))), (RdL.cons (Rd.bp 0 0) (RdL.cons (Rd.bp 1 0) (RdL.cons (Rd.bp 2 0) (RdL.cons (Rd.bp 3 0) (RdL.cons (Rd.int .i64) RdL.nil))))), (RdBL.cons (RdB.var 23 (RdL.cons (Rd.int .i64) (RdL.cons (Rd.int .i64) RdL.nil))) (RdBL.cons (RdB.var 23 (RdL.cons (Rd.int .i64) (RdL.cons (Rd.int .i64) RdL.nil))) (RdBL.cons (RdB.var 23 (RdL.cons (Rd.int .i64) (RdL.cons (Rd.int .i64) RdL.nil))) (RdBL.cons (RdB.var 23 (RdL.cons (Rd.int .i64) (RdL.cons (Rd.int .i64) RdL.nil))) RdBL.nil)))), fun a b => .p63 a.2.2.2.2.1 b.1.1 b.1.2.1 b.2.1.1 b.2.1.2.1 b.2.2.1.1 b.2.2.1.2.1 b.2.2.2.1.1 b.2.2.2.1.2.1⟩]
theorem tab_ratchetlaw01_BitsProducts_ok : All (PlcOk 109 0 place_ratchetlaw01_BitsProducts st_ratchetlaw01_BitsProducts) tab_ratchetlaw01_BitsProducts := ⟨⟨rfl, rfl, fun _ _ => rfl, fun _ _ => rfl⟩, trivial⟩
noncomputable def spec_ratchetlaw01_BitsProducts : Spec E.S := (Con.add con_ratchetref01_DivErr (Con.add con_ratchetlaw01_of (Con.add con_ratchetref01_MulErr (Con.add con_bits_DivMod (Con.add con_bits_MulWide (Con.add con_ratchetlaw01_awake noSpec))))))
theorem spec_ratchetlaw01_BitsProducts_ok : SpecOk E spec_ratchetlaw01_BitsProducts := (Con.add_ok con_ratchetref01_DivErr_ok (Con.add_ok con_ratchetlaw01_of_ok (Con.add_ok con_ratchetref01_MulErr_ok (Con.add_ok con_bits_DivMod_ok (Con.add_ok con_bits_MulWide_ok (Con.add_ok con_ratchetlaw01_awake_ok noSpec_ok))))))
noncomputable def code_ratchetlaw01_BitsProducts : Code := Tryd.f5.body.getD .skip
theorem good_ratchetlaw01_BitsProducts : ∀ pt r, run_ratchetlaw01_BitsProducts pt = some r → Good E Tryd.f5 code_ratchetlaw01_BitsProducts 0 (res_ratchetlaw01_BitsProducts.av r) (res_ratchetlaw01_BitsProducts.bx r) (place_ratchetlaw01_BitsProducts pt) (st_ratchetlaw01_BitsProducts pt) := by
  refine run_ratchetlaw01_BitsProducts.partial_correctness (fun pt r => Good E Tryd.f5 code_ratchetlaw01_BitsProducts 0 (res_ratchetlaw01_BitsProducts.av r) (res_ratchetlaw01_BitsProducts.bx r) (place_ratchetlaw01_BitsProducts pt) (st_ratchetlaw01_BitsProducts pt)) ?_
  intro run' ih pt r hr
  cases pt <;> exact fn_step (spec := spec_ratchetlaw01_BitsProducts) (wr := (fun i => mem i [])) (l := tab_ratchetlaw01_BitsProducts) (z := 109) (p := res_ratchetlaw01_BitsProducts) E_ok tab_ratchetlaw01_BitsProducts_ok.mem rfl spec_ratchetlaw01_BitsProducts_ok ih (Eq.trans (by kernel_rfl) hr)
noncomputable def con_ratchetlaw01_BitsProducts : Con E := ⟨5, ((Int × (Int × Unit)) × ((Int × (Int × Unit)) × Unit)), Unit, (RwL.cons (Rw.agg (RwL.cons (Rd.int .i64).w (RwL.cons (Rd.int .i64).w RwL.nil))) (RwL.cons (Rw.agg (RwL.cons (Rd.int .i64).w (RwL.cons (Rd.int .i64).w RwL.nil))) RwL.nil)), RdBL.nil, 0, R_ratchetlaw01_BitsProducts, fun a b => run_ratchetlaw01_BitsProducts (.start a.1.1 a.1.2.1 a.2.1.1 a.2.1.2.1), res_ratchetlaw01_BitsProducts.av, res_ratchetlaw01_BitsProducts.bx⟩
theorem con_ratchetlaw01_BitsProducts_ok : con_ratchetlaw01_BitsProducts.Ok := fun a b r h => fn_ok (fn := Tryd.f5) (code := code_ratchetlaw01_BitsProducts) E_ok (by kernel_rfl) (by kernel_rfl) (by kernel_rfl) (Nat.le_of_ble_eq_true rfl) (good_ratchetlaw01_BitsProducts (.start a.1.1 a.1.2.1 a.2.1.1 a.2.1.2.1) r h)

/-! ### ratchet/bits.SignedOf -/
inductive P_bits_SignedOf where
 | start (a0_0 : Int) (a0_1 : Int)
noncomputable def place_bits_SignedOf : P_bits_SignedOf → List Bool
 | .start .. => []
noncomputable def st_bits_SignedOf : P_bits_SignedOf → St E.S
 | .start a0_0 a0_1 => st0 13 [.agg [.v (.int .i64 a0_0), .v (.int .i64 a0_1)]] []
abbrev R_bits_SignedOf : Type := ((Int × (Int × Unit)) × Unit)
noncomputable def res_bits_SignedOf : Res E (Int × (Int × Unit)) Unit := { rows := [], flat := [], keep := 0, rl := (RdL.cons (Rd.int .i64) (RdL.cons (Rd.int .i64) RdL.nil)), rb := RdBL.nil }
noncomputable def run_bits_SignedOf : P_bits_SignedOf → Option R_bits_SignedOf
 | .start a0_0 a0_1 =>
   (run_bits_CheckBits (.start a0_0 a0_1)) >>= fun t1 =>
   if (t1.1.1 != (0 : Int)) = true then
     some (((0 : Int), (t1.1.1, ())), ())
   else
     (run_bits_word_signed (.start a0_0 a0_1)) >>= fun t2 =>
     some ((t2.1.1, ((0 : Int), ())), ())
noncomputable def tab_bits_SignedOf : List (Plc E P_bits_SignedOf) := []
theorem tab_bits_SignedOf_ok : All (PlcOk 13 0 place_bits_SignedOf st_bits_SignedOf) tab_bits_SignedOf := trivial
noncomputable def spec_bits_SignedOf : Spec E.S := (Con.add con_bits_word_signed (Con.add con_bits_CheckBits noSpec))
theorem spec_bits_SignedOf_ok : SpecOk E spec_bits_SignedOf := (Con.add_ok con_bits_word_signed_ok (Con.add_ok con_bits_CheckBits_ok noSpec_ok))
noncomputable def code_bits_SignedOf : Code := Tryd.f27.body.getD .skip
theorem good_bits_SignedOf : ∀ pt r, run_bits_SignedOf pt = some r → Good E Tryd.f27 code_bits_SignedOf 0 (res_bits_SignedOf.av r) (res_bits_SignedOf.bx r) (place_bits_SignedOf pt) (st_bits_SignedOf pt) := by
  intro pt r hr
  cases pt <;> exact fn_step (spec := spec_bits_SignedOf) (wr := (fun i => mem i [])) (l := tab_bits_SignedOf) (z := 13) (p := res_bits_SignedOf) (run' := fun _ => none) E_ok tab_bits_SignedOf_ok.mem rfl spec_bits_SignedOf_ok (fun _ _ h => by cases h) (Eq.trans (by kernel_rfl) hr)
noncomputable def con_bits_SignedOf : Con E := ⟨27, ((Int × (Int × Unit)) × Unit), Unit, (RwL.cons (Rw.agg (RwL.cons (Rd.int .i64).w (RwL.cons (Rd.int .i64).w RwL.nil))) RwL.nil), RdBL.nil, 0, R_bits_SignedOf, fun a b => run_bits_SignedOf (.start a.1.1 a.1.2.1), res_bits_SignedOf.av, res_bits_SignedOf.bx⟩
theorem con_bits_SignedOf_ok : con_bits_SignedOf.Ok := fun a b r h => fn_ok (fn := Tryd.f27) (code := code_bits_SignedOf) E_ok (by kernel_rfl) (by kernel_rfl) (by kernel_rfl) (Nat.le_of_ble_eq_true rfl) (good_bits_SignedOf (.start a.1.1 a.1.2.1) r h)

/-! ### ratchet/bits.FromSigned -/
inductive P_bits_FromSigned where
 | start (n0 : Int) (width1 : Int)
noncomputable def place_bits_FromSigned : P_bits_FromSigned → List Bool
 | .start .. => []
noncomputable def st_bits_FromSigned : P_bits_FromSigned → St E.S
 | .start n0 width1 => st0 26 [.v (.int .i64 n0), .v (.int .i64 width1)] []
abbrev R_bits_FromSigned : Type := (((Int × (Int × Unit)) × (Int × Unit)) × Unit)
noncomputable def res_bits_FromSigned : Res E ((Int × (Int × Unit)) × (Int × Unit)) Unit := { rows := [], flat := [], keep := 0, rl := (RdL.cons (Rd.agg (RdL.cons (Rd.int .i64) (RdL.cons (Rd.int .i64) RdL.nil))) (RdL.cons (Rd.int .i64) RdL.nil)), rb := RdBL.nil }
noncomputable def run_bits_FromSigned : P_bits_FromSigned → Option R_bits_FromSigned
 | .start n0 width1 =>
   (run_bits_isWidth (.start width1)) >>= fun t1 =>
   if (!t1.1.1) = true then
     some ((((0 : Int), ((0 : Int), ())), ((25 : Int), ())), ())
   else
     if (decide ((0 : Int) ≤ (IntKind.wrap .i64 (width1 - (1 : Int))))) = true then
       (run_bits_within (.start n0 (IntKind.wrap .i64 (0 - (shl .i64 (1 : Int) (IntKind.wrap .i64 (width1 - (1 : Int)))))) (IntKind.wrap .i64 ((shl .i64 (1 : Int) (IntKind.wrap .i64 (width1 - (1 : Int)))) - (1 : Int))))) >>= fun t2 =>
       if (!t2.1.1) = true then
         some ((((0 : Int), ((0 : Int), ())), ((2 : Int), ())), ())
       else
         (run_bits_of (.start n0 width1)) >>= fun t3 =>
         some (((t3.1.1.1, (t3.1.1.2.1, ())), ((0 : Int), ())), ())
     else none
noncomputable def tab_bits_FromSigned : List (Plc E P_bits_FromSigned) := []
theorem tab_bits_FromSigned_ok : All (PlcOk 26 0 place_bits_FromSigned st_bits_FromSigned) tab_bits_FromSigned := trivial
noncomputable def spec_bits_FromSigned : Spec E.S := (Con.add con_bits_of (Con.add con_bits_within (Con.add con_bits_isWidth noSpec)))
theorem spec_bits_FromSigned_ok : SpecOk E spec_bits_FromSigned := (Con.add_ok con_bits_of_ok (Con.add_ok con_bits_within_ok (Con.add_ok con_bits_isWidth_ok noSpec_ok)))
noncomputable def code_bits_FromSigned : Code := Tryd.f28.body.getD .skip
theorem good_bits_FromSigned : ∀ pt r, run_bits_FromSigned pt = some r → Good E Tryd.f28 code_bits_FromSigned 0 (res_bits_FromSigned.av r) (res_bits_FromSigned.bx r) (place_bits_FromSigned pt) (st_bits_FromSigned pt) := by
  intro pt r hr
  cases pt <;> exact fn_step (spec := spec_bits_FromSigned) (wr := (fun i => mem i [])) (l := tab_bits_FromSigned) (z := 26) (p := res_bits_FromSigned) (run' := fun _ => none) E_ok tab_bits_FromSigned_ok.mem rfl spec_bits_FromSigned_ok (fun _ _ h => by cases h) (Eq.trans (by kernel_rfl) hr)
noncomputable def con_bits_FromSigned : Con E := ⟨28, (Int × (Int × Unit)), Unit, (RwL.cons (Rd.int .i64).w (RwL.cons (Rd.int .i64).w RwL.nil)), RdBL.nil, 0, R_bits_FromSigned, fun a b => run_bits_FromSigned (.start a.1 a.2.1), res_bits_FromSigned.av, res_bits_FromSigned.bx⟩
theorem con_bits_FromSigned_ok : con_bits_FromSigned.Ok := fun a b r h => fn_ok (fn := Tryd.f28) (code := code_bits_FromSigned) E_ok (by kernel_rfl) (by kernel_rfl) (by kernel_rfl) (Nat.le_of_ble_eq_true rfl) (good_bits_FromSigned (.start a.1 a.2.1) r h)

/-! ### ratchet/ratchetref01.SignedErr -/
inductive P_ratchetref01_SignedErr where
 | start (n0 : Int) (width1 : Int)
noncomputable def place_ratchetref01_SignedErr : P_ratchetref01_SignedErr → List Bool
 | .start .. => []
noncomputable def st_ratchetref01_SignedErr : P_ratchetref01_SignedErr → St E.S
 | .start n0 width1 => st0 19 [.v (.int .i64 n0), .v (.int .i64 width1)] []
abbrev R_ratchetref01_SignedErr : Type := ((Int × Unit) × Unit)
noncomputable def res_ratchetref01_SignedErr : Res E (Int × Unit) Unit := { rows := [], flat := [], keep := 0, rl := (RdL.cons (Rd.int .i64) RdL.nil), rb := RdBL.nil }
noncomputable def run_ratchetref01_SignedErr : P_ratchetref01_SignedErr → Option R_ratchetref01_SignedErr
 | .start n0 width1 =>
   (run_ratchetbase_IsWidth (.start width1)) >>= fun t1 =>
   if (!t1.1.1) = true then
     some (((25 : Int), ()), ())
   else
     (run_ratchetbase_Power (.start (IntKind.wrap .i64 (width1 - (1 : Int))))) >>= fun t2 =>
     (run_ratchetbase_Power (.start (IntKind.wrap .i64 (width1 - (1 : Int))))) >>= fun t3 =>
     (run_ratchetbase_Within (.start n0 (IntKind.wrap .i64 (0 - t2.1.1)) (IntKind.wrap .i64 (t3.1.1 - (1 : Int))))) >>= fun t4 =>
     if (!t4.1.1) = true then
       some (((2 : Int), ()), ())
     else
       some (((0 : Int), ()), ())
noncomputable def tab_ratchetref01_SignedErr : List (Plc E P_ratchetref01_SignedErr) := []
theorem tab_ratchetref01_SignedErr_ok : All (PlcOk 19 0 place_ratchetref01_SignedErr st_ratchetref01_SignedErr) tab_ratchetref01_SignedErr := trivial
noncomputable def spec_ratchetref01_SignedErr : Spec E.S := (Con.add con_ratchetbase_Within (Con.add con_ratchetbase_Power (Con.add con_ratchetbase_IsWidth noSpec)))
theorem spec_ratchetref01_SignedErr_ok : SpecOk E spec_ratchetref01_SignedErr := (Con.add_ok con_ratchetbase_Within_ok (Con.add_ok con_ratchetbase_Power_ok (Con.add_ok con_ratchetbase_IsWidth_ok noSpec_ok)))
noncomputable def code_ratchetref01_SignedErr : Code := Tryd.f29.body.getD .skip
theorem good_ratchetref01_SignedErr : ∀ pt r, run_ratchetref01_SignedErr pt = some r → Good E Tryd.f29 code_ratchetref01_SignedErr 0 (res_ratchetref01_SignedErr.av r) (res_ratchetref01_SignedErr.bx r) (place_ratchetref01_SignedErr pt) (st_ratchetref01_SignedErr pt) := by
  intro pt r hr
  cases pt <;> exact fn_step (spec := spec_ratchetref01_SignedErr) (wr := (fun i => mem i [])) (l := tab_ratchetref01_SignedErr) (z := 19) (p := res_ratchetref01_SignedErr) (run' := fun _ => none) E_ok tab_ratchetref01_SignedErr_ok.mem rfl spec_ratchetref01_SignedErr_ok (fun _ _ h => by cases h) (Eq.trans (by kernel_rfl) hr)
noncomputable def con_ratchetref01_SignedErr : Con E := ⟨29, (Int × (Int × Unit)), Unit, (RwL.cons (Rd.int .i64).w (RwL.cons (Rd.int .i64).w RwL.nil)), RdBL.nil, 0, R_ratchetref01_SignedErr, fun a b => run_ratchetref01_SignedErr (.start a.1 a.2.1), res_ratchetref01_SignedErr.av, res_ratchetref01_SignedErr.bx⟩
theorem con_ratchetref01_SignedErr_ok : con_ratchetref01_SignedErr.Ok := fun a b r h => fn_ok (fn := Tryd.f29) (code := code_ratchetref01_SignedErr) E_ok (by kernel_rfl) (by kernel_rfl) (by kernel_rfl) (Nat.le_of_ble_eq_true rfl) (good_ratchetref01_SignedErr (.start a.1 a.2.1) r h)

/-! ### ratchet/ratchetlaw01.BitsSigns -/
inductive P_ratchetlaw01_BitsSigns where
 | start (a0_0 : Int) (a0_1 : Int) (n1 : Int) (width2 : Int)
 | p63 (s7 : Int) (e8 : Int) (B0_0 : Int) (B0_1 : Int)
 | p255 (s7 : Int) (B0_0 : Int) (B0_1 : Int)
noncomputable def place_ratchetlaw01_BitsSigns : P_ratchetlaw01_BitsSigns → List Bool
 | .start .. => []
 | .p63 .. => [true, true, true, true, true]
 | .p255 .. => [true, true, true, true, true, true, true]
noncomputable def st_ratchetlaw01_BitsSigns : P_ratchetlaw01_BitsSigns → St E.S
 | .start a0_0 a0_1 n1 width2 => st0 97 [.agg [.v (.int .i64 a0_0), .v (.int .i64 a0_1)], .v (.int .i64 n1), .v (.int .i64 width2)] []
 | .p63 s7 e8 B0_0 B0_1 => mkSt 97 [3, 7, 8] [.bp 0 0, .v (.int .i64 s7), .v (.int .i64 e8)] [.var 23 [.v (.int .i64 B0_0), .v (.int .i64 B0_1)]]
 | .p255 s7 B0_0 B0_1 => mkSt 97 [3, 7] [.bp 0 0, .v (.int .i64 s7)] [.var 23 [.v (.int .i64 B0_0), .v (.int .i64 B0_1)]]
abbrev R_ratchetlaw01_BitsSigns : Type := ((Bool × Unit) × Unit)
noncomputable def res_ratchetlaw01_BitsSigns : Res E (Bool × Unit) Unit := { rows := [], flat := [], keep := 0, rl := (RdL.cons Rd.bool RdL.nil), rb := RdBL.nil }
noncomputable def run_ratchetlaw01_BitsSigns : P_ratchetlaw01_BitsSigns → Option R_ratchetlaw01_BitsSigns
 | .start a0_0 a0_1 n1 width2 =>
   (some () : Option Unit) >>= fun t1 =>
   if (!true) = true then
     some ((false, ()), ())
   else
     (run_bits_SignedOf (.start a0_0 a0_1)) >>= fun t2 =>
     (run_bits_FromSigned (.start n1 width2)) >>= fun t3 =>
     (run_ratchetref01_SignedErr (.start n1 width2)) >>= fun t4 =>
     if (t4.1.1 != (0 : Int)) = true then
       if (t3.1.2.1 != t4.1.1) = true then
         some ((false, ()), ())
       else
         if (!((t3.1.1.1 == (0 : Int)) && ((t3.1.1.2.1 == (0 : Int)) && true))) = true then
           some ((false, ()), ())
         else
           if (t4.1.1 == (0 : Int)) = true then
             if (t3.1.2.1 != (0 : Int)) = true then
               some ((false, ()), ())
             else
               (run_ratchetbase_Power (.start width2)) >>= fun t5 =>
               (run_ratchetbase_Mod (.start n1 t5.1.1)) >>= fun t6 =>
               (run_ratchetlaw01_of (.start width2 t6.1.1)) >>= fun t7 =>
               if (!((t3.1.1.1 == t7.1.1.1) && ((t3.1.1.2.1 == t7.1.1.2.1) && true))) = true then
                 some ((false, ()), ())
               else
                 run_ratchetlaw01_BitsSigns (.p63 t2.1.1 t2.1.2.1 a0_0 a0_1)
           else
             run_ratchetlaw01_BitsSigns (.p63 t2.1.1 t2.1.2.1 a0_0 a0_1)
     else
       if (t4.1.1 == (0 : Int)) = true then
         if (t3.1.2.1 != (0 : Int)) = true then
           some ((false, ()), ())
         else
           (run_ratchetbase_Power (.start width2)) >>= fun t8 =>
           (run_ratchetbase_Mod (.start n1 t8.1.1)) >>= fun t9 =>
           (run_ratchetlaw01_of (.start width2 t9.1.1)) >>= fun t10 =>
           if (!((t3.1.1.1 == t10.1.1.1) && ((t3.1.1.2.1 == t10.1.1.2.1) && true))) = true then
             some ((false, ()), ())
           else
             run_ratchetlaw01_BitsSigns (.p63 t2.1.1 t2.1.2.1 a0_0 a0_1)
       else
         run_ratchetlaw01_BitsSigns (.p63 t2.1.1 t2.1.2.1 a0_0 a0_1)
 | .p63 s7 e8 B0_0 B0_1 =>
   (run_ratchetref01_BitsErr (.start B0_0 B0_1)) >>= fun t1 =>
   if (t1.1.1 != (0 : Int)) = true then
     if (e8 == t1.1.1) = true then
       some ((s7 == (0 : Int), ()), ())
     else
       some ((false, ()), ())
   else
     if (e8 != (0 : Int)) = true then
       some ((false, ()), ())
     else
       (run_ratchetbase_Signed (.start B0_1 B0_0)) >>= fun t2 =>
       if (s7 != t2.1.1) = true then
         some ((false, ()), ())
       else
         run_ratchetlaw01_BitsSigns (.p255 s7 B0_0 B0_1)
 | .p255 s7 B0_0 B0_1 =>
   (run_bits_FromSigned (.start s7 B0_0)) >>= fun t1 =>
   if (t1.1.2.1 == (0 : Int)) = true then
     some ((((t1.1.1.1 == B0_0) && ((t1.1.1.2.1 == B0_1) && true)), ()), ())
   else
     some ((false, ()), ())
  partial_fixpoint
noncomputable def tab_ratchetlaw01_BitsSigns : List (Plc E P_ratchetlaw01_BitsSigns) := [⟨63, [true, true, true, true, true], { slots := [3, 7, 8], rows := [], flat := [], keep := 0 }, (Unit × (Int × (Int × Unit))), ((Int × (Int × Unit)) × Unit), (RdL.cons (Rd.bp 0 0) (RdL.cons (Rd.int .i64) (RdL.cons (Rd.int .i64) RdL.nil))), (RdBL.cons (RdB.var 23 (RdL.cons (Rd.int .i64) (RdL.cons (Rd.int .i64) RdL.nil))) RdBL.nil), fun a b => .p63 a.2.1 a.2.2.1 b.1.1 b.1.2.1⟩,
  ⟨255, [true, true, true, true, true, true, true], { slots := [3, 7], rows := [], flat := [], keep := 0 }, (Unit × (Int × Unit)), ((Int × (Int × Unit)) × Unit), (RdL.cons (Rd.bp 0 0) (RdL.cons (Rd.int .i64) RdL.nil)), (RdBL.cons (RdB.var 23 (RdL.cons (Rd.int .i64) (RdL.cons (Rd.int .i64) RdL.nil))) RdBL.nil), fun a b => .p255 a.2.1 b.1.1 b.1.2.1⟩]
theorem tab_ratchetlaw01_BitsSigns_ok : All (PlcOk 97 0 place_ratchetlaw01_BitsSigns st_ratchetlaw01_BitsSigns) tab_ratchetlaw01_BitsSigns := ⟨⟨rfl, rfl, fun _ _ => rfl, fun _ _ => rfl⟩, ⟨⟨rfl, rfl, fun _ _ => rfl, fun _ _ => rfl⟩, trivial⟩⟩
noncomputable def spec_ratchetlaw01_BitsSigns : Spec E.S := (Con.add con_ratchetbase_Signed (Con.add con_ratchetref01_BitsErr (Con.add con_ratchetlaw01_of (Con.add con_ratchetbase_Mod (Con.add con_ratchetbase_Power (Con.add con_ratchetref01_SignedErr (Con.add con_bits_FromSigned (Con.add con_bits_SignedOf (Con.add con_ratchetlaw01_awake noSpec)))))))))
theorem spec_ratchetlaw01_BitsSigns_ok : SpecOk E spec_ratchetlaw01_BitsSigns := (Con.add_ok con_ratchetbase_Signed_ok (Con.add_ok con_ratchetref01_BitsErr_ok (Con.add_ok con_ratchetlaw01_of_ok (Con.add_ok con_ratchetbase_Mod_ok (Con.add_ok con_ratchetbase_Power_ok (Con.add_ok con_ratchetref01_SignedErr_ok (Con.add_ok con_bits_FromSigned_ok (Con.add_ok con_bits_SignedOf_ok (Con.add_ok con_ratchetlaw01_awake_ok noSpec_ok)))))))))
noncomputable def code_ratchetlaw01_BitsSigns : Code := Tryd.f6.body.getD .skip
theorem good_ratchetlaw01_BitsSigns : ∀ pt r, run_ratchetlaw01_BitsSigns pt = some r → Good E Tryd.f6 code_ratchetlaw01_BitsSigns 0 (res_ratchetlaw01_BitsSigns.av r) (res_ratchetlaw01_BitsSigns.bx r) (place_ratchetlaw01_BitsSigns pt) (st_ratchetlaw01_BitsSigns pt) := by
  refine run_ratchetlaw01_BitsSigns.partial_correctness (fun pt r => Good E Tryd.f6 code_ratchetlaw01_BitsSigns 0 (res_ratchetlaw01_BitsSigns.av r) (res_ratchetlaw01_BitsSigns.bx r) (place_ratchetlaw01_BitsSigns pt) (st_ratchetlaw01_BitsSigns pt)) ?_
  intro run' ih pt r hr
  cases pt <;> exact fn_step (spec := spec_ratchetlaw01_BitsSigns) (wr := (fun i => mem i [])) (l := tab_ratchetlaw01_BitsSigns) (z := 97) (p := res_ratchetlaw01_BitsSigns) E_ok tab_ratchetlaw01_BitsSigns_ok.mem rfl spec_ratchetlaw01_BitsSigns_ok ih (Eq.trans (by kernel_rfl) hr)
noncomputable def con_ratchetlaw01_BitsSigns : Con E := ⟨6, ((Int × (Int × Unit)) × (Int × (Int × Unit))), Unit, (RwL.cons (Rw.agg (RwL.cons (Rd.int .i64).w (RwL.cons (Rd.int .i64).w RwL.nil))) (RwL.cons (Rd.int .i64).w (RwL.cons (Rd.int .i64).w RwL.nil))), RdBL.nil, 0, R_ratchetlaw01_BitsSigns, fun a b => run_ratchetlaw01_BitsSigns (.start a.1.1 a.1.2.1 a.2.1 a.2.2.1), res_ratchetlaw01_BitsSigns.av, res_ratchetlaw01_BitsSigns.bx⟩
theorem con_ratchetlaw01_BitsSigns_ok : con_ratchetlaw01_BitsSigns.Ok := fun a b r h => fn_ok (fn := Tryd.f6) (code := code_ratchetlaw01_BitsSigns) E_ok (by kernel_rfl) (by kernel_rfl) (by kernel_rfl) (Nat.le_of_ble_eq_true rfl) (good_ratchetlaw01_BitsSigns (.start a.1.1 a.1.2.1 a.2.1 a.2.2.1) r h)

/-! ### ratchet/bits.FieldOf -/
inductive P_bits_FieldOf where
 | start (a0_0 : Int) (a0_1 : Int) (low1 : Int) (width2 : Int)
 | p7 (low1 : Int) (width2 : Int) (e8 : Int) (B0_0 : Int) (B0_1 : Int) (B1_0 : Int) (B1_1 : Int)
noncomputable def place_bits_FieldOf : P_bits_FieldOf → List Bool
 | .start .. => []
 | .p7 .. => [true, true]
noncomputable def st_bits_FieldOf : P_bits_FieldOf → St E.S
 | .start a0_0 a0_1 low1 width2 => st0 41 [.agg [.v (.int .i64 a0_0), .v (.int .i64 a0_1)], .v (.int .i64 low1), .v (.int .i64 width2)] []
 | .p7 low1 width2 e8 B0_0 B0_1 B1_0 B1_1 => mkSt 41 [1, 2, 3, 6, 8] [.v (.int .i64 low1), .v (.int .i64 width2), .bp 0 0, .bp 1 0, .v (.int .i64 e8)] [.var 23 [.v (.int .i64 B0_0), .v (.int .i64 B0_1)], .var 23 [.v (.int .i64 B1_0), .v (.int .i64 B1_1)]]
abbrev R_bits_FieldOf : Type := (((Int × (Int × Unit)) × (Int × Unit)) × Unit)
noncomputable def res_bits_FieldOf : Res E ((Int × (Int × Unit)) × (Int × Unit)) Unit := { rows := [], flat := [], keep := 0, rl := (RdL.cons (Rd.agg (RdL.cons (Rd.int .i64) (RdL.cons (Rd.int .i64) RdL.nil))) (RdL.cons (Rd.int .i64) RdL.nil)), rb := RdBL.nil }
noncomputable def run_bits_FieldOf : P_bits_FieldOf → Option R_bits_FieldOf
 | .start a0_0 a0_1 low1 width2 =>
   (run_bits_CheckBits (.start a0_0 a0_1)) >>= fun t1 =>
   (run_bits_within (.start low1 (0 : Int) (16 : Int))) >>= fun t2 =>
   if t2.1.1 = true then
     (run_bits_isWidth (.start width2)) >>= fun t3 =>
     (run_bits_unless (.start t3.1.1 (2 : Int))) >>= fun t4 =>
     (run_bits_first (.start ([t1.1.1, t4.1.1] : List Int))) >>= fun t5 =>
     run_bits_FieldOf (.p7 low1 width2 t5.1.1 a0_0 a0_1 (0 : Int) (0 : Int))
   else
     (run_bits_unless (.start false (2 : Int))) >>= fun t6 =>
     (run_bits_first (.start ([t1.1.1, t6.1.1] : List Int))) >>= fun t7 =>
     run_bits_FieldOf (.p7 low1 width2 t7.1.1 a0_0 a0_1 (0 : Int) (0 : Int))
 | .p7 low1 width2 e8 B0_0 B0_1 B1_0 B1_1 =>
   (run_bits_unless (.start (decide ((IntKind.wrap .i64 (low1 + width2)) ≤ B0_0)) (25 : Int))) >>= fun t1 =>
   (run_bits_first (.start ([e8, t1.1.1] : List Int))) >>= fun t2 =>
   if (t2.1.1 != (0 : Int)) = true then
     some ((((0 : Int), ((0 : Int), ())), (t2.1.1, ())), ())
   else
     if (decide ((0 : Int) ≤ low1)) = true then
       (run_bits_of (.start (shr .i64 B0_1 low1) width2)) >>= fun t3 =>
       some (((t3.1.1.1, (t3.1.1.2.1, ())), ((0 : Int), ())), ())
     else none
  partial_fixpoint
noncomputable def tab_bits_FieldOf : List (Plc E P_bits_FieldOf) := [⟨7, [true, true], { slots := [1, 2, 3, 6, 8], rows := [], flat := [], keep := 0 }, (Int × (Int × (Unit × (Unit × (Int × Unit))))), ((Int × (Int × Unit)) × ((Int × (Int × Unit)) × Unit)), (RdL.cons (Rd.int .i64) (RdL.cons (Rd.int .i64) (RdL.cons (Rd.bp 0 0) (RdL.cons (Rd.bp 1 0) (RdL.cons (Rd.int .i64) RdL.nil))))), (RdBL.cons (RdB.var 23 (RdL.cons (Rd.int .i64) (RdL.cons (Rd.int .i64) RdL.nil))) (RdBL.cons (RdB.var 23 (RdL.cons (Rd.int .i64) (RdL.cons (Rd.int .i64) RdL.nil))) RdBL.nil)), fun a b => .p7 a.1 a.2.1 a.2.2.2.2.1 b.1.1 b.1.2.1 b.2.1.1 b.2.1.2.1⟩]
theorem tab_bits_FieldOf_ok : All (PlcOk 41 0 place_bits_FieldOf st_bits_FieldOf) tab_bits_FieldOf := ⟨⟨rfl, rfl, fun _ _ => rfl, fun _ _ => rfl⟩, trivial⟩
noncomputable def spec_bits_FieldOf : Spec E.S := (Con.add con_bits_of (Con.add con_bits_first (Con.add con_bits_unless (Con.add con_bits_isWidth (Con.add con_bits_within (Con.add con_bits_CheckBits noSpec))))))
theorem spec_bits_FieldOf_ok : SpecOk E spec_bits_FieldOf := (Con.add_ok con_bits_of_ok (Con.add_ok con_bits_first_ok (Con.add_ok con_bits_unless_ok (Con.add_ok con_bits_isWidth_ok (Con.add_ok con_bits_within_ok (Con.add_ok con_bits_CheckBits_ok noSpec_ok))))))
noncomputable def code_bits_FieldOf : Code := Tryd.f39.body.getD .skip
theorem good_bits_FieldOf : ∀ pt r, run_bits_FieldOf pt = some r → Good E Tryd.f39 code_bits_FieldOf 0 (res_bits_FieldOf.av r) (res_bits_FieldOf.bx r) (place_bits_FieldOf pt) (st_bits_FieldOf pt) := by
  refine run_bits_FieldOf.partial_correctness (fun pt r => Good E Tryd.f39 code_bits_FieldOf 0 (res_bits_FieldOf.av r) (res_bits_FieldOf.bx r) (place_bits_FieldOf pt) (st_bits_FieldOf pt)) ?_
  intro run' ih pt r hr
  cases pt <;> exact fn_step (spec := spec_bits_FieldOf) (wr := (fun i => mem i [])) (l := tab_bits_FieldOf) (z := 41) (p := res_bits_FieldOf) E_ok tab_bits_FieldOf_ok.mem rfl spec_bits_FieldOf_ok ih (Eq.trans (by kernel_rfl) hr)
noncomputable def con_bits_FieldOf : Con E := ⟨39, ((Int × (Int × Unit)) × (Int × (Int × Unit))), Unit, (RwL.cons (Rw.agg (RwL.cons (Rd.int .i64).w (RwL.cons (Rd.int .i64).w RwL.nil))) (RwL.cons (Rd.int .i64).w (RwL.cons (Rd.int .i64).w RwL.nil))), RdBL.nil, 0, R_bits_FieldOf, fun a b => run_bits_FieldOf (.start a.1.1 a.1.2.1 a.2.1 a.2.2.1), res_bits_FieldOf.av, res_bits_FieldOf.bx⟩
theorem con_bits_FieldOf_ok : con_bits_FieldOf.Ok := fun a b r h => fn_ok (fn := Tryd.f39) (code := code_bits_FieldOf) E_ok (by kernel_rfl) (by kernel_rfl) (by kernel_rfl) (Nat.le_of_ble_eq_true rfl) (good_bits_FieldOf (.start a.1.1 a.1.2.1 a.2.1 a.2.2.1) r h)

/-! ### ratchet/bits.WithField -/
inductive P_bits_WithField where
 | start (a0_0 : Int) (a0_1 : Int) (low1 : Int) (b2_0 : Int) (b2_1 : Int)
noncomputable def place_bits_WithField : P_bits_WithField → List Bool
 | .start .. => []
noncomputable def st_bits_WithField : P_bits_WithField → St E.S
 | .start a0_0 a0_1 low1 b2_0 b2_1 => st0 53 [.agg [.v (.int .i64 a0_0), .v (.int .i64 a0_1)], .v (.int .i64 low1), .agg [.v (.int .i64 b2_0), .v (.int .i64 b2_1)]] []
abbrev R_bits_WithField : Type := (((Int × (Int × Unit)) × (Int × Unit)) × Unit)
noncomputable def res_bits_WithField : Res E ((Int × (Int × Unit)) × (Int × Unit)) Unit := { rows := [], flat := [], keep := 0, rl := (RdL.cons (Rd.agg (RdL.cons (Rd.int .i64) (RdL.cons (Rd.int .i64) RdL.nil))) (RdL.cons (Rd.int .i64) RdL.nil)), rb := RdBL.nil }
noncomputable def run_bits_WithField : P_bits_WithField → Option R_bits_WithField
 | .start a0_0 a0_1 low1 b2_0 b2_1 =>
   (run_bits_CheckBits (.start a0_0 a0_1)) >>= fun t1 =>
   (run_bits_CheckBits (.start b2_0 b2_1)) >>= fun t2 =>
   (run_bits_within (.start low1 (0 : Int) (16 : Int))) >>= fun t3 =>
   (run_bits_unless (.start t3.1.1 (2 : Int))) >>= fun t4 =>
   (run_bits_first (.start ([t1.1.1, t2.1.1, t4.1.1] : List Int))) >>= fun t5 =>
   (run_bits_unless (.start (decide ((IntKind.wrap .i64 (low1 + b2_0)) ≤ a0_0)) (25 : Int))) >>= fun t6 =>
   (run_bits_first (.start ([t5.1.1, t6.1.1] : List Int))) >>= fun t7 =>
   if (t7.1.1 != (0 : Int)) = true then
     some ((((0 : Int), ((0 : Int), ())), (t7.1.1, ())), ())
   else
     if (decide ((0 : Int) ≤ b2_0)) = true then
       if (decide ((0 : Int) ≤ low1)) = true then
         if (decide ((0 : Int) ≤ low1)) = true then
           (run_bits_of (.start (bits .or .i64 (bits .andNot .i64 a0_1 (shl .i64 (IntKind.wrap .i64 ((shl .i64 (1 : Int) b2_0) - (1 : Int))) low1)) (shl .i64 b2_1 low1)) a0_0)) >>= fun t8 =>
           some (((t8.1.1.1, (t8.1.1.2.1, ())), ((0 : Int), ())), ())
         else none
       else none
     else none
noncomputable def tab_bits_WithField : List (Plc E P_bits_WithField) := []
theorem tab_bits_WithField_ok : All (PlcOk 53 0 place_bits_WithField st_bits_WithField) tab_bits_WithField := trivial
noncomputable def spec_bits_WithField : Spec E.S := (Con.add con_bits_of (Con.add con_bits_first (Con.add con_bits_unless (Con.add con_bits_within (Con.add con_bits_CheckBits noSpec)))))
theorem spec_bits_WithField_ok : SpecOk E spec_bits_WithField := (Con.add_ok con_bits_of_ok (Con.add_ok con_bits_first_ok (Con.add_ok con_bits_unless_ok (Con.add_ok con_bits_within_ok (Con.add_ok con_bits_CheckBits_ok noSpec_ok)))))
noncomputable def code_bits_WithField : Code := Tryd.f40.body.getD .skip
theorem good_bits_WithField : ∀ pt r, run_bits_WithField pt = some r → Good E Tryd.f40 code_bits_WithField 0 (res_bits_WithField.av r) (res_bits_WithField.bx r) (place_bits_WithField pt) (st_bits_WithField pt) := by
  intro pt r hr
  cases pt <;> exact fn_step (spec := spec_bits_WithField) (wr := (fun i => mem i [])) (l := tab_bits_WithField) (z := 53) (p := res_bits_WithField) (run' := fun _ => none) E_ok tab_bits_WithField_ok.mem rfl spec_bits_WithField_ok (fun _ _ h => by cases h) (Eq.trans (by kernel_rfl) hr)
noncomputable def con_bits_WithField : Con E := ⟨40, ((Int × (Int × Unit)) × (Int × ((Int × (Int × Unit)) × Unit))), Unit, (RwL.cons (Rw.agg (RwL.cons (Rd.int .i64).w (RwL.cons (Rd.int .i64).w RwL.nil))) (RwL.cons (Rd.int .i64).w (RwL.cons (Rw.agg (RwL.cons (Rd.int .i64).w (RwL.cons (Rd.int .i64).w RwL.nil))) RwL.nil))), RdBL.nil, 0, R_bits_WithField, fun a b => run_bits_WithField (.start a.1.1 a.1.2.1 a.2.1 a.2.2.1.1 a.2.2.1.2.1), res_bits_WithField.av, res_bits_WithField.bx⟩
theorem con_bits_WithField_ok : con_bits_WithField.Ok := fun a b r h => fn_ok (fn := Tryd.f40) (code := code_bits_WithField) E_ok (by kernel_rfl) (by kernel_rfl) (by kernel_rfl) (Nat.le_of_ble_eq_true rfl) (good_bits_WithField (.start a.1.1 a.1.2.1 a.2.1 a.2.2.1.1 a.2.2.1.2.1) r h)

/-! ### ratchet/ratchetref01.Copy -/
inductive P_ratchetref01_Copy where
 | start (l0 : (List api_Bits))
noncomputable def place_ratchetref01_Copy : P_ratchetref01_Copy → List Bool
 | .start .. => []
noncomputable def st_ratchetref01_Copy : P_ratchetref01_Copy → St E.S
 | .start l0 => st0 6 [.sl 23 l0 false] []
abbrev R_ratchetref01_Copy : Type := ((Unit × Unit) × ((List api_Bits) × Unit))
noncomputable def res_ratchetref01_Copy : Res E (Unit × Unit) ((List api_Bits) × Unit) := { rows := [], flat := [], keep := 0, rl := (RdL.cons (Rd.rw 0) RdL.nil), rb := (RdBL.cons (RdB.row 23 true) RdBL.nil) }
noncomputable def run_ratchetref01_Copy : P_ratchetref01_Copy → Option R_ratchetref01_Copy
 | .start l0 =>
   if (fits (List.length ([] : List api_Bits)) (List.length l0) 16) = true then
     some (((), ()), (([] : List api_Bits) ++ l0, ()))
   else none
noncomputable def tab_ratchetref01_Copy : List (Plc E P_ratchetref01_Copy) := []
theorem tab_ratchetref01_Copy_ok : All (PlcOk 6 0 place_ratchetref01_Copy st_ratchetref01_Copy) tab_ratchetref01_Copy := trivial
noncomputable def spec_ratchetref01_Copy : Spec E.S := noSpec
theorem spec_ratchetref01_Copy_ok : SpecOk E spec_ratchetref01_Copy := noSpec_ok
noncomputable def code_ratchetref01_Copy : Code := Tryd.f42.body.getD .skip
theorem good_ratchetref01_Copy : ∀ pt r, run_ratchetref01_Copy pt = some r → Good E Tryd.f42 code_ratchetref01_Copy 0 (res_ratchetref01_Copy.av r) (res_ratchetref01_Copy.bx r) (place_ratchetref01_Copy pt) (st_ratchetref01_Copy pt) := by
  intro pt r hr
  cases pt <;> exact fn_step (spec := spec_ratchetref01_Copy) (wr := (fun i => mem i [])) (l := tab_ratchetref01_Copy) (z := 6) (p := res_ratchetref01_Copy) (run' := fun _ => none) E_ok tab_ratchetref01_Copy_ok.mem rfl spec_ratchetref01_Copy_ok (fun _ _ h => by cases h) (Eq.trans (by kernel_rfl) hr)
noncomputable def con_ratchetref01_Copy : Con E := ⟨42, ((List api_Bits) × Unit), Unit, (RwL.cons (Rw.sl 23) RwL.nil), RdBL.nil, 0, R_ratchetref01_Copy, fun a b => run_ratchetref01_Copy (.start a.1), res_ratchetref01_Copy.av, res_ratchetref01_Copy.bx⟩
theorem con_ratchetref01_Copy_ok : con_ratchetref01_Copy.Ok := fun a b r h => fn_ok (fn := Tryd.f42) (code := code_ratchetref01_Copy) E_ok (by kernel_rfl) (by kernel_rfl) (by kernel_rfl) (Nat.le_of_ble_eq_true rfl) (good_ratchetref01_Copy (.start a.1) r h)

/-! ### ratchet/bits.Joined -/
inductive P_bits_Joined where
 | start (l0 : (List api_Bits))
 | p244 (s23 : (List api_Bits)) (s24 : Int) (s25 : Int) (B0_0 : Int) (B0_1 : Int) (B1_0 : Int) (B1_1 : Int)
noncomputable def place_bits_Joined : P_bits_Joined → List Bool
 | .start .. => []
 | .p244 .. => [false, false, true, false, true, true, true]
noncomputable def st_bits_Joined : P_bits_Joined → St E.S
 | .start l0 => st0 59 [.sl 23 l0 false] []
 | .p244 s23 s24 s25 B0_0 B0_1 B1_0 B1_1 => mkSt 59 [2, 5, 23, 24, 25] [.bp 0 0, .bp 1 0, .sl 23 s23 false, .v (.int .i64 s24), .v (.int .i64 s25)] [.var 23 [.v (.int .i64 B0_0), .v (.int .i64 B0_1)], .var 23 [.v (.int .i64 B1_0), .v (.int .i64 B1_1)]]
abbrev R_bits_Joined : Type := (((Int × (Int × Unit)) × (Int × Unit)) × Unit)
noncomputable def res_bits_Joined : Res E ((Int × (Int × Unit)) × (Int × Unit)) Unit := { rows := [], flat := [], keep := 0, rl := (RdL.cons (Rd.agg (RdL.cons (Rd.int .i64) (RdL.cons (Rd.int .i64) RdL.nil))) (RdL.cons (Rd.int .i64) RdL.nil)), rb := RdBL.nil }
noncomputable def run_bits_Joined : P_bits_Joined → Option R_bits_Joined
 | .start l0 =>
   (run_bits_unless (.start (decide ((List.length l0 : Int) > (0 : Int))) (10 : Int))) >>= fun t1 =>
   (run_bits_unless (.start (decide ((List.length l0 : Int) ≤ (16 : Int))) (8 : Int))) >>= fun t2 =>
   (run_bits_first (.start ([t1.1.1, t2.1.1] : List Int))) >>= fun t3 =>
   if (t3.1.1 != (0 : Int)) = true then
     some ((((0 : Int), ((0 : Int), ())), (t3.1.1, ())), ())
   else
     run_bits_Joined (.p244 l0 (List.length l0 : Int) (0 : Int) (0 : Int) (0 : Int) (0 : Int) (0 : Int))
 | .p244 s23 s24 s25 B0_0 B0_1 B1_0 B1_1 =>
   if (decide (s25 < s24)) = true then
     (idx s23 s25) >>= fun t1 =>
     (run_bits_CheckBits (.start t1.Width t1.Value)) >>= fun t2 =>
     if (t2.1.1 != (0 : Int)) = true then
       some ((((0 : Int), ((0 : Int), ())), (t2.1.1, ())), ())
     else
       if (decide ((IntKind.wrap .i64 (B1_0 + t1.Width)) ≤ (16 : Int))) = true then
         if (decide ((0 : Int) ≤ t1.Width)) = true then
           run_bits_Joined (.p244 s23 s24 (IntKind.wrap .i64 (s25 + (1 : Int))) B0_0 B0_1 (IntKind.wrap .i64 (B1_0 + t1.Width)) (bits .or .i64 (shl .i64 B1_1 t1.Width) t1.Value))
         else none
       else
         run_bits_Joined (.p244 s23 s24 (IntKind.wrap .i64 (s25 + (1 : Int))) B0_0 B0_1 (IntKind.wrap .i64 (B1_0 + t1.Width)) B1_1)
   else
     if (decide (B1_0 > (16 : Int))) = true then
       some ((((0 : Int), ((0 : Int), ())), ((8 : Int), ())), ())
     else
       some (((B1_0, (B1_1, ())), ((0 : Int), ())), ())
  partial_fixpoint
noncomputable def tab_bits_Joined : List (Plc E P_bits_Joined) := [⟨244, [false, false, true, false, true, true, true], { slots := [2, 5, 23, 24, 25], rows := [], flat := [], keep := 0 }, (Unit × (Unit × ((List api_Bits) × (Int × (Int × Unit))))), ((Int × (Int × Unit)) × ((Int × (Int × Unit)) × Unit)), (RdL.cons (Rd.bp 0 0) (RdL.cons (Rd.bp 1 0) (RdL.cons (Rd.sl 23 false) (RdL.cons (Rd.int .i64) (RdL.cons (Rd.int .i64) RdL.nil))))), (RdBL.cons (RdB.var 23 (RdL.cons (Rd.int .i64) (RdL.cons (Rd.int .i64) RdL.nil))) (RdBL.cons (RdB.var 23 (RdL.cons (Rd.int .i64) (RdL.cons (Rd.int .i64) RdL.nil))) RdBL.nil)), fun a b => .p244 a.2.2.1 a.2.2.2.1 a.2.2.2.2.1 b.1.1 b.1.2.1 b.2.1.1 b.2.1.2.1⟩]
theorem tab_bits_Joined_ok : All (PlcOk 59 0 place_bits_Joined st_bits_Joined) tab_bits_Joined := ⟨⟨rfl, rfl, fun _ _ => rfl, fun _ _ => rfl⟩, trivial⟩
noncomputable def spec_bits_Joined : Spec E.S := (Con.add con_bits_CheckBits (Con.add con_bits_first (Con.add con_bits_unless noSpec)))
theorem spec_bits_Joined_ok : SpecOk E spec_bits_Joined := (Con.add_ok con_bits_CheckBits_ok (Con.add_ok con_bits_first_ok (Con.add_ok con_bits_unless_ok noSpec_ok)))
noncomputable def code_bits_Joined : Code := Tryd.f41.body.getD .skip
theorem good_bits_Joined : ∀ pt r, run_bits_Joined pt = some r → Good E Tryd.f41 code_bits_Joined 0 (res_bits_Joined.av r) (res_bits_Joined.bx r) (place_bits_Joined pt) (st_bits_Joined pt) := by
  refine run_bits_Joined.partial_correctness (fun pt r => Good E Tryd.f41 code_bits_Joined 0 (res_bits_Joined.av r) (res_bits_Joined.bx r) (place_bits_Joined pt) (st_bits_Joined pt)) ?_
  intro run' ih pt r hr
  cases pt <;> exact fn_step (spec := spec_bits_Joined) (wr := (fun i => mem i [])) (l := tab_bits_Joined) (z := 59) (p := res_bits_Joined) E_ok tab_bits_Joined_ok.mem rfl spec_bits_Joined_ok ih (Eq.trans (by kernel_rfl) hr)
noncomputable def con_bits_Joined : Con E := ⟨41, ((List api_Bits) × Unit), Unit, (RwL.cons (Rw.sl 23) RwL.nil), RdBL.nil, 0, R_bits_Joined, fun a b => run_bits_Joined (.start a.1), res_bits_Joined.av, res_bits_Joined.bx⟩
theorem con_bits_Joined_ok : con_bits_Joined.Ok := fun a b r h => fn_ok (fn := Tryd.f41) (code := code_bits_Joined) E_ok (by kernel_rfl) (by kernel_rfl) (by kernel_rfl) (Nat.le_of_ble_eq_true rfl) (good_bits_Joined (.start a.1) r h)

/-! ### ratchet/ratchetref01.spotErr -/
inductive P_ratchetref01_spotErr where
 | start (a0_0 : Int) (a0_1 : Int) (low1 : Int) (width2 : Int)
 | p7 (low1 : Int) (width2 : Int) (B0_0 : Int) (B0_1 : Int)
noncomputable def place_ratchetref01_spotErr : P_ratchetref01_spotErr → List Bool
 | .start .. => []
 | .p7 .. => [true, true]
noncomputable def st_ratchetref01_spotErr : P_ratchetref01_spotErr → St E.S
 | .start a0_0 a0_1 low1 width2 => st0 21 [.agg [.v (.int .i64 a0_0), .v (.int .i64 a0_1)], .v (.int .i64 low1), .v (.int .i64 width2)] []
 | .p7 low1 width2 B0_0 B0_1 => mkSt 21 [1, 2, 3] [.v (.int .i64 low1), .v (.int .i64 width2), .bp 0 0] [.var 23 [.v (.int .i64 B0_0), .v (.int .i64 B0_1)]]
abbrev R_ratchetref01_spotErr : Type := ((Int × Unit) × Unit)
noncomputable def res_ratchetref01_spotErr : Res E (Int × Unit) Unit := { rows := [], flat := [], keep := 0, rl := (RdL.cons (Rd.int .i64) RdL.nil), rb := RdBL.nil }
noncomputable def run_ratchetref01_spotErr : P_ratchetref01_spotErr → Option R_ratchetref01_spotErr
 | .start a0_0 a0_1 low1 width2 =>
   (run_ratchetbase_Within (.start low1 (0 : Int) (16 : Int))) >>= fun t1 =>
   if (!t1.1.1) = true then
     some (((2 : Int), ()), ())
   else
     (run_ratchetbase_IsWidth (.start width2)) >>= fun t2 =>
     if (!t2.1.1) = true then
       some (((2 : Int), ()), ())
     else
       run_ratchetref01_spotErr (.p7 low1 width2 a0_0 a0_1)
 | .p7 low1 width2 B0_0 B0_1 =>
   if (decide ((IntKind.wrap .i64 (low1 + width2)) > B0_0)) = true then
     some (((25 : Int), ()), ())
   else
     some (((0 : Int), ()), ())
  partial_fixpoint
noncomputable def tab_ratchetref01_spotErr : List (Plc E P_ratchetref01_spotErr) := [⟨7, [true, true], { slots := [1, 2, 3], rows := [], flat := [], keep := 0 }, (Int × (Int × (Unit × Unit))), ((Int × (Int × Unit)) × Unit), (RdL.cons (Rd.int .i64) (RdL.cons (Rd.int .i64) (RdL.cons (Rd.bp 0 0) RdL.nil))), (RdBL.cons (RdB.var 23 (RdL.cons (Rd.int .i64) (RdL.cons (Rd.int .i64) RdL.nil))) RdBL.nil), fun a b => .p7 a.1 a.2.1 b.1.1 b.1.2.1⟩]
theorem tab_ratchetref01_spotErr_ok : All (PlcOk 21 0 place_ratchetref01_spotErr st_ratchetref01_spotErr) tab_ratchetref01_spotErr := ⟨⟨rfl, rfl, fun _ _ => rfl, fun _ _ => rfl⟩, trivial⟩
noncomputable def spec_ratchetref01_spotErr : Spec E.S := (Con.add con_ratchetbase_IsWidth (Con.add con_ratchetbase_Within noSpec))
theorem spec_ratchetref01_spotErr_ok : SpecOk E spec_ratchetref01_spotErr := (Con.add_ok con_ratchetbase_IsWidth_ok (Con.add_ok con_ratchetbase_Within_ok noSpec_ok))
noncomputable def code_ratchetref01_spotErr : Code := Tryd.f83.body.getD .skip
theorem good_ratchetref01_spotErr : ∀ pt r, run_ratchetref01_spotErr pt = some r → Good E Tryd.f83 code_ratchetref01_spotErr 0 (res_ratchetref01_spotErr.av r) (res_ratchetref01_spotErr.bx r) (place_ratchetref01_spotErr pt) (st_ratchetref01_spotErr pt) := by
  refine run_ratchetref01_spotErr.partial_correctness (fun pt r => Good E Tryd.f83 code_ratchetref01_spotErr 0 (res_ratchetref01_spotErr.av r) (res_ratchetref01_spotErr.bx r) (place_ratchetref01_spotErr pt) (st_ratchetref01_spotErr pt)) ?_
  intro run' ih pt r hr
  cases pt <;> exact fn_step (spec := spec_ratchetref01_spotErr) (wr := (fun i => mem i [])) (l := tab_ratchetref01_spotErr) (z := 21) (p := res_ratchetref01_spotErr) E_ok tab_ratchetref01_spotErr_ok.mem rfl spec_ratchetref01_spotErr_ok ih (Eq.trans (by kernel_rfl) hr)
noncomputable def con_ratchetref01_spotErr : Con E := ⟨83, ((Int × (Int × Unit)) × (Int × (Int × Unit))), Unit, (RwL.cons (Rw.agg (RwL.cons (Rd.int .i64).w (RwL.cons (Rd.int .i64).w RwL.nil))) (RwL.cons (Rd.int .i64).w (RwL.cons (Rd.int .i64).w RwL.nil))), RdBL.nil, 0, R_ratchetref01_spotErr, fun a b => run_ratchetref01_spotErr (.start a.1.1 a.1.2.1 a.2.1 a.2.2.1), res_ratchetref01_spotErr.av, res_ratchetref01_spotErr.bx⟩
theorem con_ratchetref01_spotErr_ok : con_ratchetref01_spotErr.Ok := fun a b r h => fn_ok (fn := Tryd.f83) (code := code_ratchetref01_spotErr) E_ok (by kernel_rfl) (by kernel_rfl) (by kernel_rfl) (Nat.le_of_ble_eq_true rfl) (good_ratchetref01_spotErr (.start a.1.1 a.1.2.1 a.2.1 a.2.2.1) r h)

/-! ### ratchet/ratchetref01.FieldErr -/
inductive P_ratchetref01_FieldErr where
 | start (a0_0 : Int) (a0_1 : Int) (low1 : Int) (width2 : Int)
noncomputable def place_ratchetref01_FieldErr : P_ratchetref01_FieldErr → List Bool
 | .start .. => []
noncomputable def st_ratchetref01_FieldErr : P_ratchetref01_FieldErr → St E.S
 | .start a0_0 a0_1 low1 width2 => st0 17 [.agg [.v (.int .i64 a0_0), .v (.int .i64 a0_1)], .v (.int .i64 low1), .v (.int .i64 width2)] []
abbrev R_ratchetref01_FieldErr : Type := ((Int × Unit) × Unit)
noncomputable def res_ratchetref01_FieldErr : Res E (Int × Unit) Unit := { rows := [], flat := [], keep := 0, rl := (RdL.cons (Rd.int .i64) RdL.nil), rb := RdBL.nil }
noncomputable def run_ratchetref01_FieldErr : P_ratchetref01_FieldErr → Option R_ratchetref01_FieldErr
 | .start a0_0 a0_1 low1 width2 =>
   (run_ratchetref01_BitsErr (.start a0_0 a0_1)) >>= fun t1 =>
   if (t1.1.1 != (0 : Int)) = true then
     some ((t1.1.1, ()), ())
   else
     (run_ratchetref01_spotErr (.start a0_0 a0_1 low1 width2)) >>= fun t2 =>
     some ((t2.1.1, ()), ())
noncomputable def tab_ratchetref01_FieldErr : List (Plc E P_ratchetref01_FieldErr) := []
theorem tab_ratchetref01_FieldErr_ok : All (PlcOk 17 0 place_ratchetref01_FieldErr st_ratchetref01_FieldErr) tab_ratchetref01_FieldErr := trivial
noncomputable def spec_ratchetref01_FieldErr : Spec E.S := (Con.add con_ratchetref01_spotErr (Con.add con_ratchetref01_BitsErr noSpec))
theorem spec_ratchetref01_FieldErr_ok : SpecOk E spec_ratchetref01_FieldErr := (Con.add_ok con_ratchetref01_spotErr_ok (Con.add_ok con_ratchetref01_BitsErr_ok noSpec_ok))
noncomputable def code_ratchetref01_FieldErr : Code := Tryd.f43.body.getD .skip
theorem good_ratchetref01_FieldErr : ∀ pt r, run_ratchetref01_FieldErr pt = some r → Good E Tryd.f43 code_ratchetref01_FieldErr 0 (res_ratchetref01_FieldErr.av r) (res_ratchetref01_FieldErr.bx r) (place_ratchetref01_FieldErr pt) (st_ratchetref01_FieldErr pt) := by
  intro pt r hr
  cases pt <;> exact fn_step (spec := spec_ratchetref01_FieldErr) (wr := (fun i => mem i [])) (l := tab_ratchetref01_FieldErr) (z := 17) (p := res_ratchetref01_FieldErr) (run' := fun _ => none) E_ok tab_ratchetref01_FieldErr_ok.mem rfl spec_ratchetref01_FieldErr_ok (fun _ _ h => by cases h) (Eq.trans (by kernel_rfl) hr)
noncomputable def con_ratchetref01_FieldErr : Con E := ⟨43, ((Int × (Int × Unit)) × (Int × (Int × Unit))), Unit, (RwL.cons (Rw.agg (RwL.cons (Rd.int .i64).w (RwL.cons (Rd.int .i64).w RwL.nil))) (RwL.cons (Rd.int .i64).w (RwL.cons (Rd.int .i64).w RwL.nil))), RdBL.nil, 0, R_ratchetref01_FieldErr, fun a b => run_ratchetref01_FieldErr (.start a.1.1 a.1.2.1 a.2.1 a.2.2.1), res_ratchetref01_FieldErr.av, res_ratchetref01_FieldErr.bx⟩
theorem con_ratchetref01_FieldErr_ok : con_ratchetref01_FieldErr.Ok := fun a b r h => fn_ok (fn := Tryd.f43) (code := code_ratchetref01_FieldErr) E_ok (by kernel_rfl) (by kernel_rfl) (by kernel_rfl) (Nat.le_of_ble_eq_true rfl) (good_ratchetref01_FieldErr (.start a.1.1 a.1.2.1 a.2.1 a.2.2.1) r h)

/-! ### ratchet/ratchetref01.Field -/
inductive P_ratchetref01_Field where
 | start (a0_0 : Int) (a0_1 : Int) (low1 : Int) (width2 : Int)
noncomputable def place_ratchetref01_Field : P_ratchetref01_Field → List Bool
 | .start .. => []
noncomputable def st_ratchetref01_Field : P_ratchetref01_Field → St E.S
 | .start a0_0 a0_1 low1 width2 => st0 17 [.agg [.v (.int .i64 a0_0), .v (.int .i64 a0_1)], .v (.int .i64 low1), .v (.int .i64 width2)] []
abbrev R_ratchetref01_Field : Type := (((Int × (Int × Unit)) × Unit) × Unit)
noncomputable def res_ratchetref01_Field : Res E ((Int × (Int × Unit)) × Unit) Unit := { rows := [], flat := [], keep := 0, rl := (RdL.cons (Rd.agg (RdL.cons (Rd.int .i64) (RdL.cons (Rd.int .i64) RdL.nil))) RdL.nil), rb := RdBL.nil }
noncomputable def run_ratchetref01_Field : P_ratchetref01_Field → Option R_ratchetref01_Field
 | .start a0_0 a0_1 low1 width2 =>
   (run_ratchetbase_Power (.start low1)) >>= fun t1 =>
   if (!(t1.1.1 == (0 : Int))) = true then
     (run_ratchetbase_Power (.start width2)) >>= fun t2 =>
     (run_ratchetbase_Mod (.start (IntKind.wrap .i64 (Int.tdiv a0_1 t1.1.1)) t2.1.1)) >>= fun t3 =>
     some (((width2, (t3.1.1, ())), ()), ())
   else none
noncomputable def tab_ratchetref01_Field : List (Plc E P_ratchetref01_Field) := []
theorem tab_ratchetref01_Field_ok : All (PlcOk 17 0 place_ratchetref01_Field st_ratchetref01_Field) tab_ratchetref01_Field := trivial
noncomputable def spec_ratchetref01_Field : Spec E.S := (Con.add con_ratchetbase_Mod (Con.add con_ratchetbase_Power noSpec))
theorem spec_ratchetref01_Field_ok : SpecOk E spec_ratchetref01_Field := (Con.add_ok con_ratchetbase_Mod_ok (Con.add_ok con_ratchetbase_Power_ok noSpec_ok))
noncomputable def code_ratchetref01_Field : Code := Tryd.f44.body.getD .skip
theorem good_ratchetref01_Field : ∀ pt r, run_ratchetref01_Field pt = some r → Good E Tryd.f44 code_ratchetref01_Field 0 (res_ratchetref01_Field.av r) (res_ratchetref01_Field.bx r) (place_ratchetref01_Field pt) (st_ratchetref01_Field pt) := by
  intro pt r hr
  cases pt <;> exact fn_step (spec := spec_ratchetref01_Field) (wr := (fun i => mem i [])) (l := tab_ratchetref01_Field) (z := 17) (p := res_ratchetref01_Field) (run' := fun _ => none) E_ok tab_ratchetref01_Field_ok.mem rfl spec_ratchetref01_Field_ok (fun _ _ h => by cases h) (Eq.trans (by kernel_rfl) hr)
noncomputable def con_ratchetref01_Field : Con E := ⟨44, ((Int × (Int × Unit)) × (Int × (Int × Unit))), Unit, (RwL.cons (Rw.agg (RwL.cons (Rd.int .i64).w (RwL.cons (Rd.int .i64).w RwL.nil))) (RwL.cons (Rd.int .i64).w (RwL.cons (Rd.int .i64).w RwL.nil))), RdBL.nil, 0, R_ratchetref01_Field, fun a b => run_ratchetref01_Field (.start a.1.1 a.1.2.1 a.2.1 a.2.2.1), res_ratchetref01_Field.av, res_ratchetref01_Field.bx⟩
theorem con_ratchetref01_Field_ok : con_ratchetref01_Field.Ok := fun a b r h => fn_ok (fn := Tryd.f44) (code := code_ratchetref01_Field) E_ok (by kernel_rfl) (by kernel_rfl) (by kernel_rfl) (Nat.le_of_ble_eq_true rfl) (good_ratchetref01_Field (.start a.1.1 a.1.2.1 a.2.1 a.2.2.1) r h)

/-! ### ratchet/ratchetref01.SetErr -/
inductive P_ratchetref01_SetErr where
 | start (a0_0 : Int) (a0_1 : Int) (low1 : Int) (b2_0 : Int) (b2_1 : Int)
noncomputable def place_ratchetref01_SetErr : P_ratchetref01_SetErr → List Bool
 | .start .. => []
noncomputable def st_ratchetref01_SetErr : P_ratchetref01_SetErr → St E.S
 | .start a0_0 a0_1 low1 b2_0 b2_1 => st0 19 [.agg [.v (.int .i64 a0_0), .v (.int .i64 a0_1)], .v (.int .i64 low1), .agg [.v (.int .i64 b2_0), .v (.int .i64 b2_1)]] []
abbrev R_ratchetref01_SetErr : Type := ((Int × Unit) × Unit)
noncomputable def res_ratchetref01_SetErr : Res E (Int × Unit) Unit := { rows := [], flat := [], keep := 0, rl := (RdL.cons (Rd.int .i64) RdL.nil), rb := RdBL.nil }
noncomputable def run_ratchetref01_SetErr : P_ratchetref01_SetErr → Option R_ratchetref01_SetErr
 | .start a0_0 a0_1 low1 b2_0 b2_1 =>
   (run_ratchetref01_PairErr (.start a0_0 a0_1 b2_0 b2_1)) >>= fun t1 =>
   if (t1.1.1 != (0 : Int)) = true then
     some ((t1.1.1, ()), ())
   else
     (run_ratchetref01_spotErr (.start a0_0 a0_1 low1 b2_0)) >>= fun t2 =>
     some ((t2.1.1, ()), ())
noncomputable def tab_ratchetref01_SetErr : List (Plc E P_ratchetref01_SetErr) := []
theorem tab_ratchetref01_SetErr_ok : All (PlcOk 19 0 place_ratchetref01_SetErr st_ratchetref01_SetErr) tab_ratchetref01_SetErr := trivial
noncomputable def spec_ratchetref01_SetErr : Spec E.S := (Con.add con_ratchetref01_spotErr (Con.add con_ratchetref01_PairErr noSpec))
theorem spec_ratchetref01_SetErr_ok : SpecOk E spec_ratchetref01_SetErr := (Con.add_ok con_ratchetref01_spotErr_ok (Con.add_ok con_ratchetref01_PairErr_ok noSpec_ok))
noncomputable def code_ratchetref01_SetErr : Code := Tryd.f45.body.getD .skip
theorem good_ratchetref01_SetErr : ∀ pt r, run_ratchetref01_SetErr pt = some r → Good E Tryd.f45 code_ratchetref01_SetErr 0 (res_ratchetref01_SetErr.av r) (res_ratchetref01_SetErr.bx r) (place_ratchetref01_SetErr pt) (st_ratchetref01_SetErr pt) := by
  intro pt r hr
  cases pt <;> exact fn_step (spec := spec_ratchetref01_SetErr) (wr := (fun i => mem i [])) (l := tab_ratchetref01_SetErr) (z := 19) (p := res_ratchetref01_SetErr) (run' := fun _ => none) E_ok tab_ratchetref01_SetErr_ok.mem rfl spec_ratchetref01_SetErr_ok (fun _ _ h => by cases h) (Eq.trans (by kernel_rfl) hr)
noncomputable def con_ratchetref01_SetErr : Con E := ⟨45, ((Int × (Int × Unit)) × (Int × ((Int × (Int × Unit)) × Unit))), Unit, (RwL.cons (Rw.agg (RwL.cons (Rd.int .i64).w (RwL.cons (Rd.int .i64).w RwL.nil))) (RwL.cons (Rd.int .i64).w (RwL.cons (Rw.agg (RwL.cons (Rd.int .i64).w (RwL.cons (Rd.int .i64).w RwL.nil))) RwL.nil))), RdBL.nil, 0, R_ratchetref01_SetErr, fun a b => run_ratchetref01_SetErr (.start a.1.1 a.1.2.1 a.2.1 a.2.2.1.1 a.2.2.1.2.1), res_ratchetref01_SetErr.av, res_ratchetref01_SetErr.bx⟩
theorem con_ratchetref01_SetErr_ok : con_ratchetref01_SetErr.Ok := fun a b r h => fn_ok (fn := Tryd.f45) (code := code_ratchetref01_SetErr) E_ok (by kernel_rfl) (by kernel_rfl) (by kernel_rfl) (Nat.le_of_ble_eq_true rfl) (good_ratchetref01_SetErr (.start a.1.1 a.1.2.1 a.2.1 a.2.2.1.1 a.2.2.1.2.1) r h)

/-! ### ratchet/ratchetref01.Set -/
inductive P_ratchetref01_Set where
 | start (a0_0 : Int) (a0_1 : Int) (low1 : Int) (b2_0 : Int) (b2_1 : Int)
noncomputable def place_ratchetref01_Set : P_ratchetref01_Set → List Bool
 | .start .. => []
noncomputable def st_ratchetref01_Set : P_ratchetref01_Set → St E.S
 | .start a0_0 a0_1 low1 b2_0 b2_1 => st0 25 [.agg [.v (.int .i64 a0_0), .v (.int .i64 a0_1)], .v (.int .i64 low1), .agg [.v (.int .i64 b2_0), .v (.int .i64 b2_1)]] []
abbrev R_ratchetref01_Set : Type := (((Int × (Int × Unit)) × Unit) × Unit)
noncomputable def res_ratchetref01_Set : Res E ((Int × (Int × Unit)) × Unit) Unit := { rows := [], flat := [], keep := 0, rl := (RdL.cons (Rd.agg (RdL.cons (Rd.int .i64) (RdL.cons (Rd.int .i64) RdL.nil))) RdL.nil), rb := RdBL.nil }
noncomputable def run_ratchetref01_Set : P_ratchetref01_Set → Option R_ratchetref01_Set
 | .start a0_0 a0_1 low1 b2_0 b2_1 =>
   (run_ratchetref01_Field (.start a0_0 a0_1 low1 b2_0)) >>= fun t1 =>
   (run_ratchetbase_Power (.start low1)) >>= fun t2 =>
   some (((a0_0, (IntKind.wrap .i64 (a0_1 + (IntKind.wrap .i64 ((IntKind.wrap .i64 (b2_1 - t1.1.1.2.1)) * t2.1.1))), ())), ()), ())
noncomputable def tab_ratchetref01_Set : List (Plc E P_ratchetref01_Set) := []
theorem tab_ratchetref01_Set_ok : All (PlcOk 25 0 place_ratchetref01_Set st_ratchetref01_Set) tab_ratchetref01_Set := trivial
noncomputable def spec_ratchetref01_Set : Spec E.S := (Con.add con_ratchetbase_Power (Con.add con_ratchetref01_Field noSpec))
theorem spec_ratchetref01_Set_ok : SpecOk E spec_ratchetref01_Set := (Con.add_ok con_ratchetbase_Power_ok (Con.add_ok con_ratchetref01_Field_ok noSpec_ok))
noncomputable def code_ratchetref01_Set : Code := Tryd.f46.body.getD .skip
theorem good_ratchetref01_Set : ∀ pt r, run_ratchetref01_Set pt = some r → Good E Tryd.f46 code_ratchetref01_Set 0 (res_ratchetref01_Set.av r) (res_ratchetref01_Set.bx r) (place_ratchetref01_Set pt) (st_ratchetref01_Set pt) := by
  intro pt r hr
  cases pt <;> exact fn_step (spec := spec_ratchetref01_Set) (wr := (fun i => mem i [])) (l := tab_ratchetref01_Set) (z := 25) (p := res_ratchetref01_Set) (run' := fun _ => none) E_ok tab_ratchetref01_Set_ok.mem rfl spec_ratchetref01_Set_ok (fun _ _ h => by cases h) (Eq.trans (by kernel_rfl) hr)
noncomputable def con_ratchetref01_Set : Con E := ⟨46, ((Int × (Int × Unit)) × (Int × ((Int × (Int × Unit)) × Unit))), Unit, (RwL.cons (Rw.agg (RwL.cons (Rd.int .i64).w (RwL.cons (Rd.int .i64).w RwL.nil))) (RwL.cons (Rd.int .i64).w (RwL.cons (Rw.agg (RwL.cons (Rd.int .i64).w (RwL.cons (Rd.int .i64).w RwL.nil))) RwL.nil))), RdBL.nil, 0, R_ratchetref01_Set, fun a b => run_ratchetref01_Set (.start a.1.1 a.1.2.1 a.2.1 a.2.2.1.1 a.2.2.1.2.1), res_ratchetref01_Set.av, res_ratchetref01_Set.bx⟩
theorem con_ratchetref01_Set_ok : con_ratchetref01_Set.Ok := fun a b r h => fn_ok (fn := Tryd.f46) (code := code_ratchetref01_Set) E_ok (by kernel_rfl) (by kernel_rfl) (by kernel_rfl) (Nat.le_of_ble_eq_true rfl) (good_ratchetref01_Set (.start a.1.1 a.1.2.1 a.2.1 a.2.2.1.1 a.2.2.1.2.1) r h)

/-! ### ratchet/ratchetref01.JoinErr -/
inductive P_ratchetref01_JoinErr where
 | start (l0 : (List api_Bits))
 | p500 (l0 : (List api_Bits)) (sum3 : Int) (i4 : Int)
noncomputable def place_ratchetref01_JoinErr : P_ratchetref01_JoinErr → List Bool
 | .start .. => []
 | .p500 .. => [false, false, true, false, true, true, true, true]
noncomputable def st_ratchetref01_JoinErr : P_ratchetref01_JoinErr → St E.S
 | .start l0 => st0 35 [.sl 23 l0 false] []
 | .p500 l0 sum3 i4 => mkSt 35 [0, 3, 4] [.sl 23 l0 false, .v (.int .i64 sum3), .v (.int .i64 i4)] []
abbrev R_ratchetref01_JoinErr : Type := ((Int × Unit) × Unit)
noncomputable def res_ratchetref01_JoinErr : Res E (Int × Unit) Unit := { rows := [], flat := [], keep := 0, rl := (RdL.cons (Rd.int .i64) RdL.nil), rb := RdBL.nil }
noncomputable def run_ratchetref01_JoinErr : P_ratchetref01_JoinErr → Option R_ratchetref01_JoinErr
 | .start l0 =>
   if ((List.length l0 : Int) == (0 : Int)) = true then
     some (((10 : Int), ()), ())
   else
     if (decide ((List.length l0 : Int) > (16 : Int))) = true then
       some (((8 : Int), ()), ())
     else
       run_ratchetref01_JoinErr (.p500 l0 (0 : Int) (0 : Int))
 | .p500 l0 sum3 i4 =>
   if (decide (i4 < (List.length l0 : Int))) = true then
     (idx l0 i4) >>= fun t1 =>
     (run_ratchetref01_BitsErr (.start t1.Width t1.Value)) >>= fun t2 =>
     if (t2.1.1 != (0 : Int)) = true then
       some ((t2.1.1, ()), ())
     else
       (idx l0 i4) >>= fun t3 =>
       run_ratchetref01_JoinErr (.p500 l0 (IntKind.wrap .i64 (sum3 + t3.Width)) (IntKind.wrap .i64 (i4 + (1 : Int))))
   else
     if (decide (sum3 > (16 : Int))) = true then
       some (((8 : Int), ()), ())
     else
       some (((0 : Int), ()), ())
  partial_fixpoint
noncomputable def tab_ratchetref01_JoinErr : List (Plc E P_ratchetref01_JoinErr) := [⟨500, [false, false, true, false, true, true, true, true], { slots := [0, 3, 4], rows := [], flat := [], keep := 0 }, ((List api_Bits) × (Int × (Int × Unit))), Unit, (RdL.cons (Rd.sl 23 false) (RdL.cons (Rd.int .i64) (RdL.cons (Rd.int .i64) RdL.nil))), RdBL.nil, fun a b => .p500 a.1 a.2.1 a.2.2.1⟩]
theorem tab_ratchetref01_JoinErr_ok : All (PlcOk 35 0 place_ratchetref01_JoinErr st_ratchetref01_JoinErr) tab_ratchetref01_JoinErr := ⟨⟨rfl, rfl, fun _ _ => rfl, fun _ _ => rfl⟩, trivial⟩
noncomputable def spec_ratchetref01_JoinErr : Spec E.S := (Con.add con_ratchetref01_BitsErr noSpec)
theorem spec_ratchetref01_JoinErr_ok : SpecOk E spec_ratchetref01_JoinErr := (Con.add_ok con_ratchetref01_BitsErr_ok noSpec_ok)
noncomputable def code_ratchetref01_JoinErr : Code := Tryd.f47.body.getD .skip
theorem good_ratchetref01_JoinErr : ∀ pt r, run_ratchetref01_JoinErr pt = some r → Good E Tryd.f47 code_ratchetref01_JoinErr 0 (res_ratchetref01_JoinErr.av r) (res_ratchetref01_JoinErr.bx r) (place_ratchetref01_JoinErr pt) (st_ratchetref01_JoinErr pt) := by
  refine run_ratchetref01_JoinErr.partial_correctness (fun pt r => Good E Tryd.f47 code_ratchetref01_JoinErr 0 (res_ratchetref01_JoinErr.av r) (res_ratchetref01_JoinErr.bx r) (place_ratchetref01_JoinErr pt) (st_ratchetref01_JoinErr pt)) ?_
  intro run' ih pt r hr
  cases pt <;> exact fn_step (spec := spec_ratchetref01_JoinErr) (wr := (fun i => mem i [])) (l := tab_ratchetref01_JoinErr) (z := 35) (p := res_ratchetref01_JoinErr) E_ok tab_ratchetref01_JoinErr_ok.mem rfl spec_ratchetref01_JoinErr_ok ih (Eq.trans (by kernel_rfl) hr)
noncomputable def con_ratchetref01_JoinErr : Con E := ⟨47, ((List api_Bits) × Unit), Unit, (RwL.cons (Rw.sl 23) RwL.nil), RdBL.nil, 0, R_ratchetref01_JoinErr, fun a b => run_ratchetref01_JoinErr (.start a.1), res_ratchetref01_JoinErr.av, res_ratchetref01_JoinErr.bx⟩
theorem con_ratchetref01_JoinErr_ok : con_ratchetref01_JoinErr.Ok := fun a b r h => fn_ok (fn := Tryd.f47) (code := code_ratchetref01_JoinErr) E_ok (by kernel_rfl) (by kernel_rfl) (by kernel_rfl) (Nat.le_of_ble_eq_true rfl) (good_ratchetref01_JoinErr (.start a.1) r h)

/-! ### ratchet/ratchetref01.Join -/
inductive P_ratchetref01_Join where
 | start (l0 : (List api_Bits))
 | p116 (l0 : (List api_Bits)) (i4 : Int) (B0_0 : Int) (B0_1 : Int) (B1_0 : Int) (B1_1 : Int)
noncomputable def place_ratchetref01_Join : P_ratchetref01_Join → List Bool
 | .start .. => []
 | .p116 .. => [false, false, true, false, true, true]
noncomputable def st_ratchetref01_Join : P_ratchetref01_Join → St E.S
 | .start l0 => st0 36 [.sl 23 l0 false] []
 | .p116 l0 i4 B0_0 B0_1 B1_0 B1_1 => mkSt 36 [0, 2, 3, 4] [.sl 23 l0 false, .bp 0 0, .bp 1 0, .v (.int .i64 i4)] [.var 23 [.v (.int .i64 B0_0), .v (.int .i64 B0_1)], .var 23 [.v (.int .i64 B1_0), .v (.int .i64 B1_1)]]
abbrev R_ratchetref01_Join : Type := (((Int × (Int × Unit)) × Unit) × Unit)
noncomputable def res_ratchetref01_Join : Res E ((Int × (Int × Unit)) × Unit) Unit := { rows := [], flat := [], keep := 0, rl := (RdL.cons (Rd.agg (RdL.cons (Rd.int .i64) (RdL.cons (Rd.int .i64) RdL.nil))) RdL.nil), rb := RdBL.nil }
noncomputable def run_ratchetref01_Join : P_ratchetref01_Join → Option R_ratchetref01_Join
 | .start l0 =>
   run_ratchetref01_Join (.p116 l0 (0 : Int) (0 : Int) (0 : Int) (0 : Int) (0 : Int))
 | .p116 l0 i4 B0_0 B0_1 B1_0 B1_1 =>
   if (decide (i4 < (List.length l0 : Int))) = true then
     (idx l0 i4) >>= fun t1 =>
     (idx l0 i4) >>= fun t2 =>
     (run_ratchetbase_Power (.start t2.Width)) >>= fun t3 =>
     (idx l0 i4) >>= fun t4 =>
     run_ratchetref01_Join (.p116 l0 (IntKind.wrap .i64 (i4 + (1 : Int))) B0_0 B0_1 (IntKind.wrap .i64 (B1_0 + t1.Width)) (IntKind.wrap .i64 ((IntKind.wrap .i64 (B1_1 * t3.1.1)) + t4.Value)))
   else
     some (((B1_0, (B1_1, ())), ()), ())
  partial_fixpoint
noncomputable def tab_ratchetref01_Join : List (Plc E P_ratchetref01_Join) := [⟨116, [false, false, true, false, true, true], { slots := [0, 2, 3, 4], rows := [], flat := [], keep := 0 }, ((List api_Bits) × (Unit × (Unit × (Int × Unit)))), ((Int × (Int × Unit)) × ((Int × (Int × Unit)) × Unit)), (RdL.cons (Rd.sl 23 false) (RdL.cons (Rd.bp 0 0) (RdL.cons (Rd.bp 1 0) (RdL.cons (Rd.int .i64) RdL.nil)))), (RdBL.cons (RdB.var 23 (RdL.cons (Rd.int .i64) (RdL.cons (Rd.int .i64) RdL.nil))) (RdBL.cons (RdB.var 23 (RdL.cons (Rd.int .i64) (RdL.cons (Rd.int .i64) RdL.nil))) RdBL.nil)), fun a b => .p116 a.1 a.2.2.2.1 b.1.1 b.1.2.1 b.2.1.1 b.2.1.2.1⟩]
theorem tab_ratchetref01_Join_ok : All (PlcOk 36 0 place_ratchetref01_Join st_ratchetref01_Join) tab_ratchetref01_Join := ⟨⟨rfl, rfl, fun _ _ => rfl, fun _ _ => rfl⟩, trivial⟩
noncomputable def spec_ratchetref01_Join : Spec E.S := (Con.add con_ratchetbase_Power noSpec)
theorem spec_ratchetref01_Join_ok : SpecOk E spec_ratchetref01_Join := (Con.add_ok con_ratchetbase_Power_ok noSpec_ok)
noncomputable def code_ratchetref01_Join : Code := Tryd.f48.body.getD .skip
theorem good_ratchetref01_Join : ∀ pt r, run_ratchetref01_Join pt = some r → Good E Tryd.f48 code_ratchetref01_Join 0 (res_ratchetref01_Join.av r) (res_ratchetref01_Join.bx r) (place_ratchetref01_Join pt) (st_ratchetref01_Join pt) := by
  refine run_ratchetref01_Join.partial_correctness (fun pt r => Good E Tryd.f48 code_ratchetref01_Join 0 (res_ratchetref01_Join.av r) (res_ratchetref01_Join.bx r) (place_ratchetref01_Join pt) (st_ratchetref01_Join pt)) ?_
  intro run' ih pt r hr
  cases pt <;> exact fn_step (spec := spec_ratchetref01_Join) (wr := (fun i => mem i [])) (l := tab_ratchetref01_Join) (z := 36) (p := res_ratchetref01_Join) E_ok tab_ratchetref01_Join_ok.mem rfl spec_ratchetref01_Join_ok ih (Eq.trans (by kernel_rfl) hr)
noncomputable def con_ratchetref01_Join : Con E := ⟨48, ((List api_Bits) × Unit), Unit, (RwL.cons (Rw.sl 23) RwL.nil), RdBL.nil, 0, R_ratchetref01_Join, fun a b => run_ratchetref01_Join (.start a.1), res_ratchetref01_Join.av, res_ratchetref01_Join.bx⟩
theorem con_ratchetref01_Join_ok : con_ratchetref01_Join.Ok := fun a b r h => fn_ok (fn := Tryd.f48) (code := code_ratchetref01_Join) E_ok (by kernel_rfl) (by kernel_rfl) (by kernel_rfl) (Nat.le_of_ble_eq_true rfl) (good_ratchetref01_Join (.start a.1) r h)

/-! ### ratchet/ratchetlaw01.BitsFields -/
inductive P_ratchetlaw01_BitsFields where
 | start (a0_0 : Int) (a0_1 : Int) (x1_0 : Int) (x1_1 : Int) (l2 : (List api_Bits))
 | p63 (l2 : (List api_Bits)) (B0_0 : Int) (B0_1 : Int) (B1_0 : Int) (B1_1 : Int) (B2_0 : Int) (B2_1 : Int)
 | p1023 (l2 : (List api_Bits)) (g11 : Int) (h13 : Int) (B0_0 : Int) (B0_1 : Int) (B1_0 : Int) (B1_1 : Int) (B2_0 : Int) (B2_1 : Int) (B3_0 : Int) (B3_1 : Int) (B4_0 : Int) (B4_1 : Int)
 | p2047 (l2 : (List api_Bits)) (h13 : Int) (B0_0 : Int) (B0_1 : Int) (B1_0 : Int) (B1_1 : Int) (B2_0 : Int) (B2_1 : Int)
 | p4095 (B0_0 : Int) (B0_1 : Int) (B1_0 : Int) (B1_1 : Int)
 | p8191 (B0_0 : Int) (B0_1 : Int) (B1_0 : Int) (B1_1 : Int)
noncomputable def place_ratchetlaw01_BitsFields : P_ratchetlaw01_BitsFields → List Bool
 | .start .. => []
 | .p63 .. => [true, true, true, true, true]
 | .p1023 .. => [true, true, true, true, true, true, true, true, true]
 | .p2047 .. => [true, true, true, true, true, true, true, true, true, true]
 | .p4095 .. => [true, true, true, true, true, true, true, true, true, true, true]
 | .p8191 .. => [true, true, true, true, true, true, true, true, true, true, true, true]
noncomputable def st_ratchetlaw01_BitsFields : P_ratchetlaw01_BitsFields → St E.S
 | .start a0_0 a0_1 x1_0 x1_1 l2 => st0 209 [.agg [.v (.int .i64 a0_0), .v (.int .i64 a0_1)], .agg [.v (.int .i64 x1_0), .v (.int .i64 x1_1)], .sl 23 l2 false] []
 | .p63 l2 B0_0 B0_1 B1_0 B1_1 B2_0 B2_1 => mkSt 209 [2, 3, 4, 7] [.sl 23 l2 false, .bp 0 0, .bp 1 0, .bp 2 0] [.var 23 [.v (.int .i64 B0_0), .v (.int .i64 B0_1)], .var 57 [.v (.int .i64 B1_0), .v (.int .i64 B1_1)], .var 23 [.v (.int .i64 B2_0), .v (.int .i64 B2_1)]]
 | .p1023 l2 g11 h13 B0_0 B0_1 B1_0 B1_1 B2_0 B2_1 B3_0 B3_1 B4_0 B4_1 => mkSt 209 [2, 3, 4, 7, 10, 11, 12, 13] [.sl 23 l2 false, .bp 0 0, .bp 1 0, .bp 2 0, .bp 3 0, .v (.int .i64 g11), .bp 4 0, .v (.int .i64 h13)] [.var 23 [.v (.int .i64 B0_0), .v (.int .i64 B0_1)], .var 57 [.v (.int .i64 B1_0), .v (.int .i64 B1_1)], .var 23 [.v (.int .i64 B2_0), .v (.int .i64 B2_1)], .var 23 [.v (.int .i64 B3_0), .v (.int .i64 B3_1)], .var 23 [.v (.int .i64 B4_0), .v (.int .i64 B4_1)]]
 | .p2047 l2 h13 B0_0 B0_1 B1_0 B1_1 B2_0 B2_1 => mkSt 209 [2, 3, 4, 12, 13] [.sl 23 l2 false, .bp 0 0, .bp 1 0, .bp 2 0, .v (.int .i64 h13)] [.var 23 [.v (.int .i64 B0_0), .v (.int .i64 B0_1)], .var 57 [.v (.int .i64 B1_0), .v (.int .i64 B1_1)], .var 23 [.v (.int .i64 B2_0), .v (.int .i64 B2_1)]]
 | .p4095 B0_0 B0_1 B1_0 B1_1 => mkSt 209 [3, 4] [.bp 0 0, .bp 1 0] [.var 23 [.v (.int .i64 B0_0), .v (.int .i64 B0_1)], .var 57 [.v (.int .i64 B1_0), .v (.int .i64 B1_1)]]
 | .p8191 B0_0 B0_1 B1_0 B1_1 => mkSt 209 [3, 4] [.bp 0 0, .bp 1 0] [.var 23 [.v (.int .i64 B0_0), .v (.int .i64 B0_1)], .var 57 [.v (.int .i64 B1_0), .v (.int .i64 B1_1)]]
abbrev R_ratchetlaw01_BitsFields : Type := ((Bool × Unit) × Unit)
noncomputable def res_ratchetlaw01_BitsFields : Res E (Bool × Unit) Unit := { rows := [], flat := [], keep := 0, rl := (RdL.cons Rd.bool RdL.nil), rb := RdBL.nil }
noncomputable def run_ratchetlaw01_BitsFields : P_ratchetlaw01_BitsFields → Option R_ratchetlaw01_BitsFields
 | .start a0_0 a0_1 x1_0 x1_1 l2 =>
   (some () : Option Unit) >>= fun t1 =>
   if (!true) = true then
     some ((false, ()), ())
   else
     if (decide ((List.length l2 : Int) > (18 : Int))) = true then
       some ((true, ()), ())
     else
       if (decide ((List.length l2 : Int) > (0 : Int))) = true then
         (idx l2 (0 : Int)) >>= fun t2 =>
         run_ratchetlaw01_BitsFields (.p63 l2 a0_0 a0_1 x1_0 x1_1 t2.Width t2.Value)
       else
         run_ratchetlaw01_BitsFields (.p63 l2 a0_0 a0_1 x1_0 x1_1 (0 : Int) (0 : Int))
 | .p63 l2 B0_0 B0_1 B1_0 B1_1 B2_0 B2_1 =>
   (run_bits_FieldOf (.start B0_0 B0_1 B1_0 B1_1)) >>= fun t1 =>
   (run_bits_WithField (.start B0_0 B0_1 B1_0 B2_0 B2_1)) >>= fun t2 =>
   (run_ratchetref01_Copy (.start l2)) >>= fun t3 =>
   (run_bits_Joined (.start t3.2.1)) >>= fun t4 =>
   (run_ratchetref01_FieldErr (.start B0_0 B0_1 B1_0 B1_1)) >>= fun t5 =>
   if (t5.1.1 != (0 : Int)) = true then
     if (t1.1.2.1 != t5.1.1) = true then
       some ((false, ()), ())
     else
       if (!((t1.1.1.1 == (0 : Int)) && ((t1.1.1.2.1 == (0 : Int)) && true))) = true then
         some ((false, ()), ())
       else
         if (t5.1.1 == (0 : Int)) = true then
           if (t1.1.2.1 != (0 : Int)) = true then
             some ((false, ()), ())
           else
             (run_ratchetref01_Field (.start B0_0 B0_1 B1_0 B1_1)) >>= fun t6 =>
             if (!((t1.1.1.1 == t6.1.1.1) && ((t1.1.1.2.1 == t6.1.1.2.1) && true))) = true then
               some ((false, ()), ())
             else
               run_ratchetlaw01_BitsFields (.p1023 l2 t2.1.2.1 t4.1.2.1 B0_0 B0_1 B1_0 B1_1 B2_0 B2_1 t2.1.1.1 t2.1.1.2.1 t4.1.1.1 t4.1.1.2.1)
         else
           run_ratchetlaw01_BitsFields (.p1023 l2 t2.1.2.1 t4.1.2.1 B0_0 B0_1 B1_0 B1_1 B2_0 B2_1 t2.1.1.1 t2.1.1.2.1 t4.1.1.1 t4.1.1.2.1)
   else
     if (t5.1.1 == (0 : Int)) = true then
       if (t1.1.2.1 != (0 : Int)) = true then
         some ((false, ()), ())
       else
         (run_ratchetref01_Field (.start B0_0 B0_1 B1_0 B1_1)) >>= fun t7 =>
         if (!((t1.1.1.1 == t7.1.1.1) && ((t1.1.1.2.1 == t7.1.1.2.1) && true))) = true then
           some ((false, ()), ())
         else
           run_ratchetlaw01_BitsFields (.p1023 l2 t2.1.2.1 t4.1.2.1 B0_0 B0_1 B1_0 B1_1 B2_0 B2_1 t2.1.1.1 t2.1.1.2.1 t4.1.1.1 t4.1.1.2.1)
     else
       run_ratchetlaw01_BitsFields (.p1023 l2 t2.1.2.1 t4.1.2.1 B0_0 B0_1 B1_0 B1_1 B2_0 B2_1 t2.1.1.1 t2.1.1.2.1 t4.1.1.1 t4.1.1.2.1)
 | .p1023 l2 g11 h13 B0_0 B0_1 B1_0 B1_1 B2_0 B2_1 B3_0 B3_1 B4_0 B4_1 =>
   (run_ratchetref01_SetErr (.start B0_0 B0_1 B1_0 B2_0 B2_1)) >>= fun t1 =>
   if (t1.1.1 != (0 : Int)) = true then
     if (g11 != t1.1.1) = true then
       some ((false, ()), ())
     else
       if (!((B3_0 == (0 : Int)) && ((B3_1 == (0 : Int)) && true))) = true then
         some ((false, ()), ())
       else
         if (t1.1.1 == (0 : Int)) = true then
           if (g11 != (0 : Int)) = true then
             some ((false, ()), ())
           else
             (run_ratchetref01_Set (.start B0_0 B0_1 B1_0 B2_0 B2_1)) >>= fun t2 =>
             if (!((B3_0 == t2.1.1.1) && ((B3_1 == t2.1.1.2.1) && true))) = true then
               some ((false, ()), ())
             else
               run_ratchetlaw01_BitsFields (.p2047 l2 h13 B0_0 B0_1 B1_0 B1_1 B4_0 B4_1)
         else
           run_ratchetlaw01_BitsFields (.p2047 l2 h13 B0_0 B0_1 B1_0 B1_1 B4_0 B4_1)
   else
     if (t1.1.1 == (0 : Int)) = true then
       if (g11 != (0 : Int)) = true then
         some ((false, ()), ())
       else
         (run_ratchetref01_Set (.start B0_0 B0_1 B1_0 B2_0 B2_1)) >>= fun t3 =>
         if (!((B3_0 == t3.1.1.1) && ((B3_1 == t3.1.1.2.1) && true))) = true then
           some ((false, ()), ())
         else
           run_ratchetlaw01_BitsFields (.p2047 l2 h13 B0_0 B0_1 B1_0 B1_1 B4_0 B4_1)
     else
       run_ratchetlaw01_BitsFields (.p2047 l2 h13 B0_0 B0_1 B1_0 B1_1 B4_0 B4_1)
 | .p2047 l2 h13 B0_0 B0_1 B1_0 B1_1 B2_0 B2_1 =>
   (run_ratchetref01_JoinErr (.start l2)) >>= fun t1 =>
   if (t1.1.1 != (0 : Int)) = true then
     if (h13 != t1.1.1) = true then
       some ((false, ()), ())
     else
       if (!((B2_0 == (0 : Int)) && ((B2_1 == (0 : Int)) && true))) = true then
         some ((false, ()), ())
       else
         if (t1.1.1 == (0 : Int)) = true then
           if (h13 != (0 : Int)) = true then
             some ((false, ()), ())
           else
             (run_ratchetref01_Join (.start l2)) >>= fun t2 =>
             if (!((B2_0 == t2.1.1.1) && ((B2_1 == t2.1.1.2.1) && true))) = true then
               some ((false, ()), ())
             else
               run_ratchetlaw01_BitsFields (.p4095 B0_0 B0_1 B1_0 B1_1)
         else
           run_ratchetlaw01_BitsFields (.p4095 B0_0 B0_1 B1_0 B1_1)
   else
     if (t1.1.1 == (0 : Int)) = true then
       if (h13 != (0 : Int)) = true then
         some ((false, ()), ())
       else
         (run_ratchetref01_Join (.start l2)) >>= fun t3 =>
         if (!((B2_0 == t3.1.1.1) && ((B2_1 == t3.1.1.2.1) && true))) = true then
           some ((false, ()), ())
         else
           run_ratchetlaw01_BitsFields (.p4095 B0_0 B0_1 B1_0 B1_1)
     else
       run_ratchetlaw01_BitsFields (.p4095 B0_0 B0_1 B1_0 B1_1)
 | .p4095 B0_0 B0_1 B1_0 B1_1 =>
   (run_ratchetref01_BitsErr (.start B0_0 B0_1)) >>= fun t1 =>
   if (t1.1.1 != (0 : Int)) = true then
     some ((true, ()), ())
   else
     (run_ratchetbase_Within (.start B1_0 (1 : Int) (IntKind.wrap .i64 (B0_0 - (1 : Int))))) >>= fun t2 =>
     if (!t2.1.1) = true then
       some ((true, ()), ())
     else
       run_ratchetlaw01_BitsFields (.p8191 B0_0 B0_1 B1_0 B1_1)
 | .p8191 B0_0 B0_1 B1_0 B1_1 =>
   (run_bits_FieldOf (.start B0_0 B0_1 (0 : Int) B1_0)) >>= fun t1 =>
   (run_bits_FieldOf (.start B0_0 B0_1 B1_0 (IntKind.wrap .i64 (B0_0 - B1_0)))) >>= fun t2 =>
   (run_bits_Joined (.start ([(⟨t2.1.1.1, t2.1.1.2.1⟩ : api_Bits), (⟨t1.1.1.1, t1.1.1.2.1⟩ : api_Bits)] : List api_Bits))) >>= fun t3 =>
   if (t1.1.2.1 == (0 : Int)) = true then
     if (t2.1.2.1 == (0 : Int)) = true then
       if (t3.1.2.1 == (0 : Int)) = true then
         some ((((t3.1.1.1 == B0_0) && ((t3.1.1.2.1 == B0_1) && true)), ()), ())
       else
         some ((false, ()), ())
     else
       some ((false, ()), ())
   else
     some ((false, ()), ())
  partial_fixpoint
noncomputable def tab_ratchetlaw01_BitsFields : List (Plc E P_ratchetlaw01_BitsFields) := [⟨63, [true, true, true, true, true], { slots := [2, 3, 4, 7], rows := [], flat := [], keep := 0 }, ((List api_Bits) × (Unit × (Unit × (Unit × Unit)))), ((Int × (Int × Unit)) × ((Int × (Int × Unit)) × ((Int × (Int × Unit)) × Unit))), (RdL.cons (Rd.sl 23 false) (RdL.cons (Rd.bp 0 0) (RdL.cons (Rd.bp 1 0) (RdL.cons (Rd.bp 2 0) RdL.nil)))), (RdBL.cons (RdB.var 23 (RdL.cons (Rd.int .i64) (RdL.cons (Rd.int .i64) RdL.nil))) (RdBL.cons (RdB.var 57 (RdL.cons (Rd.int .i64) (RdL.cons (Rd.int .i64) RdL.nil))) (RdBL.cons (RdB.var 23 (RdL.cons (Rd.int .i64) (RdL.cons (Rd.int .i64) RdL.nil))) RdBL.nil))), fun a b => .p63 a.1 b.1.1 b.1.2.1 b.2.1.1 b.2.1.2.1 b.2.2.1.1 b.2.2.1.2.1⟩,
  ⟨1023, [true, true, true, true, true, true, true, true, true], { slots := [2, 3, 4, 7, 10, 11, 12, 13], rows := [], flat := [], keep := 0 }, ((List api_Bits) × (Unit × (Unit × (Unit × (Unit × (Int × (Unit × (Int × Unit)))))))), ((Int × (Int × Unit)) × ((Int × (Int × Unit)) × ((Int × (Int × Unit)) × ((Int × (Int × Unit)) × ((Int × (Int × Unit)) × Unit))))), (RdL.cons (Rd.sl 23 false) (RdL.cons (Rd.bp 0 0) (RdL.cons (Rd.bp 1 0) (RdL.cons (Rd.bp 2 0) (RdL.cons (Rd.bp 3 0) (RdL.cons (Rd.int .i64) (RdL.cons (Rd.bp 4 0) (RdL.cons (Rd.int .i64) RdL.nil)))))))), (RdBL.cons (RdB.var 23 (RdL.cons (Rd.int .i64) (RdL.cons (Rd.int .i64) RdL.nil))) (RdBL.cons (RdB.var 57 (RdL.cons (Rd.int .i64) (RdL.cons (Rd.int .i64) RdL.nil))) (RdBL.cons (RdB.var 23 (RdL.cons (Rd.int .i64) (RdL.cons (Rd.int .i64) RdL.nil))) (RdBL.cons (RdB.var 23 (RdL.cons (Rd.int .i64) (RdL.cons (Rd.int .i64) RdL.nil))) (RdBL.cons (RdB.var 23 (RdL.cons (Rd.int .i64) (RdL.cons (Rd.int .i64) RdL.nil))) RdBL.nil))))), fun a b => .p1023 a.1 a.2.2.2.2.2.1 a.2.2.2.2.2.2.2.1 b.1.1 b.1.2.1 b.2.1.1 b.2.1.2.1 b.2.2.1.1 b.2.2.1.2.1 b.2.2.2.1.1 b.2.2.2.1.2.1 b.2.2.2.2.1.1 b.2.2.2.2.1.2.1⟩,
  ⟨2047, [true, true, true, true, true, true, true, true, true, true], { slots := [2, 3, 4, 12, 13], rows := [], flat := [], keep := 0 }, ((List api_Bits) × (Unit × (Unit × (Unit × (Int × Unit))))), ((Int × (Int × Unit)) × ((Int × (Int × Unit)) × ((Int × (Int × Unit)) × Unit))), (RdL.cons (Rd.sl 23 false) (RdL.cons (Rd.bp 0 0) (RdL.cons (Rd.bp 1 0) (RdL.cons (Rd.bp 2 0) (RdL.cons (Rd.int .i64) RdL.nil))))), (RdBL.cons (RdB.var 23 (RdL.cons (Rd.int .i64) (RdL.cons (Rd.int .i64) RdL.nil))) (RdBL.cons (RdB.var 57 (RdL.cons (Rd.int .i64) (RdL.cons (Rd.int .i64) RdL.nil))) (RdBL.cons (RdB.var 23 (RdL.cons (Rd.int .i64) (RdL.cons (Rd.int .i64) RdL.nil))) RdBL.nil))), fun a b => .p2047 a.1 a.2.2.2.2.1 b.1.1 b.1.2.1 b.2.1.1 b.2.1.2.1 b.2.2.1.1 b.2.2.1.2.1⟩,
  ⟨4095, [true, true, true, true, true, true, true, true, true, true, true], { slots := [3, 4], rows := [], flat := [], keep := 0 }, (Unit × (Unit × Unit)), ((Int × (Int × Unit)) × ((Int × (Int × Unit)) × Unit)), (RdL.cons (Rd.bp 0 0) (RdL.cons (Rd.bp 1 0) RdL.nil)), (RdBL.cons (RdB.var 23 (RdL.cons (Rd.int .i64) (RdL.cons (Rd.int .i64) RdL.nil))) (RdBL.cons (RdB.var 57 (RdL.cons (Rd.int .i64) (RdL.cons (Rd.int .i64) RdL.nil))) RdBL.nil)), fun a b => .p4095 b.1.1 b.1.2.1 b.2.1.1 b.2.1.2.1⟩,
  ⟨8191, [true, true, true, true, true, true, true, true, true, true, true, true], { slots := [3, 4], rows := [], flat := [], keep := 0 }, (Unit × (Unit × Unit)), ((Int × (Int × Unit)) × ((Int × (Int × Unit)) × Unit)), (RdL.cons (Rd.bp 0 0) (RdL.cons (Rd.bp 1 0) RdL.nil)), (RdBL.cons (RdB.var 23 (RdL.cons (Rd.int .i64) (RdL.cons (Rd.int .i64) RdL.nil))) (RdBL.cons (RdB.var 57 (RdL.cons (Rd.int .i64) (RdL.cons (Rd.int .i64) RdL.nil))) RdBL.nil)), fun a b => .p8191 b.1.1 b.1.2.1 b.2.1.1 b.2.1.2.1⟩]
theorem tab_ratchetlaw01_BitsFields_ok : All (PlcOk 209 0 place_ratchetlaw01_BitsFields st_ratchetlaw01_BitsFields) tab_ratchetlaw01_BitsFields := ⟨⟨rfl, rfl, fun _ _ => rfl, fun _ _ => rfl⟩, ⟨⟨rfl, rfl, fun _ _ => rfl, fun _ _ => rfl⟩, ⟨⟨rfl, rfl, fun _ _ => rfl, fun _ _ => rfl⟩, ⟨⟨rfl, rfl, fun _ _ => rfl, fun _ _ => rfl⟩, ⟨⟨rfl, rfl, fun _ _ => rfl, fun _ _ => rfl⟩, trivial⟩⟩⟩⟩⟩
noncomputable def spec_ratchetlaw01_BitsFields : Spec E.S := (Con.add con_ratchetbase_Within (Con.add con_ratchetref01_BitsErr (Con.add con_ratchetref01_Join (Con.add con_ratchetref01_JoinErr (Con.add con_ratchetref01_Set (Con.add con_ratchetref01_SetErr (Con.add con_ratchetref01_Field (Con.add con_ratchetref01_FieldErr (Con.add con_bits_Joined (Con.add con_ratchetref01_Copy (Con.add con_bits_WithField (Con.add con_bits_FieldOf (Con.add con_ratchetlaw01_awake noSpec)))))))))))))
theorem spec_ratchetlaw01_BitsFields_ok : SpecOk E spec_ratchetlaw01_BitsFields := (Con.add_ok con_ratchetbase_Within_ok (Con.add_ok con_ratchetref01_BitsErr_ok (Con.add_ok con_ratchetref01_Join_ok (Con.add_ok con_ratchetref01_JoinErr_ok (Con.add_ok con_ratchetref01_Set_ok (Con.add_ok con_ratchetref01_SetErr_ok (Con.add_ok con_ratchetref01_Field_ok (Con.add_ok con_ratchetref01_FieldErr_ok (Con.add_ok con_bits_Joined_ok (Con.add_ok con_ratchetref01_Copy_ok (Con.add_ok con_bits_WithField_ok (Con.add_ok con_bits_FieldOf_ok (Con.add_ok con_ratchetlaw01_awake_ok noSpec_ok)))))))))))))
noncomputable def code_ratchetlaw01_BitsFields : Code := Tryd.f9.body.getD .skip
theorem good_ratchetlaw01_BitsFields : ∀ pt r, run_ratchetlaw01_BitsFields pt = some r → Good E Tryd.f9 code_ratchetlaw01_BitsFields 0 (res_ratchetlaw01_BitsFields.av r) (res_ratchetlaw01_BitsFields.bx r) (place_ratchetlaw01_BitsFields pt) (st_ratchetlaw01_BitsFields pt) := by
  refine run_ratchetlaw01_BitsFields.partial_correctness (fun pt r => Good E Tryd.f9 code_ratchetlaw01_BitsFields 0 (res_ratchetlaw01_BitsFields.av r) (res_ratchetlaw01_BitsFields.bx r) (place_ratchetlaw01_BitsFields pt) (st_ratchetlaw01_BitsFields pt)) ?_
  intro run' ih pt r hr
  cases pt <;> exact fn_step (spec := spec_ratchetlaw01_BitsFields) (wr := (fun i => mem i [])) (l := tab_ratchetlaw01_BitsFields) (z := 209) (p := res_ratchetlaw01_BitsFields) E_ok tab_ratchetlaw01_BitsFields_ok.mem rfl spec_ratchetlaw01_BitsFields_ok ih (Eq.trans (by kernel_rfl) hr)
noncomputable def con_ratchetlaw01_BitsFields : Con E := ⟨9, ((Int × (Int × Unit)) × ((Int × (Int × Unit)) × ((List api_Bits) × Unit))), Unit, (RwL.cons (Rw.agg (RwL.cons (Rd.int .i64).w (RwL.cons (Rd.int .i64).w RwL.nil))) (RwL.cons (Rw.agg (RwL.cons (Rd.int .i64).w (RwL.cons (Rd.int .i64).w RwL.nil))) (RwL.cons (Rw.sl 23) RwL.nil))), RdBL.nil, 0, R_ratchetlaw01_BitsFields, fun a b => run_ratchetlaw01_BitsFields (.start a.1.1 a.1.2.1 a.2.1.1 a.2.1.2.1 a.2.2.1), res_ratchetlaw01_BitsFields.av, res_ratchetlaw01_BitsFields.bx⟩
theorem con_ratchetlaw01_BitsFields_ok : con_ratchetlaw01_BitsFields.Ok := fun a b r h => fn_ok (fn := Tryd.f9) (code := code_ratchetlaw01_BitsFields) E_ok (by kernel_rfl) (by kernel_rfl) (by kernel_rfl) (Nat.le_of_ble_eq_true rfl) (good_ratchetlaw01_BitsFields (.start a.1.1 a.1.2.1 a.2.1.1 a.2.1.2.1 a.2.2.1) r h)

/-! ### ratchet/ratchetlaw01.BitsBack -/
inductive P_ratchetlaw01_BitsBack where
 | start (a0_0 : Int) (a0_1 : Int) (b1_0 : Int) (b1_1 : Int) (carry2 : Int)
 | p511 (B0_0 : Int) (B0_1 : Int) (B1_0 : Int) (B1_1 : Int)
noncomputable def place_ratchetlaw01_BitsBack : P_ratchetlaw01_BitsBack → List Bool
 | .start .. => []
 | .p511 .. => [true, true, true, true, true, true, true, true]
noncomputable def st_ratchetlaw01_BitsBack : P_ratchetlaw01_BitsBack → St E.S
 | .start a0_0 a0_1 b1_0 b1_1 carry2 => st0 174 [.agg [.v (.int .i64 a0_0), .v (.int .i64 a0_1)], .agg [.v (.int .i64 b1_0), .v (.int .i64 b1_1)], .v (.int .i64 carry2)] []
 | .p511 B0_0 B0_1 B1_0 B1_1 => mkSt 174 [3, 4] [.bp 0 0, .bp 1 0] [.var 23 [.v (.int .i64 B0_0), .v (.int .i64 B0_1)], .var 23 [.v (.int .i64 B1_0), .v (.int .i64 B1_1)]]
abbrev R_ratchetlaw01_BitsBack : Type := ((Bool × Unit) × Unit)
noncomputable def res_ratchetlaw01_BitsBack : Res E (Bool × Unit) Unit := { rows := [], flat := [], keep := 0, rl := (RdL.cons Rd.bool RdL.nil), rb := RdBL.nil }
noncomputable def run_ratchetlaw01_BitsBack : P_ratchetlaw01_BitsBack → Option R_ratchetlaw01_BitsBack
 | .start a0_0 a0_1 b1_0 b1_1 carry2 =>
   (some () : Option Unit) >>= fun t1 =>
   if (!true) = true then
     some ((false, ()), ())
   else
     (run_ratchetref01_CarryErr (.start a0_0 a0_1 b1_0 b1_1 carry2)) >>= fun t2 =>
     if (t2.1.1 != (0 : Int)) = true then
       some ((true, ()), ())
     else
       (run_bits_AddWith (.start a0_0 a0_1 b1_0 b1_1 carry2)) >>= fun t3 =>
       (run_bits_SubWith (.start t3.1.1.1 t3.1.1.2.1 b1_0 b1_1 carry2)) >>= fun t4 =>
       (run_bits_SubWith (.start a0_0 a0_1 b1_0 b1_1 carry2)) >>= fun t5 =>
       (run_ratchetbase_Power (.start b1_0)) >>= fun t6 =>
       (run_ratchetlaw01_of (.start b1_0 (IntKind.wrap .i64 ((IntKind.wrap .i64 (t6.1.1 - (1 : Int))) - b1_1)))) >>= fun t7 =>
       (run_bits_AddWith (.start a0_0 a0_1 t7.1.1.1 t7.1.1.2.1 (IntKind.wrap .i64 ((1 : Int) - carry2)))) >>= fun t8 =>
       if (t3.1.2.1 != (0 : Int)) = true then
         some ((false, ()), ())
       else
         if (t4.1.2.1 != (0 : Int)) = true then
           some ((false, ()), ())
         else
           if (!((t4.1.1.1 == a0_0) && ((t4.1.1.2.1 == a0_1) && true))) = true then
             some ((false, ()), ())
           else
             if (t5.1.2.1 != (0 : Int)) = true then
               some ((false, ()), ())
             else
               if (t8.1.2.1 != (0 : Int)) = true then
                 some ((false, ()), ())
               else
                 if (!((t5.1.1.1 == t8.1.1.1) && ((t5.1.1.2.1 == t8.1.1.2.1) && true))) = true then
                   some ((false, ()), ())
                 else
                   if (t5.1.1.2.2.1 != (IntKind.wrap .i64 ((1 : Int) - t8.1.1.2.2.1))) = true then
                     some ((false, ()), ())
                   else
                     if (t5.1.1.2.2.2.1 != t8.1.1.2.2.2.1) = true then
                       some ((false, ()), ())
                     else
                       if (t5.1.1.2.2.2.2.1 != t8.1.1.2.2.2.2.1) = true then
                         some ((false, ()), ())
                       else
                         if (t5.1.1.2.2.2.2.2.1 != t8.1.1.2.2.2.2.2.1) = true then
                           some ((false, ()), ())
                         else
                           run_ratchetlaw01_BitsBack (.p511 a0_0 a0_1 b1_0 b1_1)
 | .p511 B0_0 B0_1 B1_0 B1_1 =>
   (run_bits_DivMod (.start B0_0 B0_1 B1_0 B1_1)) >>= fun t1 =>
   if (B1_1 == (0 : Int)) = true then
     if (t1.1.2.2.1 == (11 : Int)) = true then
       if ((t1.1.1.1 == (0 : Int)) && ((t1.1.1.2.1 == (0 : Int)) && true)) = true then
         some ((((t1.1.2.1.1 == (0 : Int)) && ((t1.1.2.1.2.1 == (0 : Int)) && true)), ()), ())
       else
         some ((false, ()), ())
     else
       some ((false, ()), ())
   else
     if (t1.1.2.2.1 == (0 : Int)) = true then
       (run_ratchetref01_BitsErr (.start t1.1.1.1 t1.1.1.2.1)) >>= fun t2 =>
       if (t2.1.1 == (0 : Int)) = true then
         (run_ratchetref01_BitsErr (.start t1.1.2.1.1 t1.1.2.1.2.1)) >>= fun t3 =>
         if (t3.1.1 == (0 : Int)) = true then
           if ((IntKind.wrap .i64 ((IntKind.wrap .i64 (t1.1.1.2.1 * B1_1)) + t1.1.2.1.2.1)) == B0_1) = true then
             some ((decide (t1.1.2.1.2.1 < B1_1), ()), ())
           else
             some ((false, ()), ())
         else
           some ((false, ()), ())
       else
         some ((false, ()), ())
     else
       some ((false, ()), ())
  partial_fixpoint
noncomputable def tab_ratchetlaw01_BitsBack : List (Plc E P_ratchetlaw01_BitsBack) := [⟨511, [true, true, true, true, true, true, true, true], { slots := [3, 4], rows := [], flat := [], keep := 0 }, (Unit × (Unit × Unit)), ((Int × (Int × Unit)) × ((Int × (Int × Unit)) × Unit)), (RdL.cons (Rd.bp 0 0) (RdL.cons (Rd.bp 1 0) RdL.nil)), (RdBL.cons (RdB.var 23 (RdL.cons (Rd.int .i64) (RdL.cons (Rd.int .i64) RdL.nil))) (RdBL.cons (RdB.var 23 (RdL.cons (Rd.int .i64) (RdL.cons (Rd.int .i64) RdL.nil))) RdBL.nil)), fun a b => .p511 b.1.1 b.1.2.1 b.2.1.1 b.2.1.2.1⟩]
theorem tab_ratchetlaw01_BitsBack_ok : All (PlcOk 174 0 place_ratchetlaw01_BitsBack st_ratchetlaw01_BitsBack) tab_ratchetlaw01_BitsBack := ⟨⟨rfl, rfl, fun _ _ => rfl, fun _ _ => rfl⟩, trivial⟩
noncomputable def spec_ratchetlaw01_BitsBack : Spec E.S := (Con.add con_ratchetref01_BitsErr (Con.add con_bits_DivMod (Con.add con_ratchetlaw01_of (Con.add con_ratchetbase_Power (Con.add con_bits_SubWith (Con.add con_bits_AddWith (Con.add con_ratchetref01_CarryErr (Con.add con_ratchetlaw01_awake noSpec))))))))
theorem spec_ratchetlaw01_BitsBack_ok : SpecOk E spec_ratchetlaw01_BitsBack := (Con.add_ok con_ratchetref01_BitsErr_ok (Con.add_ok con_bits_DivMod_ok (Con.add_ok con_ratchetlaw01_of_ok (Con.add_ok con_ratchetbase_Power_ok (Con.add_ok con_bits_SubWith_ok (Con.add_ok con_bits_AddWith_ok (Con.add_ok con_ratchetref01_CarryErr_ok (Con.add_ok con_ratchetlaw01_awake_ok noSpec_ok))))))))
noncomputable def code_ratchetlaw01_BitsBack : Code := Tryd.f7.body.getD .skip
theorem good_ratchetlaw01_BitsBack : ∀ pt r, run_ratchetlaw01_BitsBack pt = some r → Good E Tryd.f7 code_ratchetlaw01_BitsBack 0 (res_ratchetlaw01_BitsBack.av r) (res_ratchetlaw01_BitsBack.bx r) (place_ratchetlaw01_BitsBack pt) (st_ratchetlaw01_BitsBack pt) := by
  refine run_ratchetlaw01_BitsBack.partial_correctness (fun pt r => Good E Tryd.f7 code_ratchetlaw01_BitsBack 0 (res_ratchetlaw01_BitsBack.av r) (res_ratchetlaw01_BitsBack.bx r) (place_ratchetlaw01_BitsBack pt) (st_ratchetlaw01_BitsBack pt)) ?_
  intro run' ih pt r hr
  cases pt <;> exact fn_step (spec := spec_ratchetlaw01_BitsBack) (wr := (fun i => mem i [])) (l := tab_ratchetlaw01_BitsBack) (z := 174) (p := res_ratchetlaw01_BitsBack) E_ok tab_ratchetlaw01_BitsBack_ok.mem rfl spec_ratchetlaw01_BitsBack_ok ih (Eq.trans (by kernel_rfl) hr)
noncomputable def con_ratchetlaw01_BitsBack : Con E := ⟨7, ((Int × (Int × Unit)) × ((Int × (Int × Unit)) × (Int × Unit))), Unit, (RwL.cons (Rw.agg (RwL.cons (Rd.int .i64).w (RwL.cons (Rd.int .i64).w RwL.nil))) (RwL.cons (Rw.agg (RwL.cons (Rd.int .i64).w (RwL.cons (Rd.int .i64).w RwL.nil))) (RwL.cons (Rd.int .i64).w RwL.nil))), RdBL.nil, 0, R_ratchetlaw01_BitsBack, fun a b => run_ratchetlaw01_BitsBack (.start a.1.1 a.1.2.1 a.2.1.1 a.2.1.2.1 a.2.2.1), res_ratchetlaw01_BitsBack.av, res_ratchetlaw01_BitsBack.bx⟩
theorem con_ratchetlaw01_BitsBack_ok : con_ratchetlaw01_BitsBack.Ok := fun a b r h => fn_ok (fn := Tryd.f7) (code := code_ratchetlaw01_BitsBack) E_ok (by kernel_rfl) (by kernel_rfl) (by kernel_rfl) (Nat.le_of_ble_eq_true rfl) (good_ratchetlaw01_BitsBack (.start a.1.1 a.1.2.1 a.2.1.1 a.2.1.2.1 a.2.2.1) r h)

/-! ### ratchet/bits.GrayOf -/
inductive P_bits_GrayOf where
 | start (a0_0 : Int) (a0_1 : Int)
noncomputable def place_bits_GrayOf : P_bits_GrayOf → List Bool
 | .start .. => []
noncomputable def st_bits_GrayOf : P_bits_GrayOf → St E.S
 | .start a0_0 a0_1 => st0 21 [.agg [.v (.int .i64 a0_0), .v (.int .i64 a0_1)]] []
abbrev R_bits_GrayOf : Type := (((Int × (Int × Unit)) × (Int × Unit)) × Unit)
noncomputable def res_bits_GrayOf : Res E ((Int × (Int × Unit)) × (Int × Unit)) Unit := { rows := [], flat := [], keep := 0, rl := (RdL.cons (Rd.agg (RdL.cons (Rd.int .i64) (RdL.cons (Rd.int .i64) RdL.nil))) (RdL.cons (Rd.int .i64) RdL.nil)), rb := RdBL.nil }
noncomputable def run_bits_GrayOf : P_bits_GrayOf → Option R_bits_GrayOf
 | .start a0_0 a0_1 =>
   (run_bits_CheckBits (.start a0_0 a0_1)) >>= fun t1 =>
   if (t1.1.1 != (0 : Int)) = true then
     some ((((0 : Int), ((0 : Int), ())), (t1.1.1, ())), ())
   else
     if (decide ((0 : Int) ≤ (1 : Int))) = true then
       (run_bits_of (.start (bits .xor .i64 a0_1 (shr .i64 a0_1 (1 : Int))) a0_0)) >>= fun t2 =>
       some (((t2.1.1.1, (t2.1.1.2.1, ())), ((0 : Int), ())), ())
     else none
noncomputable def tab_bits_GrayOf : List (Plc E P_bits_GrayOf) := []
theorem tab_bits_GrayOf_ok : All (PlcOk 21 0 place_bits_GrayOf st_bits_GrayOf) tab_bits_GrayOf := trivial
noncomputable def spec_bits_GrayOf : Spec E.S := (Con.add con_bits_of (Con.add con_bits_CheckBits noSpec))
theorem spec_bits_GrayOf_ok : SpecOk E spec_bits_GrayOf := (Con.add_ok con_bits_of_ok (Con.add_ok con_bits_CheckBits_ok noSpec_ok))
noncomputable def code_bits_GrayOf : Code := Tryd.f33.body.getD .skip
theorem good_bits_GrayOf : ∀ pt r, run_bits_GrayOf pt = some r → Good E Tryd.f33 code_bits_GrayOf 0 (res_bits_GrayOf.av r) (res_bits_GrayOf.bx r) (place_bits_GrayOf pt) (st_bits_GrayOf pt) := by
  intro pt r hr
  cases pt <;> exact fn_step (spec := spec_bits_GrayOf) (wr := (fun i => mem i [])) (l := tab_bits_GrayOf) (z := 21) (p := res_bits_GrayOf) (run' := fun _ => none) E_ok tab_bits_GrayOf_ok.mem rfl spec_bits_GrayOf_ok (fun _ _ h => by cases h) (Eq.trans (by kernel_rfl) hr)
noncomputable def con_bits_GrayOf : Con E := ⟨33, ((Int × (Int × Unit)) × Unit), Unit, (RwL.cons (Rw.agg (RwL.cons (Rd.int .i64).w (RwL.cons (Rd.int .i64).w RwL.nil))) RwL.nil), RdBL.nil, 0, R_bits_GrayOf, fun a b => run_bits_GrayOf (.start a.1.1 a.1.2.1), res_bits_GrayOf.av, res_bits_GrayOf.bx⟩
theorem con_bits_GrayOf_ok : con_bits_GrayOf.Ok := fun a b r h => fn_ok (fn := Tryd.f33) (code := code_bits_GrayOf) E_ok (by kernel_rfl) (by kernel_rfl) (by kernel_rfl) (Nat.le_of_ble_eq_true rfl) (good_bits_GrayOf (.start a.1.1 a.1.2.1) r h)

/-! ### ratchet/bits.FromGray -/
inductive P_bits_FromGray where
 | start (a0_0 : Int) (a0_1 : Int)
 | p244 (out5 : Int) (rest6 : Int) (B0_0 : Int) (B0_1 : Int) (B1_0 : Int) (B1_1 : Int)
noncomputable def place_bits_FromGray : P_bits_FromGray → List Bool
 | .start .. => []
 | .p244 .. => [false, false, true, false, true, true, true]
noncomputable def st_bits_FromGray : P_bits_FromGray → St E.S
 | .start a0_0 a0_1 => st0 27 [.agg [.v (.int .i64 a0_0), .v (.int .i64 a0_1)]] []
 | .p244 out5 rest6 B0_0 B0_1 B1_0 B1_1 => mkSt 27 [1, 2, 5, 6] [.bp 0 0, .bp 1 0, .v (.int .i64 out5), .v (.int .i64 rest6)] [.var 23 [.v (.int .i64 B0_0), .v (.int .i64 B0_1)], .var 23 [.v (.int .i64 B1_0), .v (.int .i64 B1_1)]]
abbrev R_bits_FromGray : Type := (((Int × (Int × Unit)) × (Int × Unit)) × Unit)
noncomputable def res_bits_FromGray : Res E ((Int × (Int × Unit)) × (Int × Unit)) Unit := { rows := [], flat := [], keep := 0, rl := (RdL.cons (Rd.agg (RdL.cons (Rd.int .i64) (RdL.cons (Rd.int .i64) RdL.nil))) (RdL.cons (Rd.int .i64) RdL.nil)), rb := RdBL.nil }
noncomputable def run_bits_FromGray : P_bits_FromGray → Option R_bits_FromGray
 | .start a0_0 a0_1 =>
   (run_bits_CheckBits (.start a0_0 a0_1)) >>= fun t1 =>
   if (t1.1.1 != (0 : Int)) = true then
     some ((((0 : Int), ((0 : Int), ())), (t1.1.1, ())), ())
   else
     run_bits_FromGray (.p244 (0 : Int) a0_1 a0_0 a0_1 (0 : Int) (0 : Int))
 | .p244 out5 rest6 B0_0 B0_1 B1_0 B1_1 =>
   if (decide (rest6 > (0 : Int))) = true then
     if (decide ((0 : Int) ≤ (1 : Int))) = true then
       run_bits_FromGray (.p244 (bits .xor .i64 out5 rest6) (shr .i64 rest6 (1 : Int)) B0_0 B0_1 B1_0 B1_1)
     else none
   else
     (run_bits_of (.start out5 B0_0)) >>= fun t1 =>
     some (((t1.1.1.1, (t1.1.1.2.1, ())), ((0 : Int), ())), ())
  partial_fixpoint
noncomputable def tab_bits_FromGray : List (Plc E P_bits_FromGray) := [⟨244, [false, false, true, false, true, true, true], { slots := [1, 2, 5, 6], rows := [], flat := [], keep := 0 }, (Unit × (Unit × (Int × (Int × Unit)))), ((Int × (Int × Unit)) × ((Int × (Int × Unit)) × Unit)), (RdL.cons (Rd.bp 0 0) (RdL.cons (Rd.bp 1 0) (RdL.cons (Rd.int .i64) (RdL.cons (Rd.int .i64) RdL.nil)))), (RdBL.cons (RdB.var 23 (RdL.cons (Rd.int .i64) (RdL.cons (Rd.int .i64) RdL.nil))) (RdBL.cons (RdB.var 23 (RdL.cons (Rd.int .i64) (RdL.cons (Rd.int .i64) RdL.nil))) RdBL.nil)), fun a b => .p244 a.2.2.1 a.2.2.2.1 b.1.1 b.1.2.1 b.2.1.1 b.2.1.2.1⟩]
theorem tab_bits_FromGray_ok : All (PlcOk 27 0 place_bits_FromGray st_bits_FromGray) tab_bits_FromGray := ⟨⟨rfl, rfl, fun _ _ => rfl, fun _ _ => rfl⟩, trivial⟩
noncomputable def spec_bits_FromGray : Spec E.S := (Con.add con_bits_of (Con.add con_bits_CheckBits noSpec))
theorem spec_bits_FromGray_ok : SpecOk E spec_bits_FromGray := (Con.add_ok con_bits_of_ok (Con.add_ok con_bits_CheckBits_ok noSpec_ok))
noncomputable def code_bits_FromGray : Code := Tryd.f34.body.getD .skip
theorem good_bits_FromGray : ∀ pt r, run_bits_FromGray pt = some r → Good E Tryd.f34 code_bits_FromGray 0 (res_bits_FromGray.av r) (res_bits_FromGray.bx r) (place_bits_FromGray pt) (st_bits_FromGray pt) := by
  refine run_bits_FromGray.partial_correctness (fun pt r => Good E Tryd.f34 code_bits_FromGray 0 (res_bits_FromGray.av r) (res_bits_FromGray.bx r) (place_bits_FromGray pt) (st_bits_FromGray pt)) ?_
  intro run' ih pt r hr
  cases pt <;> exact fn_step (spec := spec_bits_FromGray) (wr := (fun i => mem i [])) (l := tab_bits_FromGray) (z := 27) (p := res_bits_FromGray) E_ok tab_bits_FromGray_ok.mem rfl spec_bits_FromGray_ok ih (Eq.trans (by kernel_rfl) hr)
noncomputable def con_bits_FromGray : Con E := ⟨34, ((Int × (Int × Unit)) × Unit), Unit, (RwL.cons (Rw.agg (RwL.cons (Rd.int .i64).w (RwL.cons (Rd.int .i64).w RwL.nil))) RwL.nil), RdBL.nil, 0, R_bits_FromGray, fun a b => run_bits_FromGray (.start a.1.1 a.1.2.1), res_bits_FromGray.av, res_bits_FromGray.bx⟩
theorem con_bits_FromGray_ok : con_bits_FromGray.Ok := fun a b r h => fn_ok (fn := Tryd.f34) (code := code_bits_FromGray) E_ok (by kernel_rfl) (by kernel_rfl) (by kernel_rfl) (Nat.le_of_ble_eq_true rfl) (good_bits_FromGray (.start a.1.1 a.1.2.1) r h)

/-! ### ratchet/ratchetref01.Gray -/
inductive P_ratchetref01_Gray where
 | start (a0_0 : Int) (a0_1 : Int)
 | p244 (i5 : Int) (B0_0 : Int) (B0_1 : Int) (B1_0 : Int) (B1_1 : Int) (B2 : (List Int)) (B3 : (List Int))
noncomputable def place_ratchetref01_Gray : P_ratchetref01_Gray → List Bool
 | .start .. => []
 | .p244 .. => [false, false, true, false, true, true, true]
noncomputable def st_ratchetref01_Gray : P_ratchetref01_Gray → St E.S
 | .start a0_0 a0_1 => st0 38 [.agg [.v (.int .i64 a0_0), .v (.int .i64 a0_1)]] []
 | .p244 i5 B0_0 B0_1 B1_0 B1_1 B2 B3 => mkSt 38 [1, 2, 3, 4, 5] [.bp 0 0, .bp 1 0, .rw 2, .rw 3, .v (.int .i64 i5)] [.var 23 [.v (.int .i64 B0_0), .v (.int .i64 B0_1)], .var 23 [.v (.int .i64 B1_0), .v (.int .i64 B1_1)], .row 3 B2 true, .row 3 B3 true]
abbrev R_ratchetref01_Gray : Type := (((Int × (Int × Unit)) × Unit) × Unit)
noncomputable def res_ratchetref01_Gray : Res E ((Int × (Int × Unit)) × Unit) Unit := { rows := [], flat := [], keep := 0, rl := (RdL.cons (Rd.agg (RdL.cons (Rd.int .i64) (RdL.cons (Rd.int .i64) RdL.nil))) RdL.nil), rb := RdBL.nil }
noncomputable def run_ratchetref01_Gray : P_ratchetref01_Gray → Option R_ratchetref01_Gray
 | .start a0_0 a0_1 =>
   (run_ratchetref01_low (.start a0_1 a0_0)) >>= fun t1 =>
   if (fits (List.length t1.2.1) (List.length ([(0 : Int)] : List Int)) 8) = true then
     run_ratchetref01_Gray (.p244 (0 : Int) a0_0 a0_1 (0 : Int) (0 : Int) (t1.2.1 ++ ([(0 : Int)] : List Int)) ([]))
   else none
 | .p244 i5 B0_0 B0_1 B1_0 B1_1 B2 B3 =>
   if (decide (i5 < B0_0)) = true then
     if (decide ((0 : Int) ≤ i5) && decide (i5 < (List.length B2 : Int))) = true then
       (idx B2 i5) >>= fun t1 =>
       if (decide ((0 : Int) ≤ (IntKind.wrap .i64 (i5 + (1 : Int)))) && decide ((IntKind.wrap .i64 (i5 + (1 : Int))) < (List.length B2 : Int))) = true then
         (idx B2 (IntKind.wrap .i64 (i5 + (1 : Int)))) >>= fun t2 =>
         (run_ratchetbase_Bit (.start (t1 != t2))) >>= fun t3 =>
         if (fits (List.length B3) (List.length ([t3.1.1] : List Int)) 8) = true then
           run_ratchetref01_Gray (.p244 (IntKind.wrap .i64 (i5 + (1 : Int))) B0_0 B0_1 B1_0 B1_1 B2 (B3 ++ ([t3.1.1] : List Int)))
         else none
       else none
     else none
   else
     (run_ratchetref01_whole (.start B3)) >>= fun t4 =>
     some (((B0_0, (t4.1.1, ())), ()), ())
  partial_fixpoint
noncomputable def tab_ratchetref01_Gray : List (Plc E P_ratchetref01_Gray) := [⟨244, [false, false, true, false, true, true, true], { slots := [1, 2, 3, 4, 5], rows := [(4, 3)], flat := [], keep := 0 }, (Unit × (Unit × (Unit × (Unit × (Int × Unit))))), ((Int × (Int × Unit)) × ((Int × (Int × Unit)) × ((List Int) × ((List Int) × Unit)))), (RdL.cons (Rd.bp 0 0) (RdL.cons (Rd.bp 1 0) (RdL.cons (Rd.rw 2) (RdL.cons (Rd.rw 3) (RdL.cons (Rd.int .i64) RdL.nil))))), (RdBL.cons (RdB.var 23 (RdL.cons (Rd.int .i64) (RdL.cons (Rd.int .i64) RdL.nil))) (RdBL.cons (RdB.var 23 (RdL.cons (Rd.int .i64) (RdL.cons (Rd.int .i64) RdL.nil))) (RdBL.cons (RdB.row 3 true) (RdBL.cons (RdB.row 3 true) RdBL.nil)))), fun a b => .p244 a.2.2.2.2.1 b.1.1 b.1.2.1 b.2.1.1 b.2.1.2.1 b.2.2.1 b.2.2.2.1⟩]
theorem tab_ratchetref01_Gray_ok : All (PlcOk 38 0 place_ratchetref01_Gray st_ratchetref01_Gray) tab_ratchetref01_Gray := ⟨⟨rfl, rfl, fun _ _ => rfl, fun _ _ => rfl⟩, trivial⟩
noncomputable def spec_ratchetref01_Gray : Spec E.S := (Con.add con_ratchetref01_whole (Con.add con_ratchetbase_Bit (Con.add con_ratchetref01_low noSpec)))
theorem spec_ratchetref01_Gray_ok : SpecOk E spec_ratchetref01_Gray := (Con.add_ok con_ratchetref01_whole_ok (Con.add_ok con_ratchetbase_Bit_ok (Con.add_ok con_ratchetref01_low_ok noSpec_ok)))
noncomputable def code_ratchetref01_Gray : Code := Tryd.f35.body.getD .skip
theorem good_ratchetref01_Gray : ∀ pt r, run_ratchetref01_Gray pt = some r → Good E Tryd.f35 code_ratchetref01_Gray 0 (res_ratchetref01_Gray.av r) (res_ratchetref01_Gray.bx r) (place_ratchetref01_Gray pt) (st_ratchetref01_Gray pt) := by
  refine run_ratchetref01_Gray.partial_correctness (fun pt r => Good E Tryd.f35 code_ratchetref01_Gray 0 (res_ratchetref01_Gray.av r) (res_ratchetref01_Gray.bx r) (place_ratchetref01_Gray pt) (st_ratchetref01_Gray pt)) ?_
  intro run' ih pt r hr
  cases pt <;> exact fn_step (spec := spec_ratchetref01_Gray) (wr := (fun i => mem i [])) (l := tab_ratchetref01_Gray) (z := 38) (p := res_ratchetref01_Gray) E_ok tab_ratchetref01_Gray_ok.mem rfl spec_ratchetref01_Gray_ok ih (Eq.trans (by kernel_rfl) hr)
noncomputable def con_ratchetref01_Gray : Con E := ⟨35, ((Int × (Int × Unit)) × Unit), Unit, (RwL.cons (Rw.agg (RwL.cons (Rd.int .i64).w (RwL.cons (Rd.int .i64).w RwL.nil))) RwL.nil), RdBL.nil, 0, R_ratchetref01_Gray, fun a b => run_ratchetref01_Gray (.start a.1.1 a.1.2.1), res_ratchetref01_Gray.av, res_ratchetref01_Gray.bx⟩
theorem con_ratchetref01_Gray_ok : con_ratchetref01_Gray.Ok := fun a b r h => fn_ok (fn := Tryd.f35) (code := code_ratchetref01_Gray) E_ok (by kernel_rfl) (by kernel_rfl) (by kernel_rfl) (Nat.le_of_ble_eq_true rfl) (good_ratchetref01_Gray (.start a.1.1 a.1.2.1) r h)

/-! ### ratchet/ratchetbase.CopyInts -/
inductive P_ratchetbase_CopyInts where
 | start (l0 : (List Int))
noncomputable def place_ratchetbase_CopyInts : P_ratchetbase_CopyInts → List Bool
 | .start .. => []
noncomputable def st_ratchetbase_CopyInts : P_ratchetbase_CopyInts → St E.S
 | .start l0 => st0 6 [.sl 3 l0 false] []
abbrev R_ratchetbase_CopyInts : Type := ((Unit × Unit) × ((List Int) × Unit))
noncomputable def res_ratchetbase_CopyInts : Res E (Unit × Unit) ((List Int) × Unit) := { rows := [], flat := [], keep := 0, rl := (RdL.cons (Rd.rw 0) RdL.nil), rb := (RdBL.cons (RdB.row 3 false) RdBL.nil) }
noncomputable def run_ratchetbase_CopyInts : P_ratchetbase_CopyInts → Option R_ratchetbase_CopyInts
 | .start l0 =>
   if (fits (List.length ([] : List Int)) (List.length l0) 8) = true then
     some (((), ()), (([] : List Int) ++ l0, ()))
   else none
noncomputable def tab_ratchetbase_CopyInts : List (Plc E P_ratchetbase_CopyInts) := []
theorem tab_ratchetbase_CopyInts_ok : All (PlcOk 6 0 place_ratchetbase_CopyInts st_ratchetbase_CopyInts) tab_ratchetbase_CopyInts := trivial
noncomputable def spec_ratchetbase_CopyInts : Spec E.S := noSpec
theorem spec_ratchetbase_CopyInts_ok : SpecOk E spec_ratchetbase_CopyInts := noSpec_ok
noncomputable def code_ratchetbase_CopyInts : Code := Tryd.f54.body.getD .skip
theorem good_ratchetbase_CopyInts : ∀ pt r, run_ratchetbase_CopyInts pt = some r → Good E Tryd.f54 code_ratchetbase_CopyInts 0 (res_ratchetbase_CopyInts.av r) (res_ratchetbase_CopyInts.bx r) (place_ratchetbase_CopyInts pt) (st_ratchetbase_CopyInts pt) := by
  intro pt r hr
  cases pt <;> exact fn_step (spec := spec_ratchetbase_CopyInts) (wr := (fun i => mem i [2, 3, 5])) (l := tab_ratchetbase_CopyInts) (z := 6) (p := res_ratchetbase_CopyInts) (run' := fun _ => none) E_ok tab_ratchetbase_CopyInts_ok.mem rfl spec_ratchetbase_CopyInts_ok (fun _ _ h => by cases h) (Eq.trans (by kernel_rfl) hr)
noncomputable def con_ratchetbase_CopyInts : Con E := ⟨54, ((List Int) × Unit), Unit, (RwL.cons (Rw.sl 3) RwL.nil), RdBL.nil, 0, R_ratchetbase_CopyInts, fun a b => run_ratchetbase_CopyInts (.start a.1), res_ratchetbase_CopyInts.av, res_ratchetbase_CopyInts.bx⟩
theorem con_ratchetbase_CopyInts_ok : con_ratchetbase_CopyInts.Ok := fun a b r h => fn_ok (fn := Tryd.f54) (code := code_ratchetbase_CopyInts) E_ok (by kernel_rfl) (by kernel_rfl) (by kernel_rfl) (Nat.le_of_ble_eq_true rfl) (good_ratchetbase_CopyInts (.start a.1) r h)

/-! ### ratchet/ratchetref01.Ungray -/
inductive P_ratchetref01_Ungray where
 | start (a0_0 : Int) (a0_1 : Int)
 | p244 (i5 : Int) (B0_0 : Int) (B0_1 : Int) (B1_0 : Int) (B1_1 : Int) (B2 : (List Int)) (B3 : (List Int))
noncomputable def place_ratchetref01_Ungray : P_ratchetref01_Ungray → List Bool
 | .start .. => []
 | .p244 .. => [false, false, true, false, true, true, true]
noncomputable def st_ratchetref01_Ungray : P_ratchetref01_Ungray → St E.S
 | .start a0_0 a0_1 => st0 41 [.agg [.v (.int .i64 a0_0), .v (.int .i64 a0_1)]] []
 | .p244 i5 B0_0 B0_1 B1_0 B1_1 B2 B3 => mkSt 41 [1, 2, 3, 4, 5] [.bp 0 0, .bp 1 0, .rw 2, .rw 3, .v (.int .i64 i5)] [.var 23 [.v (.int .i64 B0_0), .v (.int .i64 B0_1)], .var 23 [.v (.int .i64 B1_0), .v (.int .i64 B1_1)], .row 3 B2 true, .row 3 B3 false]
abbrev R_ratchetref01_Ungray : Type := (((Int × (Int × Unit)) × Unit) × Unit)
noncomputable def res_ratchetref01_Ungray : Res E ((Int × (Int × Unit)) × Unit) Unit := { rows := [], flat := [], keep := 0, rl := (RdL.cons (Rd.agg (RdL.cons (Rd.int .i64) (RdL.cons (Rd.int .i64) RdL.nil))) RdL.nil), rb := RdBL.nil }
noncomputable def run_ratchetref01_Ungray : P_ratchetref01_Ungray → Option R_ratchetref01_Ungray
 | .start a0_0 a0_1 =>
   (run_ratchetref01_low (.start a0_1 a0_0)) >>= fun t1 =>
   (run_ratchetbase_CopyInts (.start t1.2.1)) >>= fun t2 =>
   if (fits (List.length t2.2.1) (List.length ([(0 : Int)] : List Int)) 8) = true then
     run_ratchetref01_Ungray (.p244 (IntKind.wrap .i64 (a0_0 - (1 : Int))) a0_0 a0_1 (0 : Int) (0 : Int) t1.2.1 (t2.2.1 ++ ([(0 : Int)] : List Int)))
   else none
 | .p244 i5 B0_0 B0_1 B1_0 B1_1 B2 B3 =>
   if (decide (i5 ≥ (0 : Int))) = true then
     if (decide ((0 : Int) ≤ i5) && decide (i5 < (List.length B2 : Int))) = true then
       (idx B2 i5) >>= fun t1 =>
       if (decide ((0 : Int) ≤ (IntKind.wrap .i64 (i5 + (1 : Int)))) && decide ((IntKind.wrap .i64 (i5 + (1 : Int))) < (List.length B3 : Int))) = true then
         (idx B3 (IntKind.wrap .i64 (i5 + (1 : Int)))) >>= fun t2 =>
         (run_ratchetbase_Bit (.start (t1 != t2))) >>= fun t3 =>
         if (decide ((0 : Int) ≤ i5) && decide (i5 < (List.length B3 : Int))) = true then
           (idx B3 i5) >>= fun t4 =>
           run_ratchetref01_Ungray (.p244 (IntKind.wrap .i64 (i5 - (1 : Int))) B0_0 B0_1 B1_0 B1_1 B2 (List.set B3 (Int.toNat i5) t3.1.1))
         else none
       else none
     else none
   else
     (run_ratchetref01_whole (.start B3)) >>= fun t5 =>
     some (((B0_0, (t5.1.1, ())), ()), ())
  partial_fixpoint
noncomputable def tab_ratchetref01_Ungray : List (Plc E P_ratchetref01_Ungray) := [⟨244, [false, false, true, false, true, true, true], { slots := [1, 2, 3, 4, 5], rows := [], flat := [], keep := 0 }, (Unit × (Unit × (Unit × (Unit × (Int × Unit))))), ((Int × (Int × Unit)) × ((Int × (Int × Unit)) × ((List Int) × ((List Int) × Unit)))), (RdL.cons (Rd.bp 0 0) (RdL.cons (Rd.bp 1 0) (RdL.cons (Rd.rw 2) (RdL.cons (Rd.rw 3) (RdL.cons (Rd.int .i64) RdL.nil))))), (RdBL.cons (RdB.var 23 (RdL.cons (Rd.int .i64) (RdL.cons (Rd.int .i64) RdL.nil))) (RdBL.cons (RdB.var 23 (RdL.cons (Rd.int .i64) (RdL.cons (Rd.int .i64) RdL.nil))) (RdBL.cons (RdB.row 3 true) (RdBL.cons (RdB.row 3 false) RdBL.nil)))), fun a b => .p244 a.2.2.2.2.1 b.1.1 b.1.2.1 b.2.1.1 b.2.1.2.1 b.2.2.1 b.2.2.2.1⟩]
theorem tab_ratchetref01_Ungray_ok : All (PlcOk 41 0 place_ratchetref01_Ungray st_ratchetref01_Ungray) tab_ratchetref01_Ungray := ⟨⟨rfl, rfl, fun _ _ => rfl, fun _ _ => rfl⟩, trivial⟩
noncomputable def spec_ratchetref01_Ungray : Spec E.S := (Con.add con_ratchetref01_whole (Con.add con_ratchetbase_Bit (Con.add con_ratchetbase_CopyInts (Con.add con_ratchetref01_low noSpec))))
theorem spec_ratchetref01_Ungray_ok : SpecOk E spec_ratchetref01_Ungray := (Con.add_ok con_ratchetref01_whole_ok (Con.add_ok con_ratchetbase_Bit_ok (Con.add_ok con_ratchetbase_CopyInts_ok (Con.add_ok con_ratchetref01_low_ok noSpec_ok))))
noncomputable def code_ratchetref01_Ungray : Code := Tryd.f36.body.getD .skip
theorem good_ratchetref01_Ungray : ∀ pt r, run_ratchetref01_Ungray pt = some r → Good E Tryd.f36 code_ratchetref01_Ungray 0 (res_ratchetref01_Ungray.av r) (res_ratchetref01_Ungray.bx r) (place_ratchetref01_Ungray pt) (st_ratchetref01_Ungray pt) := by
  refine run_ratchetref01_Ungray.partial_correctness (fun pt r => Good E Tryd.f36 code_ratchetref01_Ungray 0 (res_ratchetref01_Ungray.av r) (res_ratchetref01_Ungray.bx r) (place_ratchetref01_Ungray pt) (st_ratchetref01_Ungray pt)) ?_
  intro run' ih pt r hr
  cases pt <;> exact fn_step (spec := spec_ratchetref01_Ungray) (wr := (fun i => mem i [4, 12, 14, 22, 28, 38])) (l := tab_ratchetref01_Ungray) (z := 41) (p := res_ratchetref01_Ungray) E_ok tab_ratchetref01_Ungray_ok.mem rfl spec_ratchetref01_Ungray_ok ih (Eq.trans (by kernel_rfl) hr)
noncomputable def con_ratchetref01_Ungray : Con E := ⟨36, ((Int × (Int × Unit)) × Unit), Unit, (RwL.cons (Rw.agg (RwL.cons (Rd.int .i64).w (RwL.cons (Rd.int .i64).w RwL.nil))) RwL.nil), RdBL.nil, 0, R_ratchetref01_Ungray, fun a b => run_ratchetref01_Ungray (.start a.1.1 a.1.2.1), res_ratchetref01_Ungray.av, res_ratchetref01_Ungray.bx⟩
theorem con_ratchetref01_Ungray_ok : con_ratchetref01_Ungray.Ok := fun a b r h => fn_ok (fn := Tryd.f36) (code := code_ratchetref01_Ungray) E_ok (by kernel_rfl) (by kernel_rfl) (by kernel_rfl) (Nat.le_of_ble_eq_true rfl) (good_ratchetref01_Ungray (.start a.1.1 a.1.2.1) r h)

/-! ### ratchet/ratchetbase.BitsOf -/
inductive P_ratchetbase_BitsOf where
 | start (n0 : Int) (count1 : Int)
 | p116 (n0 : Int) (i6 : Int) (B0 : (List Int))
noncomputable def place_ratchetbase_BitsOf : P_ratchetbase_BitsOf → List Bool
 | .start .. => []
 | .p116 .. => [false, false, true, false, true, true]
noncomputable def st_ratchetbase_BitsOf : P_ratchetbase_BitsOf → St E.S
 | .start n0 count1 => st0 23 [.v (.int .i64 n0), .v (.int .i64 count1)] []
 | .p116 n0 i6 B0 => mkSt 23 [0, 5, 6] [.v (.int .i64 n0), .rw 0, .v (.int .i64 i6)] [.row 3 B0 false]
abbrev R_ratchetbase_BitsOf : Type := ((Unit × Unit) × ((List Int) × Unit))
noncomputable def res_ratchetbase_BitsOf : Res E (Unit × Unit) ((List Int) × Unit) := { rows := [], flat := [], keep := 0, rl := (RdL.cons (Rd.rw 0) RdL.nil), rb := (RdBL.cons (RdB.row 3 false) RdBL.nil) }
noncomputable def run_ratchetbase_BitsOf : P_ratchetbase_BitsOf → Option R_ratchetbase_BitsOf
 | .start n0 count1 =>
   if (fitsM count1 count1 8) = true then
     run_ratchetbase_BitsOf (.p116 n0 (IntKind.wrap .i64 (count1 - (1 : Int))) (List.replicate (Int.toNat count1) (0 : Int)))
   else none
 | .p116 n0 i6 B0 =>
   if (decide (i6 ≥ (0 : Int))) = true then
     if (!((2 : Int) == (0 : Int))) = true then
       if (decide ((0 : Int) ≤ i6) && decide (i6 < (List.length B0 : Int))) = true then
         (idx B0 i6) >>= fun t1 =>
         if (!((2 : Int) == (0 : Int))) = true then
           run_ratchetbase_BitsOf (.p116 (IntKind.wrap .i64 (Int.tdiv n0 (2 : Int))) (IntKind.wrap .i64 (i6 - (1 : Int))) (List.set B0 (Int.toNat i6) (Int.tmod n0 (2 : Int))))
         else none
       else none
     else none
   else
     some (((), ()), (B0, ()))
  partial_fixpoint
noncomputable def tab_ratchetbase_BitsOf : List (Plc E P_ratchetbase_BitsOf) := [⟨116, [false, false, true, false, true, true], { slots := [0, 5, 6], rows := [], flat := [], keep := 0 }, (Int × (Unit × (Int × Unit))), ((List Int) × Unit), (RdL.cons (Rd.int .i64) (RdL.cons (Rd.rw 0) (RdL.cons (Rd.int .i64) RdL.nil))), (RdBL.cons (RdB.row 3 false) RdBL.nil), fun a b => .p116 a.1 a.2.2.1 b.1⟩]
theorem tab_ratchetbase_BitsOf_ok : All (PlcOk 23 0 place_ratchetbase_BitsOf st_ratchetbase_BitsOf) tab_ratchetbase_BitsOf := ⟨⟨rfl, rfl, fun _ _ => rfl, fun _ _ => rfl⟩, trivial⟩
noncomputable def spec_ratchetbase_BitsOf : Spec E.S := noSpec
theorem spec_ratchetbase_BitsOf_ok : SpecOk E spec_ratchetbase_BitsOf := noSpec_ok
noncomputable def code_ratchetbase_BitsOf : Code := Tryd.f37.body.getD .skip
theorem good_ratchetbase_BitsOf : ∀ pt r, run_ratchetbase_BitsOf pt = some r → Good E Tryd.f37 code_ratchetbase_BitsOf 0 (res_ratchetbase_BitsOf.av r) (res_ratchetbase_BitsOf.bx r) (place_ratchetbase_BitsOf pt) (st_ratchetbase_BitsOf pt) := by
  refine run_ratchetbase_BitsOf.partial_correctness (fun pt r => Good E Tryd.f37 code_ratchetbase_BitsOf 0 (res_ratchetbase_BitsOf.av r) (res_ratchetbase_BitsOf.bx r) (place_ratchetbase_BitsOf pt) (st_ratchetbase_BitsOf pt)) ?_
  intro run' ih pt r hr
  cases pt <;> exact fn_step (spec := spec_ratchetbase_BitsOf) (wr := (fun i => mem i [4, 5, 8, 15, 22])) (l := tab_ratchetbase_BitsOf) (z := 23) (p := res_ratchetbase_BitsOf) E_ok tab_ratchetbase_BitsOf_ok.mem rfl spec_ratchetbase_BitsOf_ok ih (Eq.trans (by kernel_rfl) hr)
noncomputable def con_ratchetbase_BitsOf : Con E := ⟨37, (Int × (Int × Unit)), Unit, (RwL.cons (Rd.int .i64).w (RwL.cons (Rd.int .i64).w RwL.nil)), RdBL.nil, 0, R_ratchetbase_BitsOf, fun a b => run_ratchetbase_BitsOf (.start a.1 a.2.1), res_ratchetbase_BitsOf.av, res_ratchetbase_BitsOf.bx⟩
theorem con_ratchetbase_BitsOf_ok : con_ratchetbase_BitsOf.Ok := fun a b r h => fn_ok (fn := Tryd.f37) (code := code_ratchetbase_BitsOf) E_ok (by kernel_rfl) (by kernel_rfl) (by kernel_rfl) (Nat.le_of_ble_eq_true rfl) (good_ratchetbase_BitsOf (.start a.1 a.2.1) r h)

end Go.Proofs.YtcgkjbglijganaaDoor.Ev.F
