/- PRINTED by wip/gen/evp.py: what the functions come to. -/
import Derived.Test.YtcgkjbglijganaaGreatDoorEvShelf
import Derived.Test.YtcgkjbglijganaaGreatDoorShelf
import Derived.Test.YtcgkjbglijganaaGreatDoorEvLib
import Derived.Test.YtcgkjbglijganaaGreatDoorEvRun
import Derived.Test.YtcgkjbglijganaaGreatDoorProg
set_option linter.unusedVariables false
namespace Go.Proofs.YtcgkjbglijganaaGreatDoor.Ev.F
open Go.Proofs Go.Proofs.YtcgkjbglijganaaGreatDoor.Ev

/-- api.Bits -/
structure api_Bits where
  Width : Int
  Value : Int
/-- api.BitsSum -/
structure api_BitsSum where
  Sum : api_Bits
  Carry : Int
  Overflow : Int
  Zero : Int
  Negative : Int
noncomputable def S : Nat → Type
 | 5 => Int
 | 9 => ByteArray
 | 23 => api_Bits
 | 25 => Int
 | 36 => api_BitsSum
 | 57 => Bool
 | 95 => Int
 | _ => Unit
noncomputable def pk (e : Nat) : Pk S (S e) :=
  if h : e = 5 then h ▸ ((Pk.int .u8) : Pk S Int) else
  if h : e = 9 then h ▸ (Pk.str : Pk S ByteArray) else
  if h : e = 23 then h ▸ ((Pk.iso (Pk.cons (Pk.int .i64) (Pk.cons (Pk.int .i64) Pk.unit)) (fun a => (⟨a.1, a.2.1⟩ : api_Bits)) (fun x => (x.Width, x.Value, ())) (fun _ => rfl)) : Pk S api_Bits) else
  if h : e = 25 then h ▸ ((Pk.int .i64) : Pk S Int) else
  if h : e = 36 then h ▸ ((Pk.iso (Pk.cons (Pk.iso (Pk.cons (Pk.int .i64) (Pk.cons (Pk.int .i64) Pk.unit)) (fun a => (⟨a.1, a.2.1⟩ : api_Bits)) (fun x => (x.Width, x.Value, ())) (fun _ => rfl)) (Pk.cons (Pk.int .i64) (Pk.cons (Pk.int .i64) (Pk.cons (Pk.int .i64) (Pk.cons (Pk.int .i64) Pk.unit))))) (fun a => (⟨a.1, a.2.1, a.2.2.1, a.2.2.2.1, a.2.2.2.2.1⟩ : api_BitsSum)) (fun x => (x.Sum, x.Carry, x.Overflow, x.Zero, x.Negative, ())) (fun _ => rfl)) : Pk S api_BitsSum) else
  if h : e = 57 then h ▸ (Pk.err : Pk S Bool) else
  if h : e = 95 then h ▸ ((Pk.int .u64) : Pk S Int) else
  Pk.no (Tryz.prog.cellsOf e)
theorem pk_len (e : Nat) : (pk e).len = Tryz.prog.cellsOf e := by
  unfold pk
  by_cases h : e = 5
  · subst h; kernel_rfl
  refine (congrArg Pk.len (dif_neg h)).trans ?_; clear h
  by_cases h : e = 9
  · subst h; kernel_rfl
  refine (congrArg Pk.len (dif_neg h)).trans ?_; clear h
  by_cases h : e = 23
  · subst h; kernel_rfl
  refine (congrArg Pk.len (dif_neg h)).trans ?_; clear h
  by_cases h : e = 25
  · subst h; kernel_rfl
  refine (congrArg Pk.len (dif_neg h)).trans ?_; clear h
  by_cases h : e = 36
  · subst h; kernel_rfl
  refine (congrArg Pk.len (dif_neg h)).trans ?_; clear h
  by_cases h : e = 57
  · subst h; kernel_rfl
  refine (congrArg Pk.len (dif_neg h)).trans ?_; clear h
  by_cases h : e = 95
  · subst h; kernel_rfl
  refine (congrArg Pk.len (dif_neg h)).trans ?_; clear h
  exact Pk.no_len _
noncomputable def plain : Nat → Bool := fun t => mem t [23, 36]
noncomputable def byt (e : Nat) (s : ByteArray) : Option (List (S e)) := if h : e = 5 then some (h ▸ (strBytes s : List Int)) else none
theorem byt_ok : ∀ e s l, byt e s = some l → Tryz.prog.underlying e = some (.int .u8) ∧ Tryz.prog.cellsOf e = 1 ∧ l.length = s.size ∧ ∀ i x, l[i]? = some x → (pk e).wt x = [.v (.int .u8 ((s.data.toList.getD i 0).toNat : Int))] := by
  intro e s l h
  unfold byt at h
  split at h
  · rename_i he; subst he; obtain rfl := Option.some.inj h
    exact ⟨by kernel_rfl, by kernel_rfl, (strBytes_ok s).1, fun i x hx => by rw [(strBytes_ok s).2 i x hx]; kernel_rfl⟩
  cases h
def glob0 : List Int := [0, 0, 98, 0, 0, 0, 0, 0, 0, 0, 100, 0, 0, 0, 0, 0, 104]
def glob1 : List Int := [1, 10, 100, 1000, 10000, 100000, 1000000, 10000000, 100000000, 1000000000, 10000000000, 100000000000, 1000000000000, 10000000000000, 100000000000000, 1000000000000000, 10000000000000000, 100000000000000000, 1000000000000000000, 10000000000000000000]
def glob5 : List Int := [0, 1, 28, 2, 29, 14, 24, 3, 30, 22, 20, 15, 25, 17, 4, 8, 31, 27, 13, 23, 21, 19, 16, 7, 26, 12, 18, 6, 11, 5, 10, 9]
def glob6 : List Int := [0, 1, 56, 2, 57, 49, 28, 3, 61, 58, 42, 50, 38, 29, 17, 4, 62, 47, 59, 36, 45, 43, 51, 22, 53, 39, 33, 30, 24, 18, 12, 5, 63, 55, 48, 27, 60, 41, 37, 16, 46, 35, 44, 21, 52, 32, 23, 11, 54, 26, 40, 15, 34, 20, 31, 10, 25, 14, 19, 9, 13, 8, 7, 6]
noncomputable def globs : Nat → Option (AV S)
 | 0 => some (.ar 5 glob0)
 | 1 => some (.ar 95 glob1)
 | 5 => some (.ar 5 glob5)
 | 6 => some (.ar 5 glob6)
 | 3 => some (.el 57 true 0)
 | 4 => some (.el 57 true 0)
 | _ => none
theorem globs_ok : ∀ g x, globs g = some x → idsV x = [] := by
  intro g x h
  unfold globs at h
  split at h <;> first | (cases h; done) | (obtain rfl := Option.some.inj h; rfl)
noncomputable def nums : (e : Nat) → List (S e) → Option (List Int)
 | 5, l => some l
 | _, _ => none
theorem nums_ok : ∀ e l xs, nums e l = some xs → Tryz.prog.underlying e = some (.int .u8) ∧ xs.length = l.length ∧ ∀ (i : Nat) x n, l[i]? = some x → xs[i]? = some n → (pk e).wt x = [.v (.int .u8 n)] := by
  intro e l xs h
  unfold nums at h
  split at h
  · obtain rfl := Option.some.inj h
    exact ⟨by kernel_rfl, rfl, fun i x n hx hn => by obtain rfl : x = n := Option.some.inj (hx.symm.trans hn); kernel_rfl⟩
  · cases h
noncomputable def held : Nat → Option (String × Array Value)
 | 1 => some ("internal/strconv.uint64pow10", (Go.Lib.pow10Tab.map fun z => Value.int .u64 z).toArray)
 | _ => none
noncomputable abbrev E : Env := mkEnv Tryz.prog S pk globs plain byt nums held
theorem E_ok : E.Ok := mkEnv_ok pk_len (by kernel_rfl) globs_ok (fun t h => mem_cases (Q := fun t => Tryz.prog.stoodInHeld t = false ∧ Tryz.prog.eqGuardType Tryz.prog.depth t = false) h ⟨⟨by kernel_rfl, by kernel_rfl⟩, ⟨⟨by kernel_rfl, by kernel_rfl⟩, trivial⟩⟩) byt_ok nums_ok
noncomputable def con_strings_Repeat : Con E := conRepeat E 20
theorem con_strings_Repeat_ok : con_strings_Repeat.Ok := conRepeat_ok (fn := Tryz.f20) (by kernel_rfl) (by kernel_rfl) (by kernel_rfl) (fun s c w hc hl => Tryz.strings_Repeat s c w hc hl)
noncomputable def con_strconv_Itoa : Con E := conItoa E 21
theorem con_strconv_Itoa_ok : con_strconv_Itoa.Ok := conItoa_ok (fn := Tryz.f21) (by kernel_rfl) (by kernel_rfl) (by kernel_rfl) (g := 1) rfl (fun n w h0 h1 ht => Tryz.strconv_Itoa n h0 h1 w ht)
noncomputable def con_strconv_Atoi : Con E := conAtoi E 23
theorem con_strconv_Atoi_ok : con_strconv_Atoi.Ok := conAtoi_ok (ρ := Tryz.laysC172_ren) Tryz.laysC172 rfl rfl rfl (g15 := 3) (g16 := 4) (fn := Tryz.f23) (by kernel_rfl) (by kernel_rfl) (by kernel_rfl) (e := 57) (x15 := (true : Bool)) (x16 := (true : Bool)) rfl rfl (by kernel_rfl) (by kernel_rfl)
noncomputable def con_internal_stringslite_Index : Con E := conOne E 74 Go.Lib.indexByte
theorem con_internal_stringslite_Index_ok : con_internal_stringslite_Index.Ok := conOne_ok (fn := Tryz.f74) (by kernel_rfl) (by kernel_rfl) (by kernel_rfl) Tryz.stringslite_Index_one
noncomputable def con_internal_bytealg_IndexByteString : Con E := conIndexByteString E 96
theorem con_internal_bytealg_IndexByteString_ok : con_internal_bytealg_IndexByteString.Ok := conIndexByteString_ok 96 (fn := Tryz.f96) (by kernel_rfl) (by kernel_rfl) (by kernel_rfl) (by kernel_rfl) (by kernel_rfl)
noncomputable def base : Spec E.S := (Con.add con_internal_bytealg_IndexByteString (Con.add con_internal_stringslite_Index (Con.add con_strconv_Atoi (Con.add con_strconv_Itoa (Con.add con_strings_Repeat noSpec)))))
theorem base_ok : SpecOk E base := (Con.add_ok con_internal_bytealg_IndexByteString_ok (Con.add_ok con_internal_stringslite_Index_ok (Con.add_ok con_strconv_Atoi_ok (Con.add_ok con_strconv_Itoa_ok (Con.add_ok con_strings_Repeat_ok noSpec_ok)))))
noncomputable def con_ratchetlaw01_awake : Con E := conConst E 4 (.v (.bool true))
noncomputable def wrs_ratchetlaw01_awake : Nat → List Nat
 | 46 => [5, 30, 38, 42]
 | 67 => [0, 17, 42, 45, 55, 58, 68, 71, 81, 84, 110, 113, 123, 126, 145, 148, 162]
 | 68 => [12, 97, 100]
 | _ => []
theorem con_ratchetlaw01_awake_ok : con_ratchetlaw01_awake.Ok := conConst_ok E_ok base_ok wrs_ratchetlaw01_awake 400 60 (ys := [.v (.bool true)]) rfl (by kernel_rfl)

/-! ### ratchet/bits.within -/
inductive P_bits_within where
 | start (n0 : Int) (lo1 : Int) (hi2 : Int)
noncomputable def place_bits_within : P_bits_within → List Bool
 | .start .. => []
noncomputable def st_bits_within : P_bits_within → St E.S
 | .start n0 lo1 hi2 => st0 15 [.v (.int .i64 n0), .v (.int .i64 lo1), .v (.int .i64 hi2)] []
abbrev R_bits_within : Type := ((Bool × Unit) × Unit)
noncomputable def res_bits_within : Res E (Bool × Unit) Unit := { rows := [], flat := [], keep := 0, rl := (RdL.cons Rd.bool RdL.nil), rb := RdBL.nil }
noncomputable def run_bits_within : P_bits_within → Option R_bits_within
 | .start n0 lo1 hi2 =>
   if (decide (lo1 ≤ n0)) = true then
     some ((decide (n0 ≤ hi2), ()), ())
   else
     some ((false, ()), ())
noncomputable def tab_bits_within : List (Plc E P_bits_within) := []
theorem tab_bits_within_ok : All (PlcOk 15 0 place_bits_within st_bits_within) tab_bits_within := trivial
noncomputable def code_bits_within : Code := Tryz.f24.body.getD .skip
noncomputable def spec_bits_within : Spec E.S := noSpec
theorem spec_bits_within_ok : SpecOk E spec_bits_within := noSpec_ok
theorem good_bits_within : ∀ pt r, run_bits_within pt = some r → Good E Tryz.f24 code_bits_within 0 (res_bits_within.av r) (res_bits_within.bx r) (place_bits_within pt) (st_bits_within pt) := by
  intro pt r hr
  cases pt <;> exact fn_step (spec := spec_bits_within) (wr := (fun i => mem i [])) (l := tab_bits_within) (z := 15) (p := res_bits_within) (run' := fun _ => none) E_ok tab_bits_within_ok.mem rfl spec_bits_within_ok (fun _ _ h => by cases h) (Eq.trans (by kernel_rfl) hr)
noncomputable def con_bits_within : Con E := ⟨24, (Int × (Int × (Int × Unit))), Unit, (RwL.cons (Rd.int .i64).w (RwL.cons (Rd.int .i64).w (RwL.cons (Rd.int .i64).w RwL.nil))), RdBL.nil, 0, R_bits_within, fun a b => run_bits_within (.start a.1 a.2.1 a.2.2.1), res_bits_within.av, res_bits_within.bx⟩
theorem con_bits_within_ok : con_bits_within.Ok := fun a b r h => fn_ok (fn := Tryz.f24) (code := code_bits_within) E_ok (by kernel_rfl) (by kernel_rfl) (by kernel_rfl) (Nat.le_of_ble_eq_true rfl) (good_bits_within (.start a.1 a.2.1 a.2.2.1) r h)

/-! ### ratchet/bits.isWidth -/
inductive P_bits_isWidth where
 | start (n0 : Int)
noncomputable def place_bits_isWidth : P_bits_isWidth → List Bool
 | .start .. => []
noncomputable def st_bits_isWidth : P_bits_isWidth → St E.S
 | .start n0 => st0 5 [.v (.int .i64 n0)] []
abbrev R_bits_isWidth : Type := ((Bool × Unit) × Unit)
noncomputable def res_bits_isWidth : Res E (Bool × Unit) Unit := { rows := [], flat := [], keep := 0, rl := (RdL.cons Rd.bool RdL.nil), rb := RdBL.nil }
noncomputable def run_bits_isWidth : P_bits_isWidth → Option R_bits_isWidth
 | .start n0 =>
   (run_bits_within (.start n0 (1 : Int) (16 : Int))) >>= fun t1 =>
   some ((t1.1.1, ()), ())
noncomputable def tab_bits_isWidth : List (Plc E P_bits_isWidth) := []
theorem tab_bits_isWidth_ok : All (PlcOk 5 0 place_bits_isWidth st_bits_isWidth) tab_bits_isWidth := trivial
noncomputable def code_bits_isWidth : Code := Tryz.f27.body.getD .skip
noncomputable def spec_bits_isWidth : Spec E.S := (Con.add con_bits_within noSpec)
theorem spec_bits_isWidth_ok : SpecOk E spec_bits_isWidth := (Con.add_ok con_bits_within_ok noSpec_ok)
theorem good_bits_isWidth : ∀ pt r, run_bits_isWidth pt = some r → Good E Tryz.f27 code_bits_isWidth 0 (res_bits_isWidth.av r) (res_bits_isWidth.bx r) (place_bits_isWidth pt) (st_bits_isWidth pt) := by
  intro pt r hr
  cases pt <;> exact fn_step (spec := spec_bits_isWidth) (wr := (fun i => mem i [])) (l := tab_bits_isWidth) (z := 5) (p := res_bits_isWidth) (run' := fun _ => none) E_ok tab_bits_isWidth_ok.mem rfl spec_bits_isWidth_ok (fun _ _ h => by cases h) (Eq.trans (by kernel_rfl) hr)
noncomputable def con_bits_isWidth : Con E := ⟨27, (Int × Unit), Unit, (RwL.cons (Rd.int .i64).w RwL.nil), RdBL.nil, 0, R_bits_isWidth, fun a b => run_bits_isWidth (.start a.1), res_bits_isWidth.av, res_bits_isWidth.bx⟩
theorem con_bits_isWidth_ok : con_bits_isWidth.Ok := fun a b r h => fn_ok (fn := Tryz.f27) (code := code_bits_isWidth) E_ok (by kernel_rfl) (by kernel_rfl) (by kernel_rfl) (Nat.le_of_ble_eq_true rfl) (good_bits_isWidth (.start a.1) r h)

/-! ### ratchet/bits.unless -/
inductive P_bits_unless where
 | start (ok0 : Bool) (e1 : Int)
noncomputable def place_bits_unless : P_bits_unless → List Bool
 | .start .. => []
noncomputable def st_bits_unless : P_bits_unless → St E.S
 | .start ok0 e1 => st0 7 [.v (.bool ok0), .v (.int .i64 e1)] []
abbrev R_bits_unless : Type := ((Int × Unit) × Unit)
noncomputable def res_bits_unless : Res E (Int × Unit) Unit := { rows := [], flat := [], keep := 0, rl := (RdL.cons (Rd.int .i64) RdL.nil), rb := RdBL.nil }
noncomputable def run_bits_unless : P_bits_unless → Option R_bits_unless
 | .start ok0 e1 =>
   if ok0 = true then
     some (((0 : Int), ()), ())
   else
     some ((e1, ()), ())
noncomputable def tab_bits_unless : List (Plc E P_bits_unless) := []
theorem tab_bits_unless_ok : All (PlcOk 7 0 place_bits_unless st_bits_unless) tab_bits_unless := trivial
noncomputable def code_bits_unless : Code := Tryz.f17.body.getD .skip
noncomputable def spec_bits_unless : Spec E.S := noSpec
theorem spec_bits_unless_ok : SpecOk E spec_bits_unless := noSpec_ok
theorem good_bits_unless : ∀ pt r, run_bits_unless pt = some r → Good E Tryz.f17 code_bits_unless 0 (res_bits_unless.av r) (res_bits_unless.bx r) (place_bits_unless pt) (st_bits_unless pt) := by
  intro pt r hr
  cases pt <;> exact fn_step (spec := spec_bits_unless) (wr := (fun i => mem i [])) (l := tab_bits_unless) (z := 7) (p := res_bits_unless) (run' := fun _ => none) E_ok tab_bits_unless_ok.mem rfl spec_bits_unless_ok (fun _ _ h => by cases h) (Eq.trans (by kernel_rfl) hr)
noncomputable def con_bits_unless : Con E := ⟨17, (Bool × (Int × Unit)), Unit, (RwL.cons Rd.bool.w (RwL.cons (Rd.int .i64).w RwL.nil)), RdBL.nil, 0, R_bits_unless, fun a b => run_bits_unless (.start a.1 a.2.1), res_bits_unless.av, res_bits_unless.bx⟩
theorem con_bits_unless_ok : con_bits_unless.Ok := fun a b r h => fn_ok (fn := Tryz.f17) (code := code_bits_unless) E_ok (by kernel_rfl) (by kernel_rfl) (by kernel_rfl) (Nat.le_of_ble_eq_true rfl) (good_bits_unless (.start a.1 a.2.1) r h)

/-! ### ratchet/bits.CheckBits -/
inductive P_bits_CheckBits where
 | start (x0_0 : Int) (x0_1 : Int)
noncomputable def place_bits_CheckBits : P_bits_CheckBits → List Bool
 | .start .. => []
noncomputable def st_bits_CheckBits : P_bits_CheckBits → St E.S
 | .start x0_0 x0_1 => st0 15 [.agg [.v (.int .i64 x0_0), .v (.int .i64 x0_1)]] []
abbrev R_bits_CheckBits : Type := ((Int × Unit) × Unit)
noncomputable def res_bits_CheckBits : Res E (Int × Unit) Unit := { rows := [], flat := [], keep := 0, rl := (RdL.cons (Rd.int .i64) RdL.nil), rb := RdBL.nil }
noncomputable def run_bits_CheckBits : P_bits_CheckBits → Option R_bits_CheckBits
 | .start x0_0 x0_1 =>
   (run_bits_isWidth (.start x0_0)) >>= fun t1 =>
   if (!t1.1.1) = true then
     some (((25 : Int), ()), ())
   else
     if (decide ((0 : Int) ≤ x0_0)) = true then
       (run_bits_within (.start x0_1 (0 : Int) (IntKind.wrap .i64 ((shl .i64 (1 : Int) x0_0) - (1 : Int))))) >>= fun t2 =>
       (run_bits_unless (.start t2.1.1 (2 : Int))) >>= fun t3 =>
       some ((t3.1.1, ()), ())
     else none
noncomputable def tab_bits_CheckBits : List (Plc E P_bits_CheckBits) := []
theorem tab_bits_CheckBits_ok : All (PlcOk 15 0 place_bits_CheckBits st_bits_CheckBits) tab_bits_CheckBits := trivial
noncomputable def code_bits_CheckBits : Code := Tryz.f16.body.getD .skip
noncomputable def spec_bits_CheckBits : Spec E.S := (Con.add con_bits_unless (Con.add con_bits_within (Con.add con_bits_isWidth noSpec)))
theorem spec_bits_CheckBits_ok : SpecOk E spec_bits_CheckBits := (Con.add_ok con_bits_unless_ok (Con.add_ok con_bits_within_ok (Con.add_ok con_bits_isWidth_ok noSpec_ok)))
theorem good_bits_CheckBits : ∀ pt r, run_bits_CheckBits pt = some r → Good E Tryz.f16 code_bits_CheckBits 0 (res_bits_CheckBits.av r) (res_bits_CheckBits.bx r) (place_bits_CheckBits pt) (st_bits_CheckBits pt) := by
  intro pt r hr
  cases pt <;> exact fn_step (spec := spec_bits_CheckBits) (wr := (fun i => mem i [])) (l := tab_bits_CheckBits) (z := 15) (p := res_bits_CheckBits) (run' := fun _ => none) E_ok tab_bits_CheckBits_ok.mem rfl spec_bits_CheckBits_ok (fun _ _ h => by cases h) (Eq.trans (by kernel_rfl) hr)
noncomputable def con_bits_CheckBits : Con E := ⟨16, ((Int × (Int × Unit)) × Unit), Unit, (RwL.cons (Rw.agg (RwL.cons (Rd.int .i64).w (RwL.cons (Rd.int .i64).w RwL.nil))) RwL.nil), RdBL.nil, 0, R_bits_CheckBits, fun a b => run_bits_CheckBits (.start a.1.1 a.1.2.1), res_bits_CheckBits.av, res_bits_CheckBits.bx⟩
theorem con_bits_CheckBits_ok : con_bits_CheckBits.Ok := fun a b r h => fn_ok (fn := Tryz.f16) (code := code_bits_CheckBits) E_ok (by kernel_rfl) (by kernel_rfl) (by kernel_rfl) (Nat.le_of_ble_eq_true rfl) (good_bits_CheckBits (.start a.1.1 a.1.2.1) r h)

/-! ### ratchet/bits.isBase -/
inductive P_bits_isBase where
 | start (n0 : Int)
noncomputable def place_bits_isBase : P_bits_isBase → List Bool
 | .start .. => []
noncomputable def st_bits_isBase : P_bits_isBase → St E.S
 | .start n0 => st0 11 [.v (.int .i64 n0)] []
abbrev R_bits_isBase : Type := ((Bool × Unit) × Unit)
noncomputable def res_bits_isBase : Res E (Bool × Unit) Unit := { rows := [], flat := [], keep := 0, rl := (RdL.cons Rd.bool RdL.nil), rb := RdBL.nil }
noncomputable def run_bits_isBase : P_bits_isBase → Option R_bits_isBase
 | .start n0 =>
   (run_bits_within (.start n0 (0 : Int) (16 : Int))) >>= fun t1 =>
   if t1.1.1 = true then
     (idx glob0 n0) >>= fun t2 =>
     some ((t2 != (0 : Int), ()), ())
   else
     some ((false, ()), ())
noncomputable def tab_bits_isBase : List (Plc E P_bits_isBase) := []
theorem tab_bits_isBase_ok : All (PlcOk 11 0 place_bits_isBase st_bits_isBase) tab_bits_isBase := trivial
noncomputable def code_bits_isBase : Code := Tryz.f18.body.getD .skip
noncomputable def spec_bits_isBase : Spec E.S := (Con.add con_bits_within noSpec)
theorem spec_bits_isBase_ok : SpecOk E spec_bits_isBase := (Con.add_ok con_bits_within_ok noSpec_ok)
theorem good_bits_isBase : ∀ pt r, run_bits_isBase pt = some r → Good E Tryz.f18 code_bits_isBase 0 (res_bits_isBase.av r) (res_bits_isBase.bx r) (place_bits_isBase pt) (st_bits_isBase pt) := by
  intro pt r hr
  cases pt <;> exact fn_step (spec := spec_bits_isBase) (wr := (fun i => mem i [])) (l := tab_bits_isBase) (z := 11) (p := res_bits_isBase) (run' := fun _ => none) E_ok tab_bits_isBase_ok.mem rfl spec_bits_isBase_ok (fun _ _ h => by cases h) (Eq.trans (by kernel_rfl) hr)
noncomputable def con_bits_isBase : Con E := ⟨18, (Int × Unit), Unit, (RwL.cons (Rd.int .i64).w RwL.nil), RdBL.nil, 0, R_bits_isBase, fun a b => run_bits_isBase (.start a.1), res_bits_isBase.av, res_bits_isBase.bx⟩
theorem con_bits_isBase_ok : con_bits_isBase.Ok := fun a b r h => fn_ok (fn := Tryz.f18) (code := code_bits_isBase) E_ok (by kernel_rfl) (by kernel_rfl) (by kernel_rfl) (Nat.le_of_ble_eq_true rfl) (good_bits_isBase (.start a.1) r h)

/-! ### ratchet/bits.first -/
inductive P_bits_first where
 | start (l0 : (List Int))
 | p52 (s5 : (List Int)) (s6 : Int) (s7 : Int)
noncomputable def place_bits_first : P_bits_first → List Bool
 | .start .. => []
 | .p52 .. => [false, false, true, false, true]
noncomputable def st_bits_first : P_bits_first → St E.S
 | .start l0 => st0 15 [.sl 25 l0 false] []
 | .p52 s5 s6 s7 => mkSt 15 [5, 6, 7] [.sl 25 s5 false, .v (.int .i64 s6), .v (.int .i64 s7)] []
abbrev R_bits_first : Type := ((Int × Unit) × Unit)
noncomputable def res_bits_first : Res E (Int × Unit) Unit := { rows := [], flat := [], keep := 0, rl := (RdL.cons (Rd.int .i64) RdL.nil), rb := RdBL.nil }
noncomputable def run_bits_first : P_bits_first → Option R_bits_first
 | .start l0 =>
   run_bits_first (.p52 l0 (List.length l0 : Int) (0 : Int))
 | .p52 s5 s6 s7 =>
   if (decide (s7 < s6)) = true then
     (idx s5 s7) >>= fun t1 =>
     if (t1 != (0 : Int)) = true then
       some ((t1, ()), ())
     else
       run_bits_first (.p52 s5 s6 (IntKind.wrap .i64 (s7 + (1 : Int))))
   else
     some (((0 : Int), ()), ())
  partial_fixpoint
noncomputable def tab_bits_first : List (Plc E P_bits_first) := [⟨52, [false, false, true, false, true], { slots := [5, 6, 7], rows := [], flat := [], keep := 0 }, ((List Int) × (Int × (Int × Unit))), Unit, (RdL.cons (Rd.sl 25 false) (RdL.cons (Rd.int .i64) (RdL.cons (Rd.int .i64) RdL.nil))), RdBL.nil, fun a b => .p52 a.1 a.2.1 a.2.2.1⟩]
theorem tab_bits_first_ok : All (PlcOk 15 0 place_bits_first st_bits_first) tab_bits_first := ⟨⟨rfl, rfl, fun _ _ => rfl, fun _ _ => rfl⟩, trivial⟩
noncomputable def code_bits_first : Code := Tryz.f15.body.getD .skip
noncomputable def spec_bits_first : Spec E.S := noSpec
theorem spec_bits_first_ok : SpecOk E spec_bits_first := noSpec_ok
theorem good_bits_first : ∀ pt r, run_bits_first pt = some r → Good E Tryz.f15 code_bits_first 0 (res_bits_first.av r) (res_bits_first.bx r) (place_bits_first pt) (st_bits_first pt) := by
  refine run_bits_first.partial_correctness (fun pt r => Good E Tryz.f15 code_bits_first 0 (res_bits_first.av r) (res_bits_first.bx r) (place_bits_first pt) (st_bits_first pt)) ?_
  intro run' ih pt r hr
  cases pt <;> exact fn_step (spec := spec_bits_first) (wr := (fun i => mem i [])) (l := tab_bits_first) (z := 15) (p := res_bits_first) E_ok tab_bits_first_ok.mem rfl spec_bits_first_ok ih (Eq.trans (by kernel_rfl) hr)
noncomputable def con_bits_first : Con E := ⟨15, ((List Int) × Unit), Unit, (RwL.cons (Rw.sl 25) RwL.nil), RdBL.nil, 0, R_bits_first, fun a b => run_bits_first (.start a.1), res_bits_first.av, res_bits_first.bx⟩
theorem con_bits_first_ok : con_bits_first.Ok := fun a b r h => fn_ok (fn := Tryz.f15) (code := code_bits_first) E_ok (by kernel_rfl) (by kernel_rfl) (by kernel_rfl) (Nat.le_of_ble_eq_true rfl) (good_bits_first (.start a.1) r h)

/-! ### internal/strconv.small -/
inductive P_internal_strconv_small where
 | start (i0 : Int)
noncomputable def place_internal_strconv_small : P_internal_strconv_small → List Bool
 | .start .. => []
noncomputable def st_internal_strconv_small : P_internal_strconv_small → St E.S
 | .start i0 => st0 15 [.v (.int .i64 i0)] []
abbrev R_internal_strconv_small : Type := ((ByteArray × Unit) × Unit)
noncomputable def res_internal_strconv_small : Res E (ByteArray × Unit) Unit := { rows := [], flat := [], keep := 0, rl := (RdL.cons Rd.str RdL.nil), rb := RdBL.nil }
noncomputable def run_internal_strconv_small : P_internal_strconv_small → Option R_internal_strconv_small
 | .start i0 =>
   if (decide (i0 < (10 : Int))) = true then
     (span (⟨#[48, 49, 50, 51, 52, 53, 54, 55, 56, 57, 97, 98, 99, 100, 101, 102, 103, 104, 105, 106, 107, 108, 109, 110, 111, 112, 113, 114, 115, 116, 117, 118, 119, 120, 121, 122]⟩ : ByteArray).size i0 (IntKind.wrap .i64 (i0 + (1 : Int)))) >>= fun t1 =>
     some (((⟨#[48, 49, 50, 51, 52, 53, 54, 55, 56, 57, 97, 98, 99, 100, 101, 102, 103, 104, 105, 106, 107, 108, 109, 110, 111, 112, 113, 114, 115, 116, 117, 118, 119, 120, 121, 122]⟩ : ByteArray).extract t1.1 t1.2, ()), ())
   else
     (span (⟨#[48, 48, 48, 49, 48, 50, 48, 51, 48, 52, 48, 53, 48, 54, 48, 55, 48, 56, 48, 57, 49, 48, 49, 49, 49, 50, 49, 51, 49, 52, 49, 53, 49, 54, 49, 55, 49, 56, 49, 57, 50, 48, 50, 49, 50, 50, 50, 51, 50, 52, 50, 53, 50, 54, 50, 55, 50, 56, 50, 57, 51, 48, 51, 49, 51, 50, 51, 51, 51, 52, 51, 53, 51, 54, 51, 55, 51, 56, 51, 57, 52, 48, 52, 49, 52, 50, 52, 51, 52, 52, 52, 53, 52, 54, 52, 55, 52, 56, 52, 57, 53, 48, 53, 49, 53, 50, 53, 51, 53, 52, 53, 53, 53, 54, 53, 55, 53, 56, 53, 57, 54, 48, 54, 49, 54, 50, 54, 51, 54, 52, 54, 53, 54, 54, 54, 55, 54, 56, 54, 57, 55, 48, 55, 49, 55, 50, 55, 51, 55, 52, 55, 53, 55, 54, 55, 55, 55, 56, 55, 57, 56, 48, 56, 49, 56, 50, 56, 51, 56, 52, 56, 53, 56, 54, 56, 55, 56, 56, 56, 57, 57, 48, 57, 49, 57, 50, 57, 51, 57, 52, 57, 53, 57, 54, 57, 55, 57, 56, 57, 57]⟩ : ByteArray).size (IntKind.wrap .i64 (i0 * (2 : Int))) (IntKind.wrap .i64 ((IntKind.wrap .i64 (i0 * (2 : Int))) + (2 : Int)))) >>= fun t2 =>
     some (((⟨#[48, 48, 48, 49, 48, 50, 48, 51, 48, 52, 48, 53, 48, 54, 48, 55, 48, 56, 48, 57, 49, 48, 49, 49, 49, 50, 49, 51, 49, 52, 49, 53, 49, 54, 49, 55, 49, 56, 49, 57, 50, 48, 50, 49, 50, 50, 50, 51, 50, 52, 50, 53, 50, 54, 50, 55, 50, 56, 50, 57, 51, 48, 51, 49, 51, 50, 51, 51, 51, 52, 51, 53, 51, 54, 51, 55, 51, 56, 51, 57, 52, 48, 52, 49, 52, 50, 52, 51, 52, 52, 52, 53, 52, 54, 52, 55, 52, 56, 52, 57, 53, 48, 53, 49, 53, 50, 53, 51, 53, 52, 53, 53, 53, 54, 53, 55, 53, 56, 53, 57, 54, 48, 54, 49, 54, 50, 54, 51, 54, 52, 54, 53, 54, 54, 54, 55, 54, 56, 54, 57, 55, 48, 55, 49, 55, 50, 55, 51, 55, 52, 55, 53, 55, 54, 55, 55, 55, 56, 55, 57, 56, 48, 56, 49, 56, 50, 56, 51, 56, 52, 56, 53, 56, 54, 56, 55, 56, 56, 56, 57, 57, 48, 57, 49, 57, 50, 57, 51, 57, 52, 57, 53, 57, 54, 57, 55, 57, 56, 57, 57]⟩ : ByteArray).extract t2.1 t2.2, ()), ())
noncomputable def tab_internal_strconv_small : List (Plc E P_internal_strconv_small) := []
theorem tab_internal_strconv_small_ok : All (PlcOk 15 0 place_internal_strconv_small st_internal_strconv_small) tab_internal_strconv_small := trivial
noncomputable def code_internal_strconv_small : Code := Tryz.f65.body.getD .skip
noncomputable def spec_internal_strconv_small : Spec E.S := noSpec
theorem spec_internal_strconv_small_ok : SpecOk E spec_internal_strconv_small := noSpec_ok
theorem good_internal_strconv_small : ∀ pt r, run_internal_strconv_small pt = some r → Good E Tryz.f65 code_internal_strconv_small 0 (res_internal_strconv_small.av r) (res_internal_strconv_small.bx r) (place_internal_strconv_small pt) (st_internal_strconv_small pt) := by
  intro pt r hr
  cases pt <;> exact fn_step (spec := spec_internal_strconv_small) (wr := (fun i => mem i [])) (l := tab_internal_strconv_small) (z := 15) (p := res_internal_strconv_small) (run' := fun _ => none) E_ok tab_internal_strconv_small_ok.mem rfl spec_internal_strconv_small_ok (fun _ _ h => by cases h) (Eq.trans (by kernel_rfl) hr)
noncomputable def con_internal_strconv_small : Con E := ⟨65, (Int × Unit), Unit, (RwL.cons (Rd.int .i64).w RwL.nil), RdBL.nil, 0, R_internal_strconv_small, fun a b => run_internal_strconv_small (.start a.1), res_internal_strconv_small.av, res_internal_strconv_small.bx⟩
theorem con_internal_strconv_small_ok : con_internal_strconv_small.Ok := fun a b r h => fn_ok (fn := Tryz.f65) (code := code_internal_strconv_small) E_ok (by kernel_rfl) (by kernel_rfl) (by kernel_rfl) (Nat.le_of_ble_eq_true rfl) (good_internal_strconv_small (.start a.1) r h)

/-! ### internal/strconv.isPowerOfTwo -/
inductive P_internal_strconv_isPowerOfTwo where
 | start (x0 : Int)
noncomputable def place_internal_strconv_isPowerOfTwo : P_internal_strconv_isPowerOfTwo → List Bool
 | .start .. => []
noncomputable def st_internal_strconv_isPowerOfTwo : P_internal_strconv_isPowerOfTwo → St E.S
 | .start x0 => st0 8 [.v (.int .i64 x0)] []
abbrev R_internal_strconv_isPowerOfTwo : Type := ((Bool × Unit) × Unit)
noncomputable def res_internal_strconv_isPowerOfTwo : Res E (Bool × Unit) Unit := { rows := [], flat := [], keep := 0, rl := (RdL.cons Rd.bool RdL.nil), rb := RdBL.nil }
noncomputable def run_internal_strconv_isPowerOfTwo : P_internal_strconv_isPowerOfTwo → Option R_internal_strconv_isPowerOfTwo
 | .start x0 =>
   some (((bits .and .i64 x0 (IntKind.wrap .i64 (x0 - (1 : Int)))) == (0 : Int), ()), ())
noncomputable def tab_internal_strconv_isPowerOfTwo : List (Plc E P_internal_strconv_isPowerOfTwo) := []
theorem tab_internal_strconv_isPowerOfTwo_ok : All (PlcOk 8 0 place_internal_strconv_isPowerOfTwo st_internal_strconv_isPowerOfTwo) tab_internal_strconv_isPowerOfTwo := trivial
noncomputable def code_internal_strconv_isPowerOfTwo : Code := Tryz.f86.body.getD .skip
noncomputable def spec_internal_strconv_isPowerOfTwo : Spec E.S := noSpec
theorem spec_internal_strconv_isPowerOfTwo_ok : SpecOk E spec_internal_strconv_isPowerOfTwo := noSpec_ok
theorem good_internal_strconv_isPowerOfTwo : ∀ pt r, run_internal_strconv_isPowerOfTwo pt = some r → Good E Tryz.f86 code_internal_strconv_isPowerOfTwo 0 (res_internal_strconv_isPowerOfTwo.av r) (res_internal_strconv_isPowerOfTwo.bx r) (place_internal_strconv_isPowerOfTwo pt) (st_internal_strconv_isPowerOfTwo pt) := by
  intro pt r hr
  cases pt <;> exact fn_step (spec := spec_internal_strconv_isPowerOfTwo) (wr := (fun i => mem i [])) (l := tab_internal_strconv_isPowerOfTwo) (z := 8) (p := res_internal_strconv_isPowerOfTwo) (run' := fun _ => none) E_ok tab_internal_strconv_isPowerOfTwo_ok.mem rfl spec_internal_strconv_isPowerOfTwo_ok (fun _ _ h => by cases h) (Eq.trans (by kernel_rfl) hr)
noncomputable def con_internal_strconv_isPowerOfTwo : Con E := ⟨86, (Int × Unit), Unit, (RwL.cons (Rd.int .i64).w RwL.nil), RdBL.nil, 0, R_internal_strconv_isPowerOfTwo, fun a b => run_internal_strconv_isPowerOfTwo (.start a.1), res_internal_strconv_isPowerOfTwo.av, res_internal_strconv_isPowerOfTwo.bx⟩
theorem con_internal_strconv_isPowerOfTwo_ok : con_internal_strconv_isPowerOfTwo.Ok := fun a b r h => fn_ok (fn := Tryz.f86) (code := code_internal_strconv_isPowerOfTwo) E_ok (by kernel_rfl) (by kernel_rfl) (by kernel_rfl) (Nat.le_of_ble_eq_true rfl) (good_internal_strconv_isPowerOfTwo (.start a.1) r h)

/-! ### math/bits.TrailingZeros64 -/
inductive P_math_bits_TrailingZeros64 where
 | start (x0 : Int)
noncomputable def place_math_bits_TrailingZeros64 : P_math_bits_TrailingZeros64 → List Bool
 | .start .. => []
noncomputable def st_math_bits_TrailingZeros64 : P_math_bits_TrailingZeros64 → St E.S
 | .start x0 => st0 14 [.v (.int .u64 x0)] []
abbrev R_math_bits_TrailingZeros64 : Type := ((Int × Unit) × Unit)
noncomputable def res_math_bits_TrailingZeros64 : Res E (Int × Unit) Unit := { rows := [], flat := [], keep := 0, rl := (RdL.cons (Rd.int .i64) RdL.nil), rb := RdBL.nil }
noncomputable def run_math_bits_TrailingZeros64 : P_math_bits_TrailingZeros64 → Option R_math_bits_TrailingZeros64
 | .start x0 =>
   if (x0 == (0 : Int)) = true then
     some (((64 : Int), ()), ())
   else
     if (decide ((0 : Int) ≤ (58 : Int))) = true then
       (idx glob6 (shr .u64 (IntKind.wrap .u64 ((bits .and .u64 x0 (IntKind.wrap .u64 (0 - x0))) * (285870213051353865 : Int))) (58 : Int))) >>= fun t1 =>
       some ((IntKind.wrap .i64 t1, ()), ())
     else none
noncomputable def tab_math_bits_TrailingZeros64 : List (Plc E P_math_bits_TrailingZeros64) := []
theorem tab_math_bits_TrailingZeros64_ok : All (PlcOk 14 0 place_math_bits_TrailingZeros64 st_math_bits_TrailingZeros64) tab_math_bits_TrailingZeros64 := trivial
noncomputable def code_math_bits_TrailingZeros64 : Code := Tryz.f98.body.getD .skip
noncomputable def spec_math_bits_TrailingZeros64 : Spec E.S := noSpec
theorem spec_math_bits_TrailingZeros64_ok : SpecOk E spec_math_bits_TrailingZeros64 := noSpec_ok
theorem good_math_bits_TrailingZeros64 : ∀ pt r, run_math_bits_TrailingZeros64 pt = some r → Good E Tryz.f98 code_math_bits_TrailingZeros64 0 (res_math_bits_TrailingZeros64.av r) (res_math_bits_TrailingZeros64.bx r) (place_math_bits_TrailingZeros64 pt) (st_math_bits_TrailingZeros64 pt) := by
  intro pt r hr
  cases pt <;> exact fn_step (spec := spec_math_bits_TrailingZeros64) (wr := (fun i => mem i [])) (l := tab_math_bits_TrailingZeros64) (z := 14) (p := res_math_bits_TrailingZeros64) (run' := fun _ => none) E_ok tab_math_bits_TrailingZeros64_ok.mem rfl spec_math_bits_TrailingZeros64_ok (fun _ _ h => by cases h) (Eq.trans (by kernel_rfl) hr)
noncomputable def con_math_bits_TrailingZeros64 : Con E := ⟨98, (Int × Unit), Unit, (RwL.cons (Rd.int .u64).w RwL.nil), RdBL.nil, 0, R_math_bits_TrailingZeros64, fun a b => run_math_bits_TrailingZeros64 (.start a.1), res_math_bits_TrailingZeros64.av, res_math_bits_TrailingZeros64.bx⟩
theorem con_math_bits_TrailingZeros64_ok : con_math_bits_TrailingZeros64.Ok := fun a b r h => fn_ok (fn := Tryz.f98) (code := code_math_bits_TrailingZeros64) E_ok (by kernel_rfl) (by kernel_rfl) (by kernel_rfl) (Nat.le_of_ble_eq_true rfl) (good_math_bits_TrailingZeros64 (.start a.1) r h)

/-! ### math/bits.TrailingZeros -/
inductive P_math_bits_TrailingZeros where
 | start (x0 : Int)
noncomputable def place_math_bits_TrailingZeros : P_math_bits_TrailingZeros → List Bool
 | .start .. => []
noncomputable def st_math_bits_TrailingZeros : P_math_bits_TrailingZeros → St E.S
 | .start x0 => st0 8 [.v (.int .u64 x0)] []
abbrev R_math_bits_TrailingZeros : Type := ((Int × Unit) × Unit)
noncomputable def res_math_bits_TrailingZeros : Res E (Int × Unit) Unit := { rows := [], flat := [], keep := 0, rl := (RdL.cons (Rd.int .i64) RdL.nil), rb := RdBL.nil }
noncomputable def run_math_bits_TrailingZeros : P_math_bits_TrailingZeros → Option R_math_bits_TrailingZeros
 | .start x0 =>
   (run_math_bits_TrailingZeros64 (.start x0)) >>= fun t1 =>
   some ((t1.1.1, ()), ())
noncomputable def tab_math_bits_TrailingZeros : List (Plc E P_math_bits_TrailingZeros) := []
theorem tab_math_bits_TrailingZeros_ok : All (PlcOk 8 0 place_math_bits_TrailingZeros st_math_bits_TrailingZeros) tab_math_bits_TrailingZeros := trivial
noncomputable def code_math_bits_TrailingZeros : Code := Tryz.f87.body.getD .skip
noncomputable def spec_math_bits_TrailingZeros : Spec E.S := (Con.add con_math_bits_TrailingZeros64 noSpec)
theorem spec_math_bits_TrailingZeros_ok : SpecOk E spec_math_bits_TrailingZeros := (Con.add_ok con_math_bits_TrailingZeros64_ok noSpec_ok)
theorem good_math_bits_TrailingZeros : ∀ pt r, run_math_bits_TrailingZeros pt = some r → Good E Tryz.f87 code_math_bits_TrailingZeros 0 (res_math_bits_TrailingZeros.av r) (res_math_bits_TrailingZeros.bx r) (place_math_bits_TrailingZeros pt) (st_math_bits_TrailingZeros pt) := by
  intro pt r hr
  cases pt <;> exact fn_step (spec := spec_math_bits_TrailingZeros) (wr := (fun i => mem i [])) (l := tab_math_bits_TrailingZeros) (z := 8) (p := res_math_bits_TrailingZeros) (run' := fun _ => none) E_ok tab_math_bits_TrailingZeros_ok.mem rfl spec_math_bits_TrailingZeros_ok (fun _ _ h => by cases h) (Eq.trans (by kernel_rfl) hr)
noncomputable def con_math_bits_TrailingZeros : Con E := ⟨87, (Int × Unit), Unit, (RwL.cons (Rd.int .u64).w RwL.nil), RdBL.nil, 0, R_math_bits_TrailingZeros, fun a b => run_math_bits_TrailingZeros (.start a.1), res_math_bits_TrailingZeros.av, res_math_bits_TrailingZeros.bx⟩
theorem con_math_bits_TrailingZeros_ok : con_math_bits_TrailingZeros.Ok := fun a b r h => fn_ok (fn := Tryz.f87) (code := code_math_bits_TrailingZeros) E_ok (by kernel_rfl) (by kernel_rfl) (by kernel_rfl) (Nat.le_of_ble_eq_true rfl) (good_math_bits_TrailingZeros (.start a.1) r h)

/-! ### internal/strconv.formatBits -/
inductive P_internal_strconv_formatBits where
 | start (dst0 : (List Int)) (u1 : Int) (base2 : Int) (neg3 : Bool) (append_4 : Bool)
 | p7 (dst0 : (List Int)) (u1 : Int) (base2 : Int) (neg3 : Bool) (append_4 : Bool) (s11 : ByteArray)
 | p63 (dst0 : (List Int)) (u1 : Int) (base2 : Int) (neg3 : Bool) (append_4 : Bool) (s11 : ByteArray) (i13 : Int) (B0 : (List Int))
 | p32440 (dst0 : (List Int)) (u1 : Int) (neg3 : Bool) (append_4 : Bool) (s11 : ByteArray) (i13 : Int) (shift14 : Int) (b15 : Int) (m16 : Int) (B0 : (List Int))
 | p127 (dst0 : (List Int)) (neg3 : Bool) (append_4 : Bool) (s11 : ByteArray) (i13 : Int) (B0 : (List Int))
 | p8120 (dst0 : (List Int)) (u1 : Int) (neg3 : Bool) (append_4 : Bool) (s11 : ByteArray) (i13 : Int) (b17 : Int) (B0 : (List Int))
 | p255 (dst0 : (List Int)) (append_4 : Bool) (s11 : ByteArray) (i13 : Int) (B0 : (List Int))
noncomputable def place_internal_strconv_formatBits : P_internal_strconv_formatBits → List Bool
 | .start .. => []
 | .p7 .. => [true, true]
 | .p63 .. => [true, true, true, true, true]
 | .p32440 .. => [false, false, false, true, true, true, false, true, false, true, true, true, true, true]
 | .p127 .. => [true, true, true, true, true, true]
 | .p8120 .. => [false, false, false, true, true, true, false, true, true, true, true, true]
 | .p255 .. => [true, true, true, true, true, true, true]
noncomputable def st_internal_strconv_formatBits : P_internal_strconv_formatBits → St E.S
 | .start dst0 u1 base2 neg3 append_4 => st0 102 [.sl 5 dst0 false, .v (.int .u64 u1), .v (.int .i64 base2), .v (.bool neg3), .v (.bool append_4)] []
 | .p7 dst0 u1 base2 neg3 append_4 s11 => mkSt 102 [0, 1, 2, 3, 4, 10, 11] [.sl 5 dst0 false, .v (.int .u64 u1), .v (.int .i64 base2), .v (.bool neg3), .v (.bool append_4), .nl, .v (.string s11)] []
 | .p63 dst0 u1 base2 neg3 append_4 s11 i13 B0 => mkSt 102 [0, 1, 2, 3, 4, 10, 11, 12, 13] [.sl 5 dst0 false, .v (.int .u64 u1), .v (.int .i64 base2), .v (.bool neg3), .v (.bool append_4), .nl, .v (.string s11), .rp 0 5 (0 : Int) 0, .v (.int .i64 i13)] [.row 5 B0 false]
 | .p32440 dst0 u1 neg3 append_4 s11 i13 shift14 b15 m16 B0 => mkSt 102 [0, 1, 3, 4, 10, 11, 12, 13, 14, 15, 16] [.sl 5 dst0 false, .v (.int .u64 u1), .v (.bool neg3), .v (.bool append_4), .nl, .v (.string s11), .rp 0 5 (0 : Int) 0, .v (.int .i64 i13), .v (.int .u64 shift14), .v (.int .u64 b15), .v (.int .u64 m16)] [.row 5 B0 false]
 | .p127 dst0 neg3 append_4 s11 i13 B0 => mkSt 102 [0, 3, 4, 10, 11, 12, 13] [.sl 5 dst0 false, .v (.bool neg3), .v (.bool append_4), .nl, .v (.string s11), .rp 0 5 (0 : Int) 0, .v (.int .i64 i13)] [.row 5 B0 false]
 | .p8120 dst0 u1 neg3 append_4 s11 i13 b17 B0 => mkSt 102 [0, 1, 3, 4, 10, 11, 12, 13, 17] [.sl 5 dst0 false, .v (.int .u64 u1), .v (.bool neg3), .v (.bool append_4), .nl, .v (.string s11), .rp 0 5 (0 : Int) 0, .v (.int .i64 i13), .v (.int .u64 b17)] [.row 5 B0 false]
 | .p255 dst0 append_4 s11 i13 B0 => mkSt 102 [0, 4, 10, 11, 12, 13] [.sl 5 dst0 false, .v (.bool append_4), .nl, .v (.string s11), .rp 0 5 (0 : Int) 0, .v (.int .i64 i13)] [.row 5 B0 false]
abbrev R_internal_strconv_formatBits : Type := ((Unit × (ByteArray × Unit)) × Unit)
noncomputable def res_internal_strconv_formatBits : Res E (Unit × (ByteArray × Unit)) Unit := { rows := [], flat := [], keep := 0, rl := (RdL.cons Rd.nl (RdL.cons Rd.str RdL.nil)), rb := RdBL.nil }
noncomputable def run_internal_strconv_formatBits : P_internal_strconv_formatBits → Option R_internal_strconv_formatBits
 | .start dst0 u1 base2 neg3 append_4 =>
   if (decide (base2 < (2 : Int))) = true then
     none
   else
     if (base2 == (10 : Int)) = true then
       none
     else
       if (decide (base2 > (36 : Int))) = true then
         none
       else
         run_internal_strconv_formatBits (.p7 dst0 u1 base2 neg3 append_4 (⟨#[]⟩ : ByteArray))
 | .p7 dst0 u1 base2 neg3 append_4 s11 =>
   if neg3 = true then
     run_internal_strconv_formatBits (.p63 dst0 (IntKind.wrap .u64 (0 - u1)) base2 neg3 append_4 s11 (65 : Int) (List.replicate 65 (0 : Int)))
   else
     run_internal_strconv_formatBits (.p63 dst0 u1 base2 neg3 append_4 s11 (65 : Int) (List.replicate 65 (0 : Int)))
 | .p63 dst0 u1 base2 neg3 append_4 s11 i13 B0 =>
   (run_internal_strconv_isPowerOfTwo (.start base2)) >>= fun t1 =>
   if t1.1.1 = true then
     (run_math_bits_TrailingZeros (.start (IntKind.wrap .u64 base2))) >>= fun t2 =>
     run_internal_strconv_formatBits (.p32440 dst0 u1 neg3 append_4 s11 i13 (IntKind.wrap .u64 t2.1.1) (IntKind.wrap .u64 base2) (IntKind.wrap .u64 ((IntKind.wrap .u64 base2) - (1 : Int))) B0)
   else
     run_internal_strconv_formatBits (.p8120 dst0 u1 neg3 append_4 s11 i13 (IntKind.wrap .u64 base2) B0)
 | .p32440 dst0 u1 neg3 append_4 s11 i13 shift14 b15 m16 B0 =>
   if (decide (u1 ≥ b15)) = true then
     (sidx (⟨#[48, 49, 50, 51, 52, 53, 54, 55, 56, 57, 97, 98, 99, 100, 101, 102, 103, 104, 105, 106, 107, 108, 109, 110, 111, 112, 113, 114, 115, 116, 117, 118, 119, 120, 121, 122]⟩ : ByteArray) (bits .and .u64 u1 m16)) >>= fun t1 =>
     if (decide ((0 : Int) ≤ (IntKind.wrap .i64 (i13 - (1 : Int)))) && decide ((IntKind.wrap .i64 (i13 - (1 : Int))) < (65 : Int))) = true then
       (idx B0 (IntKind.wrap .i64 (i13 - (1 : Int)))) >>= fun t2 =>
       if (decide ((0 : Int) ≤ shift14)) = true then
         run_internal_strconv_formatBits (.p32440 dst0 (shr .u64 u1 shift14) neg3 append_4 s11 (IntKind.wrap .i64 (i13 - (1 : Int))) shift14 b15 m16 (List.set B0 (Int.toNat (IntKind.wrap .i64 (i13 - (1 : Int)))) t1))
       else none
     else none
   else
     (sidx (⟨#[48, 49, 50, 51, 52, 53, 54, 55, 56, 57, 97, 98, 99, 100, 101, 102, 103, 104, 105, 106, 107, 108, 109, 110, 111, 112, 113, 114, 115, 116, 117, 118, 119, 120, 121, 122]⟩ : ByteArray) u1) >>= fun t3 =>
     if (decide ((0 : Int) ≤ (IntKind.wrap .i64 (i13 - (1 : Int)))) && decide ((IntKind.wrap .i64 (i13 - (1 : Int))) < (65 : Int))) = true then
       (idx B0 (IntKind.wrap .i64 (i13 - (1 : Int)))) >>= fun t4 =>
       run_internal_strconv_formatBits (.p127 dst0 neg3 append_4 s11 (IntKind.wrap .i64 (i13 - (1 : Int))) (List.set B0 (Int.toNat (IntKind.wrap .i64 (i13 - (1 : Int)))) t3))
     else none
 | .p127 dst0 neg3 append_4 s11 i13 B0 =>
   if neg3 = true then
     if (decide ((0 : Int) ≤ (IntKind.wrap .i64 (i13 - (1 : Int)))) && decide ((IntKind.wrap .i64 (i13 - (1 : Int))) < (65 : Int))) = true then
       (idx B0 (IntKind.wrap .i64 (i13 - (1 : Int)))) >>= fun t1 =>
       run_internal_strconv_formatBits (.p255 dst0 append_4 s11 (IntKind.wrap .i64 (i13 - (1 : Int))) (List.set B0 (Int.toNat (IntKind.wrap .i64 (i13 - (1 : Int)))) (45 : Int)))
     else none
   else
     run_internal_strconv_formatBits (.p255 dst0 append_4 s11 i13 B0)
 | .p8120 dst0 u1 neg3 append_4 s11 i13 b17 B0 =>
   if (decide (u1 ≥ b17)) = true then
     if (!(b17 == (0 : Int))) = true then
       (sidx (⟨#[48, 49, 50, 51, 52, 53, 54, 55, 56, 57, 97, 98, 99, 100, 101, 102, 103, 104, 105, 106, 107, 108, 109, 110, 111, 112, 113, 114, 115, 116, 117, 118, 119, 120, 121, 122]⟩ : ByteArray) (IntKind.wrap .u64 (u1 - (IntKind.wrap .u64 ((IntKind.wrap .u64 (Int.tdiv u1 b17)) * b17))))) >>= fun t1 =>
       if (decide ((0 : Int) ≤ (IntKind.wrap .i64 (i13 - (1 : Int)))) && decide ((IntKind.wrap .i64 (i13 - (1 : Int))) < (65 : Int))) = true then
         (idx B0 (IntKind.wrap .i64 (i13 - (1 : Int)))) >>= fun t2 =>
         run_internal_strconv_formatBits (.p8120 dst0 (IntKind.wrap .u64 (Int.tdiv u1 b17)) neg3 append_4 s11 (IntKind.wrap .i64 (i13 - (1 : Int))) b17 (List.set B0 (Int.toNat (IntKind.wrap .i64 (i13 - (1 : Int)))) t1))
       else none
     else none
   else
     (sidx (⟨#[48, 49, 50, 51, 52, 53, 54, 55, 56, 57, 97, 98, 99, 100, 101, 102, 103, 104, 105, 106, 107, 108, 109, 110, 111, 112, 113, 114, 115, 116, 117, 118, 119, 120, 121, 122]⟩ : ByteArray) u1) >>= fun t3 =>
     if (decide ((0 : Int) ≤ (IntKind.wrap .i64 (i13 - (1 : Int)))) && decide ((IntKind.wrap .i64 (i13 - (1 : Int))) < (65 : Int))) = true then
       (idx B0 (IntKind.wrap .i64 (i13 - (1 : Int)))) >>= fun t4 =>
       run_internal_strconv_formatBits (.p127 dst0 neg3 append_4 s11 (IntKind.wrap .i64 (i13 - (1 : Int))) (List.set B0 (Int.toNat (IntKind.wrap .i64 (i13 - (1 : Int)))) t3))
     else none
 | .p255 dst0 append_4 s11 i13 B0 =>
   if append_4 = true then
     (span 65 i13 (65 : Int)) >>= fun t1 =>
     none
   else
     (span 65 i13 (65 : Int)) >>= fun t2 =>
     if (Nat.ble t2.2 (List.length B0)) = true then
       some (((), (bytesStr (cut B0 t2), ())), ())
     else none
  partial_fixpoint
noncomputable def tab_internal_strconv_formatBits : List (Plc E P_internal_strconv_formatBits) := [⟨7, [true, true], { slots := [0, 1, 2, 3, 4, 10, 11], rows := [], flat := [], keep := 0 }, ((List Int) × (Int × (Int × (Bool × (Bool × (Unit × (ByteArray × Unit))))))), Unit, (RdL.cons (Rd.sl 5 false) (RdL.cons (Rd.int .u64) (RdL.cons (Rd.int .i64) (RdL.cons Rd.bool (RdL.cons Rd.bool (RdL.cons Rd.nl (RdL.cons Rd.str RdL.nil))))))), RdBL.nil, fun a b => .p7 a.1 a.2.1 a.2.2.1 a.2.2.2.1 a.2.2.2.2.1 a.2.2.2.2.2.2.1⟩,
  ⟨63, [true, true, true, true, true], { slots := [0, 1, 2, 3, 4, 10, 11, 12, 13], rows := [], flat := [], keep := 0 }, ((List Int) × (Int × (Int × (Bool × (Bool × (Unit × (ByteArray × (Unit × (Int × Unit))))))))), ((List Int) × Unit), (RdL.cons (Rd.sl 5 false) (RdL.cons (Rd.int .u64) (RdL.cons (Rd.int .i64) (RdL.cons Rd.bool (RdL.cons Rd.bool (RdL.cons Rd.nl (RdL.cons Rd.str (RdL.cons (Rd.rp0 0 5) (RdL.cons (Rd.int .i64) RdL.nil))))))))), (RdBL.cons (RdB.row 5 false) RdBL.nil), fun a b => .p63 a.1 a.2.1 a.2.2.1 a.2.2.2.1 a.2.2.2.2.1 a.2.2.2.2.2.2.1 a.2.2.2.2.2.2.2.2.1 b.1⟩,
  ⟨32440, [false, false, false, true, true, true, false, true, false, true, true, true, true, true], { slots := [0, 1, 3, 4, 10, 11, 12, 13, 14, 15, 16], rows := [], flat := [], keep := 0 }, ((List Int) × (Int × (Bool × (Bool × (Unit × (ByteArray × (Unit × (Int × (Int × (Int × (Int × Unit))))))))))), ((List Int) × Unit), (RdL.cons (Rd.sl 5 false) (RdL.cons (Rd.int .u64) (RdL.cons Rd.bool (RdL.cons Rd.bool (RdL.cons Rd.nl (RdL.cons Rd.str (RdL.cons (Rd.rp0 0 5) (RdL.cons (Rd.int .i64) (RdL.cons (Rd.int .u64) (RdL.cons (Rd.int .u64) (RdL.cons (Rd.int .u64) RdL.nil))))))))))), (RdBL.cons (RdB.row 5 false) RdBL.nil), fun a b => .p32440 a.1 a.2.1 a.2.2.1 a.2.2.2.1 a.2.2.2.2.2.1 a.2.2.2.2.2.2.2.1 a.2.2.2.2.2.2.2.2.1 a.2.2.2.2.2.2.2.2.2.1 a.2.2.2.2.2.2.2.2.2.2.1 b.1⟩,
  ⟨127, [true, true, true, true, true, true], { slots := [0, 3, 4, 10, 11, 12, 13], rows := [], flat := [], keep := 0 }, ((List Int) × (Bool × (Bool × (Unit × (ByteArray × (Unit × (Int × Unit))))))), ((List Int) × Unit), (RdL.cons (Rd.sl 5 false) (RdL.cons Rd.bool (RdL.cons Rd.bool (RdL.cons Rd.nl (RdL.cons Rd.str (RdL.cons (Rd.rp0 0 5) (RdL.cons (Rd.int .i64) RdL.nil))))))), (RdBL.cons (RdB.row 5 false) RdBL.nil), fun a b => .p127 a.1 a.2.1 a.2.2.1 a.2.2.2.2.1 a.2.2.2.2.2.2.1 b.1⟩,
  ⟨8120, [false, false, false, true, true, true, false, true, true, true, true, true], { slots := [0, 1, 3, 4, 10, 11, 12, 13, 17], rows := [], flat := [], keep := 0 }, ((List Int) × (Int × (Bool × (Bool × (Unit × (ByteArray × (Unit × (Int × (Int × Unit))))))))), ((List Int) × Unit), (RdL.cons (Rd.sl 5 false) (RdL.cons (Rd.int .u64) (RdL.cons Rd.bool (RdL.cons Rd.bool (RdL.cons Rd.nl (RdL.cons Rd.str (RdL.cons (Rd.rp0 0 5) (RdL.cons (Rd.int .i64) (RdL.cons (Rd.int .u64) RdL.nil))))))))), (RdBL.cons (RdB.row 5 false) RdBL.nil), fun a b => .p8120 a.1 a.2.1 a.2.2.1 a.2.2.2.1 a.2.2.2.2.2.1 a.2.2.2.2.2.2.2.1 a.2.2.2.2.2.2.2.2.1 b.1⟩,
  ⟨255, [true, true, true, true, true, true, true], { slots := [0, 4, 10, 11, 12, 13], rows := [], flat := [], keep := 0 }, ((List Int) × (Bool × (Unit × (ByteArray × (Unit × (Int × Unit)))))), ((List Int) × Unit), (RdL.cons (Rd.sl 5 false) (RdL.cons Rd.bool (RdL.cons Rd.nl (RdL.cons Rd.str (RdL.cons (Rd.rp0 0 5) (RdL.cons (Rd.int .i64) RdL.nil)))))), (RdBL.cons (RdB.row 5 false) RdBL.nil), fun a b => .p255 a.1 a.2.1 a.2.2.2.1 a.2.2.2.2.2.1 b.1⟩]
theorem tab_internal_strconv_formatBits_ok : All (PlcOk 102 0 place_internal_strconv_formatBits st_internal_strconv_formatBits) tab_internal_strconv_formatBits := ⟨⟨rfl, rfl, fun _ _ => rfl, fun _ _ => rfl⟩, ⟨⟨rfl, rfl, fun _ _ => rfl, fun _ _ => rfl⟩, ⟨⟨rfl, rfl, fun _ _ => rfl, fun _ _ => rfl⟩, ⟨⟨rfl, rfl, fun _ _ => rfl, fun _ _ => rfl⟩, ⟨⟨rfl, rfl, fun _ _ => rfl, fun _ _ => rfl⟩, ⟨⟨rfl, rfl, fun _ _ => rfl, fun _ _ => rfl⟩, trivial⟩⟩⟩⟩⟩⟩
noncomputable def code_internal_strconv_formatBits : Code := Tryz.f68.body.getD .skip
noncomputable def spec_internal_strconv_formatBits : Spec E.S := (Con.add con_math_bits_TrailingZeros (Con.add con_internal_strconv_isPowerOfTwo noSpec))
theorem spec_internal_strconv_formatBits_ok : SpecOk E spec_internal_strconv_formatBits := (Con.add_ok con_math_bits_TrailingZeros_ok (Con.add_ok con_internal_strconv_isPowerOfTwo_ok noSpec_ok))
theorem good_internal_strconv_formatBits : ∀ pt r, run_internal_strconv_formatBits pt = some r → Good E Tryz.f68 code_internal_strconv_formatBits 0 (res_internal_strconv_formatBits.av r) (res_internal_strconv_formatBits.bx r) (place_internal_strconv_formatBits pt) (st_internal_strconv_formatBits pt) := by
  refine run_internal_strconv_formatBits.partial_correctness (fun pt r => Good E Tryz.f68 code_internal_strconv_formatBits 0 (res_internal_strconv_formatBits.av r) (res_internal_strconv_formatBits.bx r) (place_internal_strconv_formatBits pt) (st_internal_strconv_formatBits pt)) ?_
  intro run' ih pt r hr
  cases pt <;> exact fn_step (spec := spec_internal_strconv_formatBits) (wr := (fun i => mem i [12, 97, 100])) (l := tab_internal_strconv_formatBits) (z := 102) (p := res_internal_strconv_formatBits) E_ok tab_internal_strconv_formatBits_ok.mem rfl spec_internal_strconv_formatBits_ok ih (Eq.trans (by kernel_rfl) hr)
noncomputable def con_internal_strconv_formatBits : Con E := ⟨68, ((List Int) × (Int × (Int × (Bool × (Bool × Unit))))), Unit, (RwL.cons (Rw.sl 5) (RwL.cons (Rd.int .u64).w (RwL.cons (Rd.int .i64).w (RwL.cons Rd.bool.w (RwL.cons Rd.bool.w RwL.nil))))), RdBL.nil, 0, R_internal_strconv_formatBits, fun a b => run_internal_strconv_formatBits (.start a.1 a.2.1 a.2.2.1 a.2.2.2.1 a.2.2.2.2.1), res_internal_strconv_formatBits.av, res_internal_strconv_formatBits.bx⟩
theorem con_internal_strconv_formatBits_ok : con_internal_strconv_formatBits.Ok := fun a b r h => fn_ok (fn := Tryz.f68) (code := code_internal_strconv_formatBits) E_ok (by kernel_rfl) (by kernel_rfl) (by kernel_rfl) (Nat.le_of_ble_eq_true rfl) (good_internal_strconv_formatBits (.start a.1 a.2.1 a.2.2.1 a.2.2.2.1 a.2.2.2.2.1) r h)

/-! ### math/bits.Len64 -/
inductive P_math_bits_Len64 where
 | start (x0 : Int)
 | p7 (x0 : Int) (n2 : Int)
 | p15 (x0 : Int) (n2 : Int)
 | p31 (x0 : Int) (n2 : Int)
noncomputable def place_math_bits_Len64 : P_math_bits_Len64 → List Bool
 | .start .. => []
 | .p7 .. => [true, true]
 | .p15 .. => [true, true, true]
 | .p31 .. => [true, true, true, true]
noncomputable def st_math_bits_Len64 : P_math_bits_Len64 → St E.S
 | .start x0 => st0 25 [.v (.int .u64 x0)] []
 | .p7 x0 n2 => mkSt 25 [0, 2] [.v (.int .u64 x0), .v (.int .i64 n2)] []
 | .p15 x0 n2 => mkSt 25 [0, 2] [.v (.int .u64 x0), .v (.int .i64 n2)] []
 | .p31 x0 n2 => mkSt 25 [0, 2] [.v (.int .u64 x0), .v (.int .i64 n2)] []
abbrev R_math_bits_Len64 : Type := ((Int × Unit) × Unit)
noncomputable def res_math_bits_Len64 : Res E (Int × Unit) Unit := { rows := [], flat := [], keep := 0, rl := (RdL.cons (Rd.int .i64) RdL.nil), rb := RdBL.nil }
noncomputable def run_math_bits_Len64 : P_math_bits_Len64 → Option R_math_bits_Len64
 | .start x0 =>
   if (decide (x0 ≥ (4294967296 : Int))) = true then
     if (decide ((0 : Int) ≤ (32 : Int))) = true then
       run_math_bits_Len64 (.p7 (shr .u64 x0 (32 : Int)) (32 : Int))
     else none
   else
     run_math_bits_Len64 (.p7 x0 (0 : Int))
 | .p7 x0 n2 =>
   if (decide (x0 ≥ (65536 : Int))) = true then
     if (decide ((0 : Int) ≤ (16 : Int))) = true then
       run_math_bits_Len64 (.p15 (shr .u64 x0 (16 : Int)) (IntKind.wrap .i64 (n2 + (16 : Int))))
     else none
   else
     run_math_bits_Len64 (.p15 x0 n2)
 | .p15 x0 n2 =>
   if (decide (x0 ≥ (256 : Int))) = true then
     if (decide ((0 : Int) ≤ (8 : Int))) = true then
       run_math_bits_Len64 (.p31 (shr .u64 x0 (8 : Int)) (IntKind.wrap .i64 (n2 + (8 : Int))))
     else none
   else
     run_math_bits_Len64 (.p31 x0 n2)
 | .p31 x0 n2 =>
   (sidx (⟨#[0, 1, 2, 2, 3, 3, 3, 3, 4, 4, 4, 4, 4, 4, 4, 4, 5, 5, 5, 5, 5, 5, 5, 5, 5, 5, 5, 5, 5, 5, 5, 5, 6, 6, 6, 6, 6, 6, 6, 6, 6, 6, 6, 6, 6, 6, 6, 6, 6, 6, 6, 6, 6, 6, 6, 6, 6, 6, 6, 6, 6, 6, 6, 6, 7, 7, 7, 7, 7, 7, 7, 7, 7, 7, 7, 7, 7, 7, 7, 7, 7, 7, 7, 7, 7, 7, 7, 7, 7, 7, 7, 7, 7, 7, 7, 7, 7, 7, 7, 7, 7, 7, 7, 7, 7, 7, 7, 7, 7, 7, 7, 7, 7, 7, 7, 7, 7, 7, 7, 7, 7, 7, 7, 7, 7, 7, 7, 7, 8, 8, 8, 8, 8, 8, 8, 8, 8, 8, 8, 8, 8, 8, 8, 8, 8, 8, 8, 8, 8, 8, 8, 8, 8, 8, 8, 8, 8, 8, 8, 8, 8, 8, 8, 8, 8, 8, 8, 8, 8, 8, 8, 8, 8, 8, 8, 8, 8, 8, 8, 8, 8, 8, 8, 8, 8, 8, 8, 8, 8, 8, 8, 8, 8, 8, 8, 8, 8, 8, 8, 8, 8, 8, 8, 8, 8, 8, 8, 8, 8, 8, 8, 8, 8, 8, 8, 8, 8, 8, 8, 8, 8, 8, 8, 8, 8, 8, 8, 8, 8, 8, 8, 8, 8, 8, 8, 8, 8, 8, 8, 8, 8, 8, 8, 8, 8, 8, 8, 8, 8, 8, 8, 8, 8, 8, 8, 8]⟩ : ByteArray) (IntKind.wrap .u8 x0)) >>= fun t1 =>
   some ((IntKind.wrap .i64 (n2 + (IntKind.wrap .i64 t1)), ()), ())
  partial_fixpoint
noncomputable def tab_math_bits_Len64 : List (Plc E P_math_bits_Len64) := [⟨7, [true, true], { slots := [0, 2], rows := [], flat := [], keep := 0 }, (Int × (Int × Unit)), Unit, (RdL.cons (Rd.int .u64) (RdL.cons (Rd.int .i64) RdL.nil)), RdBL.nil, fun a b => .p7 a.1 a.2.1⟩,
  ⟨15, [true, true, true], { slots := [0, 2], rows := [], flat := [], keep := 0 }, (Int × (Int × Unit)), Unit, (RdL.cons (Rd.int .u64) (RdL.cons (Rd.int .i64) RdL.nil)), RdBL.nil, fun a b => .p15 a.1 a.2.1⟩,
  ⟨31, [true, true, true, true], { slots := [0, 2], rows := [], flat := [], keep := 0 }, (Int × (Int × Unit)), Unit, (RdL.cons (Rd.int .u64) (RdL.cons (Rd.int .i64) RdL.nil)), RdBL.nil, fun a b => .p31 a.1 a.2.1⟩]
theorem tab_math_bits_Len64_ok : All (PlcOk 25 0 place_math_bits_Len64 st_math_bits_Len64) tab_math_bits_Len64 := ⟨⟨rfl, rfl, fun _ _ => rfl, fun _ _ => rfl⟩, ⟨⟨rfl, rfl, fun _ _ => rfl, fun _ _ => rfl⟩, ⟨⟨rfl, rfl, fun _ _ => rfl, fun _ _ => rfl⟩, trivial⟩⟩⟩
noncomputable def code_math_bits_Len64 : Code := Tryz.f84.body.getD .skip
noncomputable def spec_math_bits_Len64 : Spec E.S := noSpec
theorem spec_math_bits_Len64_ok : SpecOk E spec_math_bits_Len64 := noSpec_ok
theorem good_math_bits_Len64 : ∀ pt r, run_math_bits_Len64 pt = some r → Good E Tryz.f84 code_math_bits_Len64 0 (res_math_bits_Len64.av r) (res_math_bits_Len64.bx r) (place_math_bits_Len64 pt) (st_math_bits_Len64 pt) := by
  refine run_math_bits_Len64.partial_correctness (fun pt r => Good E Tryz.f84 code_math_bits_Len64 0 (res_math_bits_Len64.av r) (res_math_bits_Len64.bx r) (place_math_bits_Len64 pt) (st_math_bits_Len64 pt)) ?_
  intro run' ih pt r hr
  cases pt <;> exact fn_step (spec := spec_math_bits_Len64) (wr := (fun i => mem i [])) (l := tab_math_bits_Len64) (z := 25) (p := res_math_bits_Len64) E_ok tab_math_bits_Len64_ok.mem rfl spec_math_bits_Len64_ok ih (Eq.trans (by kernel_rfl) hr)
noncomputable def con_math_bits_Len64 : Con E := ⟨84, (Int × Unit), Unit, (RwL.cons (Rd.int .u64).w RwL.nil), RdBL.nil, 0, R_math_bits_Len64, fun a b => run_math_bits_Len64 (.start a.1), res_math_bits_Len64.av, res_math_bits_Len64.bx⟩
theorem con_math_bits_Len64_ok : con_math_bits_Len64.Ok := fun a b r h => fn_ok (fn := Tryz.f84) (code := code_math_bits_Len64) E_ok (by kernel_rfl) (by kernel_rfl) (by kernel_rfl) (Nat.le_of_ble_eq_true rfl) (good_math_bits_Len64 (.start a.1) r h)

/-! ### internal/strconv.log10Pow2 -/
inductive P_internal_strconv_log10Pow2 where
 | start (x0 : Int)
noncomputable def place_internal_strconv_log10Pow2 : P_internal_strconv_log10Pow2 → List Bool
 | .start .. => []
noncomputable def st_internal_strconv_log10Pow2 : P_internal_strconv_log10Pow2 → St E.S
 | .start x0 => st0 6 [.v (.int .i64 x0)] []
abbrev R_internal_strconv_log10Pow2 : Type := ((Int × Unit) × Unit)
noncomputable def res_internal_strconv_log10Pow2 : Res E (Int × Unit) Unit := { rows := [], flat := [], keep := 0, rl := (RdL.cons (Rd.int .i64) RdL.nil), rb := RdBL.nil }
noncomputable def run_internal_strconv_log10Pow2 : P_internal_strconv_log10Pow2 → Option R_internal_strconv_log10Pow2
 | .start x0 =>
   if (decide ((0 : Int) ≤ (18 : Int))) = true then
     some ((shr .i64 (IntKind.wrap .i64 (x0 * (78913 : Int))) (18 : Int), ()), ())
   else none
noncomputable def tab_internal_strconv_log10Pow2 : List (Plc E P_internal_strconv_log10Pow2) := []
theorem tab_internal_strconv_log10Pow2_ok : All (PlcOk 6 0 place_internal_strconv_log10Pow2 st_internal_strconv_log10Pow2) tab_internal_strconv_log10Pow2 := trivial
noncomputable def code_internal_strconv_log10Pow2 : Code := Tryz.f83.body.getD .skip
noncomputable def spec_internal_strconv_log10Pow2 : Spec E.S := noSpec
theorem spec_internal_strconv_log10Pow2_ok : SpecOk E spec_internal_strconv_log10Pow2 := noSpec_ok
theorem good_internal_strconv_log10Pow2 : ∀ pt r, run_internal_strconv_log10Pow2 pt = some r → Good E Tryz.f83 code_internal_strconv_log10Pow2 0 (res_internal_strconv_log10Pow2.av r) (res_internal_strconv_log10Pow2.bx r) (place_internal_strconv_log10Pow2 pt) (st_internal_strconv_log10Pow2 pt) := by
  intro pt r hr
  cases pt <;> exact fn_step (spec := spec_internal_strconv_log10Pow2) (wr := (fun i => mem i [])) (l := tab_internal_strconv_log10Pow2) (z := 6) (p := res_internal_strconv_log10Pow2) (run' := fun _ => none) E_ok tab_internal_strconv_log10Pow2_ok.mem rfl spec_internal_strconv_log10Pow2_ok (fun _ _ h => by cases h) (Eq.trans (by kernel_rfl) hr)
noncomputable def con_internal_strconv_log10Pow2 : Con E := ⟨83, (Int × Unit), Unit, (RwL.cons (Rd.int .i64).w RwL.nil), RdBL.nil, 0, R_internal_strconv_log10Pow2, fun a b => run_internal_strconv_log10Pow2 (.start a.1), res_internal_strconv_log10Pow2.av, res_internal_strconv_log10Pow2.bx⟩
theorem con_internal_strconv_log10Pow2_ok : con_internal_strconv_log10Pow2.Ok := fun a b r h => fn_ok (fn := Tryz.f83) (code := code_internal_strconv_log10Pow2) E_ok (by kernel_rfl) (by kernel_rfl) (by kernel_rfl) (Nat.le_of_ble_eq_true rfl) (good_internal_strconv_log10Pow2 (.start a.1) r h)

/-! ### internal/strconv.bool2[int] -/
inductive P_internal_strconv_bool2_int where
 | start (b0 : Bool)
noncomputable def place_internal_strconv_bool2_int : P_internal_strconv_bool2_int → List Bool
 | .start .. => []
noncomputable def st_internal_strconv_bool2_int : P_internal_strconv_bool2_int → St E.S
 | .start b0 => st0 4 [.v (.bool b0)] []
abbrev R_internal_strconv_bool2_int : Type := ((Int × Unit) × Unit)
noncomputable def res_internal_strconv_bool2_int : Res E (Int × Unit) Unit := { rows := [], flat := [], keep := 0, rl := (RdL.cons (Rd.int .i64) RdL.nil), rb := RdBL.nil }
noncomputable def run_internal_strconv_bool2_int : P_internal_strconv_bool2_int → Option R_internal_strconv_bool2_int
 | .start b0 =>
   if b0 = true then
     some (((1 : Int), ()), ())
   else
     some (((0 : Int), ()), ())
noncomputable def tab_internal_strconv_bool2_int : List (Plc E P_internal_strconv_bool2_int) := []
theorem tab_internal_strconv_bool2_int_ok : All (PlcOk 4 0 place_internal_strconv_bool2_int st_internal_strconv_bool2_int) tab_internal_strconv_bool2_int := trivial
noncomputable def code_internal_strconv_bool2_int : Code := Tryz.f85.body.getD .skip
noncomputable def spec_internal_strconv_bool2_int : Spec E.S := noSpec
theorem spec_internal_strconv_bool2_int_ok : SpecOk E spec_internal_strconv_bool2_int := noSpec_ok
theorem good_internal_strconv_bool2_int : ∀ pt r, run_internal_strconv_bool2_int pt = some r → Good E Tryz.f85 code_internal_strconv_bool2_int 0 (res_internal_strconv_bool2_int.av r) (res_internal_strconv_bool2_int.bx r) (place_internal_strconv_bool2_int pt) (st_internal_strconv_bool2_int pt) := by
  intro pt r hr
  cases pt <;> exact fn_step (spec := spec_internal_strconv_bool2_int) (wr := (fun i => mem i [])) (l := tab_internal_strconv_bool2_int) (z := 4) (p := res_internal_strconv_bool2_int) (run' := fun _ => none) E_ok tab_internal_strconv_bool2_int_ok.mem rfl spec_internal_strconv_bool2_int_ok (fun _ _ h => by cases h) (Eq.trans (by kernel_rfl) hr)
noncomputable def con_internal_strconv_bool2_int : Con E := ⟨85, (Bool × Unit), Unit, (RwL.cons Rd.bool.w RwL.nil), RdBL.nil, 0, R_internal_strconv_bool2_int, fun a b => run_internal_strconv_bool2_int (.start a.1), res_internal_strconv_bool2_int.av, res_internal_strconv_bool2_int.bx⟩
theorem con_internal_strconv_bool2_int_ok : con_internal_strconv_bool2_int.Ok := fun a b r h => fn_ok (fn := Tryz.f85) (code := code_internal_strconv_bool2_int) E_ok (by kernel_rfl) (by kernel_rfl) (by kernel_rfl) (Nat.le_of_ble_eq_true rfl) (good_internal_strconv_bool2_int (.start a.1) r h)

/-! ### internal/strconv.numDigits -/
inductive P_internal_strconv_numDigits where
 | start (d0 : Int)
noncomputable def place_internal_strconv_numDigits : P_internal_strconv_numDigits → List Bool
 | .start .. => []
noncomputable def st_internal_strconv_numDigits : P_internal_strconv_numDigits → St E.S
 | .start d0 => st0 15 [.v (.int .u64 d0)] []
abbrev R_internal_strconv_numDigits : Type := ((Int × Unit) × Unit)
noncomputable def res_internal_strconv_numDigits : Res E (Int × Unit) Unit := { rows := [], flat := [], keep := 0, rl := (RdL.cons (Rd.int .i64) RdL.nil), rb := RdBL.nil }
noncomputable def run_internal_strconv_numDigits : P_internal_strconv_numDigits → Option R_internal_strconv_numDigits
 | .start d0 =>
   (run_math_bits_Len64 (.start d0)) >>= fun t1 =>
   (run_internal_strconv_log10Pow2 (.start t1.1.1)) >>= fun t2 =>
   (idx glob1 t2.1.1) >>= fun t3 =>
   (run_internal_strconv_bool2_int (.start (decide (d0 ≥ t3)))) >>= fun t4 =>
   some ((IntKind.wrap .i64 (t2.1.1 + t4.1.1), ()), ())
noncomputable def tab_internal_strconv_numDigits : List (Plc E P_internal_strconv_numDigits) := []
theorem tab_internal_strconv_numDigits_ok : All (PlcOk 15 0 place_internal_strconv_numDigits st_internal_strconv_numDigits) tab_internal_strconv_numDigits := trivial
noncomputable def code_internal_strconv_numDigits : Code := Tryz.f66.body.getD .skip
noncomputable def spec_internal_strconv_numDigits : Spec E.S := (Con.add con_internal_strconv_bool2_int (Con.add con_internal_strconv_log10Pow2 (Con.add con_math_bits_Len64 noSpec)))
theorem spec_internal_strconv_numDigits_ok : SpecOk E spec_internal_strconv_numDigits := (Con.add_ok con_internal_strconv_bool2_int_ok (Con.add_ok con_internal_strconv_log10Pow2_ok (Con.add_ok con_math_bits_Len64_ok noSpec_ok)))
theorem good_internal_strconv_numDigits : ∀ pt r, run_internal_strconv_numDigits pt = some r → Good E Tryz.f66 code_internal_strconv_numDigits 0 (res_internal_strconv_numDigits.av r) (res_internal_strconv_numDigits.bx r) (place_internal_strconv_numDigits pt) (st_internal_strconv_numDigits pt) := by
  intro pt r hr
  cases pt <;> exact fn_step (spec := spec_internal_strconv_numDigits) (wr := (fun i => mem i [])) (l := tab_internal_strconv_numDigits) (z := 15) (p := res_internal_strconv_numDigits) (run' := fun _ => none) E_ok tab_internal_strconv_numDigits_ok.mem rfl spec_internal_strconv_numDigits_ok (fun _ _ h => by cases h) (Eq.trans (by kernel_rfl) hr)
noncomputable def con_internal_strconv_numDigits : Con E := ⟨66, (Int × Unit), Unit, (RwL.cons (Rd.int .u64).w RwL.nil), RdBL.nil, 0, R_internal_strconv_numDigits, fun a b => run_internal_strconv_numDigits (.start a.1), res_internal_strconv_numDigits.av, res_internal_strconv_numDigits.bx⟩
theorem con_internal_strconv_numDigits_ok : con_internal_strconv_numDigits.Ok := fun a b r h => fn_ok (fn := Tryz.f66) (code := code_internal_strconv_numDigits) E_ok (by kernel_rfl) (by kernel_rfl) (by kernel_rfl) (Nat.le_of_ble_eq_true rfl) (good_internal_strconv_numDigits (.start a.1) r h)

/-! ### internal/strconv.formatBase10 -/
inductive P_internal_strconv_formatBase10 where
 | start (a0 : (Nat × Nat)) (u1 : Int) (B0 : (List Int))
 | p24 (a0 : (Nat × Nat)) (u1 : Int) (nd4 : Int) (B0 : (List Int))
 | p31 (a0 : (Nat × Nat)) (nd4 : Int) (x12 : Int) (B0 : (List Int))
 | p63 (a0 : (Nat × Nat)) (nd4 : Int) (x12 : Int) (B0 : (List Int))
noncomputable def place_internal_strconv_formatBase10 : P_internal_strconv_formatBase10 → List Bool
 | .start .. => []
 | .p24 .. => [false, false, false, true]
 | .p31 .. => [true, true, true, true]
 | .p63 .. => [true, true, true, true, true]
noncomputable def st_internal_strconv_formatBase10 : P_internal_strconv_formatBase10 → St E.S
 | .start a0 u1 B0 => st0 167 [.ws 0 5 a0, .v (.int .u64 u1)] [.row 5 B0 false]
 | .p24 a0 u1 nd4 B0 => mkSt 167 [0, 1, 4] [.ws 0 5 a0, .v (.int .u64 u1), .v (.int .i64 nd4)] [.row 5 B0 false]
 | .p31 a0 nd4 x12 B0 => mkSt 167 [0, 4, 12] [.ws 0 5 a0, .v (.int .i64 nd4), .v (.int .u32 x12)] [.row 5 B0 false]
 | .p63 a0 nd4 x12 B0 => mkSt 167 [0, 4, 12] [.ws 0 5 a0, .v (.int .i64 nd4), .v (.int .u32 x12)] [.row 5 B0 false]
abbrev R_internal_strconv_formatBase10 : Type := (Unit × Unit)
noncomputable def res_internal_strconv_formatBase10 : Res E Unit Unit := { rows := [], flat := [], keep := 0, rl := RdL.nil, rb := RdBL.nil }
noncomputable def run_internal_strconv_formatBase10 : P_internal_strconv_formatBase10 → Option R_internal_strconv_formatBase10
 | .start a0 u1 B0 =>
   run_internal_strconv_formatBase10 (.p24 a0 u1 ((a0.2 - a0.1 : Nat) : Int) B0)
 | .p24 a0 u1 nd4 B0 =>
   if (decide (nd4 ≥ (8 : Int))) = true then
     if (!((100000000 : Int) == (0 : Int))) = true then
       if (!((100000000 : Int) == (0 : Int))) = true then
         if (!((10000 : Int) == (0 : Int))) = true then
           if (!((10000 : Int) == (0 : Int))) = true then
             if (!((100 : Int) == (0 : Int))) = true then
               if (!((100 : Int) == (0 : Int))) = true then
                 if (!((100 : Int) == (0 : Int))) = true then
                   if (!((100 : Int) == (0 : Int))) = true then
                     (sidx (⟨#[48, 48, 48, 49, 48, 50, 48, 51, 48, 52, 48, 53, 48, 54, 48, 55, 48, 56, 48, 57, 49, 48, 49, 49, 49, 50, 49, 51, 49, 52, 49, 53, 49, 54, 49, 55, 49, 56, 49, 57, 50, 48, 50, 49, 50, 50, 50, 51, 50, 52, 50, 53, 50, 54, 50, 55, 50, 56, 50, 57, 51, 48, 51, 49, 51, 50, 51, 51, 51, 52, 51, 53, 51, 54, 51, 55, 51, 56, 51, 57, 52, 48, 52, 49, 52, 50, 52, 51, 52, 52, 52, 53, 52, 54, 52, 55, 52, 56, 52, 57, 53, 48, 53, 49, 53, 50, 53, 51, 53, 52, 53, 53, 53, 54, 53, 55, 53, 56, 53, 57, 54, 48, 54, 49, 54, 50, 54, 51, 54, 52, 54, 53, 54, 54, 54, 55, 54, 56, 54, 57, 55, 48, 55, 49, 55, 50, 55, 51, 55, 52, 55, 53, 55, 54, 55, 55, 55, 56, 55, 57, 56, 48, 56, 49, 56, 50, 56, 51, 56, 52, 56, 53, 56, 54, 56, 55, 56, 56, 56, 57, 57, 48, 57, 49, 57, 50, 57, 51, 57, 52, 57, 53, 57, 54, 57, 55, 57, 56, 57, 57]⟩ : ByteArray) (IntKind.wrap .u32 ((IntKind.wrap .u32 ((Int.tmod (Int.tmod (IntKind.wrap .u32 (Int.tmod u1 (100000000 : Int))) (10000 : Int)) (100 : Int)) * (2 : Int))) + (1 : Int)))) >>= fun t1 =>
                     (sidx (⟨#[48, 48, 48, 49, 48, 50, 48, 51, 48, 52, 48, 53, 48, 54, 48, 55, 48, 56, 48, 57, 49, 48, 49, 49, 49, 50, 49, 51, 49, 52, 49, 53, 49, 54, 49, 55, 49, 56, 49, 57, 50, 48, 50, 49, 50, 50, 50, 51, 50, 52, 50, 53, 50, 54, 50, 55, 50, 56, 50, 57, 51, 48, 51, 49, 51, 50, 51, 51, 51, 52, 51, 53, 51, 54, 51, 55, 51, 56, 51, 57, 52, 48, 52, 49, 52, 50, 52, 51, 52, 52, 52, 53, 52, 54, 52, 55, 52, 56, 52, 57, 53, 48, 53, 49, 53, 50, 53, 51, 53, 52, 53, 53, 53, 54, 53, 55, 53, 56, 53, 57, 54, 48, 54, 49, 54, 50, 54, 51, 54, 52, 54, 53, 54, 54, 54, 55, 54, 56, 54, 57, 55, 48, 55, 49, 55, 50, 55, 51, 55, 52, 55, 53, 55, 54, 55, 55, 55, 56, 55, 57, 56, 48, 56, 49, 56, 50, 56, 51, 56, 52, 56, 53, 56, 54, 56, 55, 56, 56, 56, 57, 57, 48, 57, 49, 57, 50, 57, 51, 57, 52, 57, 53, 57, 54, 57, 55, 57, 56, 57, 57]⟩ : ByteArray) (IntKind.wrap .u32 ((Int.tmod (Int.tmod (IntKind.wrap .u32 (Int.tmod u1 (100000000 : Int))) (10000 : Int)) (100 : Int)) * (2 : Int)))) >>= fun t2 =>
                     if (decide ((0 : Int) ≤ (IntKind.wrap .i64 (nd4 - (1 : Int)))) && decide ((IntKind.wrap .i64 (nd4 - (1 : Int))) < ((a0.2 - a0.1 : Nat) : Int))) = true then
                       (idx B0 ((a0.1 : Int) + (IntKind.wrap .i64 (nd4 - (1 : Int))))) >>= fun t3 =>
                       if (decide ((0 : Int) ≤ (IntKind.wrap .i64 (nd4 - (2 : Int)))) && decide ((IntKind.wrap .i64 (nd4 - (2 : Int))) < ((a0.2 - a0.1 : Nat) : Int))) = true then
                         (idx (List.set B0 (Int.toNat ((a0.1 : Int) + (IntKind.wrap .i64 (nd4 - (1 : Int))))) t1) ((a0.1 : Int) + (IntKind.wrap .i64 (nd4 - (2 : Int))))) >>= fun t4 =>
                         (sidx (⟨#[48, 48, 48, 49, 48, 50, 48, 51, 48, 52, 48, 53, 48, 54, 48, 55, 48, 56, 48, 57, 49, 48, 49, 49, 49, 50, 49, 51, 49, 52, 49, 53, 49, 54, 49, 55, 49, 56, 49, 57, 50, 48, 50, 49, 50, 50, 50, 51, 50, 52, 50, 53, 50, 54, 50, 55, 50, 56, 50, 57, 51, 48, 51, 49, 51, 50, 51, 51, 51, 52, 51, 53, 51, 54, 51, 55, 51, 56, 51, 57, 52, 48, 52, 49, 52, 50, 52, 51, 52, 52, 52, 53, 52, 54, 52, 55, 52, 56, 52, 57, 53, 48, 53, 49, 53, 50, 53, 51, 53, 52, 53, 53, 53, 54, 53, 55, 53, 56, 53, 57, 54, 48, 54, 49, 54, 50, 54, 51, 54, 52, 54, 53, 54, 54, 54, 55, 54, 56, 54, 57, 55, 48, 55, 49, 55, 50, 55, 51, 55, 52, 55, 53, 55, 54, 55, 55, 55, 56, 55, 57, 56, 48, 56, 49, 56, 50, 56, 51, 56, 52, 56, 53, 56, 54, 56, 55, 56, 56, 56, 57, 57, 48, 57, 49, 57, 50, 57, 51, 57, 52, 57, 53, 57, 54, 57, 55, 57, 56, 57, 57]⟩ : ByteArray) (IntKind.wrap .u32 ((IntKind.wrap .u32 ((IntKind.wrap .u32 (Int.tdiv (Int.tmod (IntKind.wrap .u32 (Int.tmod u1 (100000000 : Int))) (10000 : Int)) (100 : Int))) * (2 : Int))) + (1 : Int)))) >>= fun t5 =>
                         (sidx (⟨#[48, 48, 48, 49, 48, 50, 48, 51, 48, 52, 48, 53, 48, 54, 48, 55, 48, 56, 48, 57, 49, 48, 49, 49, 49, 50, 49, 51, 49, 52, 49, 53, 49, 54, 49, 55, 49, 56, 49, 57, 50, 48, 50, 49, 50, 50, 50, 51, 50, 52, 50, 53, 50, 54, 50, 55, 50, 56, 50, 57, 51, 48, 51, 49, 51, 50, 51, 51, 51, 52, 51, 53, 51, 54, 51, 55, 51, 56, 51, 57, 52, 48, 52, 49, 52, 50, 52, 51, 52, 52, 52, 53, 52, 54, 52, 55, 52, 56, 52, 57, 53, 48, 53, 49, 53, 50, 53, 51, 53, 52, 53, 53, 53, 54, 53, 55, 53, 56, 53, 57, 54, 48, 54, 49, 54, 50, 54, 51, 54, 52, 54, 53, 54, 54, 54, 55, 54, 56, 54, 57, 55, 48, 55, 49, 55, 50, 55, 51, 55, 52, 55, 53, 55, 54, 55, 55, 55, 56, 55, 57, 56, 48, 56, 49, 56, 50, 56, 51, 56, 52, 56, 53, 56, 54, 56, 55, 56, 56, 56, 57, 57, 48, 57, 49, 57, 50, 57, 51, 57, 52, 57, 53, 57, 54, 57, 55, 57, 56, 57, 57]⟩ : ByteArray) (IntKind.wrap .u32 ((IntKind.wrap .u32 (Int.tdiv (Int.tmod (IntKind.wrap .u32 (Int.tmod u1 (100000000 : Int))) (10000 : Int)) (100 : Int))) * (2 : Int)))) >>= fun t6 =>
                         if (decide ((0 : Int) ≤ (IntKind.wrap .i64 (nd4 - (3 : Int)))) && decide ((IntKind.wrap .i64 (nd4 - (3 : Int))) < ((a0.2 - a0.1 : Nat) : Int))) = true then
                           (idx (List.set (List.set B0 (Int.toNat ((a0.1 : Int) + (IntKind.wrap .i64 (nd4 - (1 : Int))))) t1) (Int.toNat ((a0.1 : Int) + (IntKind.wrap .i64 (nd4 - (2 : Int))))) t2) ((a0.1 : Int) + (IntKind.wrap .i64 (nd4 - (3 : Int))))) >>= fun t7 =>
                           if (decide ((0 : Int) ≤ (IntKind.wrap .i64 (nd4 - (4 : Int)))) && decide ((IntKind.wrap .i64 (nd4 - (4 : Int))) < ((a0.2 - a0.1 : Nat) : Int))) = true then
                             (idx (List.set (List.set (List.set B0 (Int.toNat ((a0.1 : Int) + (IntKind.wrap .i64 (nd4 - (1 : Int))))) t1) (Int.toNat ((a0.1 : Int) + (IntKind.wrap .i64 (nd4 - (2 : Int))))) t2) (Int.toNat ((a0.1 : Int) + (IntKind.wrap .i64 (nd4 - (3 : Int))))) t5) ((a0.1 : Int) + (IntKind.wrap .i64 (nd4 - (4 : Int))))) >>= fun t8 =>
                             (sidx (⟨#[48, 48, 48, 49, 48, 50, 48, 51, 48, 52, 48, 53, 48, 54, 48, 55, 48, 56, 48, 57, 49, 48, 49, 49, 49, 50, 49, 51, 49, 52, 49, 53, 49, 54, 49, 55, 49, 56, 49, 57, 50, 48, 50, 49, 50, 50, 50, 51, 50, 52, 50, 53, 50, 54, 50, 55, 50, 56, 50, 57, 51, 48, 51, 49, 51, 50, 51, 51, 51, 52, 51, 53, 51, 54, 51, 55, 51, 56, 51, 57, 52, 48, 52, 49, 52, 50, 52, 51, 52, 52, 52, 53, 52, 54, 52, 55, 52, 56, 52, 57, 53, 48, 53, 49, 53, 50, 53, 51, 53, 52, 53, 53, 53, 54, 53, 55, 53, 56, 53, 57, 54, 48, 54, 49, 54, 50, 54, 51, 54, 52, 54, 53, 54, 54, 54, 55, 54, 56, 54, 57, 55, 48, 55, 49, 55, 50, 55, 51, 55, 52, 55, 53, 55, 54, 55, 55, 55, 56, 55, 57, 56, 48, 56, 49, 56, 50, 56, 51, 56, 52, 56, 53, 56, 54, 56, 55, 56, 56, 56, 57, 57, 48, 57, 49, 57, 50, 57, 51, 57, 52, 57, 53, 57, 54, 57, 55, 57, 56, 57, 57]⟩ : ByteArray) (IntKind.wrap .u32 ((IntKind.wrap .u32 ((Int.tmod (IntKind.wrap .u32 (Int.tdiv (IntKind.wrap .u32 (Int.tmod u1 (100000000 : Int))) (10000 : Int))) (100 : Int)) * (2 : Int))) + (1 : Int)))) >>= fun t9 =>
                             (sidx (⟨#[48, 48, 48, 49, 48, 50, 48, 51, 48, 52, 48, 53, 48, 54, 48, 55, 48, 56, 48, 57, 49, 48, 49, 49, 49, 50, 49, 51, 49, 52, 49, 53, 49, 54, 49, 55, 49, 56, 49, 57, 50, 48, 50, 49, 50, 50, 50, 51, 50, 52, 50, 53, 50, 54, 50, 55, 50, 56, 50, 57, 51, 48, 51, 49, 51, 50, 51, 51, 51, 52, 51, 53, 51, 54, 51, 55, 51, 56, 51, 57, 52, 48, 52, 49, 52, 50, 52, 51, 52, 52, 52, 53, 52, 54, 52, 55, 52, 56, 52, 57, 53, 48, 53, 49, 53, 50, 53, 51, 53, 52, 53, 53, 53, 54, 53, 55, 53, 56, 53, 57, 54, 48, 54, 49, 54, 50, 54, 51, 54, 52, 54, 53, 54, 54, 54, 55, 54, 56, 54, 57, 55, 48, 55, 49, 55, 50, 55, 51, 55, 52, 55, 53, 55, 54, 55, 55, 55, 56, 55, 57, 56, 48, 56, 49, 56, 50, 56, 51, 56, 52, 56, 53, 56, 54, 56, 55, 56, 56, 56, 57, 57, 48, 57, 49, 57, 50, 57, 51, 57, 52, 57, 53, 57, 54, 57, 55, 57, 56, 57, 57]⟩ : ByteArray) (IntKind.wrap .u32 ((Int.tmod (IntKind.wrap .u32 (Int.tdiv (IntKind.wrap .u32 (Int.tmod u1 (100000000 : Int))) (10000 : Int))) (100 : Int)) * (2 : Int)))) >>= fun t10 =>
                             if (decide ((0 : Int) ≤ (IntKind.wrap .i64 (nd4 - (5 : Int)))) && decide ((IntKind.wrap .i64 (nd4 - (5 : Int))) < ((a0.2 - a0.1 : Nat) : Int))) = true then
                               (idx (List.set (List.set (List.set (List.set B0 (Int.toNat ((a0.1 : Int) + (IntKind.wrap .i64 (nd4 - (1 : Int))))) t1) (Int.toNat ((a0.1 : Int) + (IntKind.wrap .i64 (nd4 - (2 : Int))))) t2) (Int.toNat ((a0.1 : Int) + (IntKind.wrap .i64 (nd4 - (3 : Int))))) t5) (Int.toNat ((a0.1 : Int) + (IntKind.wrap .i64 (nd4 - (4 : Int))))) t6) ((a0.1 : Int) + (IntKind.wrap .i64 (nd4 - (5 : Int))))) >>= fun t11 =>
                               if (decide ((0 : Int) ≤ (IntKind.wrap .i64 (nd4 - (6 : Int)))) && decide ((IntKind.wrap .i64 (nd4 - (6 : Int))) < ((a0.2 - a0.1 : Nat) : Int))) = true then
                                 (idx (List.set (List.set (List.set (List.set (List.set B0 (Int.toNat ((a0.1 : Int) + (IntKind.wrap .i64 (nd4 - (1 : Int))))) t1) (Int.toNat ((a0.1 : Int) + (IntKind.wrap .i64 (nd4 - (2 : Int))))) t2) (Int.toNat ((a0.1 : Int) + (IntKind.wrap .i64 (nd4 - (3 : Int))))) t5) (Int.toNat ((a0.1 : Int) + (IntKind.wrap .i64 (nd4 - (4 : Int))))) t6) (Int.toNat ((a0.1 : Int) + (IntKind.wrap .i64 (nd4 - (5 : Int))))) t9) ((a0.1 : Int) + (IntKind.wrap .i64 (nd4 - (6 : Int))))) >>= fun t12 =>
                                 (sidx (⟨#[48, 48, 48, 49, 48, 50, 48, 51, 48, 52, 48, 53, 48, 54, 48, 55, 48, 56, 48, 57, 49, 48, 49, 49, 49, 50, 49, 51, 49, 52, 49, 53, 49, 54, 49, 55, 49, 56, 49, 57, 50, 48, 50, 49, 50, 50, 50, 51, 50, 52, 50, 53, 50, 54, 50, 55, 50, 56, 50, 57, 51, 48, 51, 49, 51, 50, 51, 51, 51, 52, 51, 53, 51, 54, 51, 55, 51, 56, 51, 57, 52, 48, 52, 49, 52, 50, 52, 51, 52, 52, 52, 53, 52, 54, 52, 55, 52, 56, 52, 57, 53, 48, 53, 49, 53, 50, 53, 51, 53, 52, 53, 53, 53, 54, 53, 55, 53, 56, 53, 57, 54, 48, 54, 49, 54, 50, 54, 51, 54, 52, 54, 53, 54, 54, 54, 55, 54, 56, 54, 57, 55, 48, 55, 49, 55, 50, 55, 51, 55, 52, 55, 53, 55, 54, 55, 55, 55, 56, 55, 57, 56, 48, 56, 49, 56, 50, 56, 51, 56, 52, 56, 53, 56, 54, 56, 55, 56, 56, 56, 57, 57, 48, 57, 49, 57, 50, 57, 51, 57, 52, 57, 53, 57, 54, 57, 55, 57, 56, 57, 57]⟩ : ByteArray) (IntKind.wrap .u32 ((IntKind.wrap .u32 ((IntKind.wrap .u32 (Int.tdiv (IntKind.wrap .u32 (Int.tdiv (IntKind.wrap .u32 (Int.tmod u1 (100000000 : Int))) (10000 : Int))) (100 : Int))) * (2 : Int))) + (1 : Int)))) >>= fun t13 =>
                                 (sidx (⟨#[48, 48, 48, 49, 48, 50, 48, 51, 48, 52, 48, 53, 48, 54, 48, 55, 48, 56, 48, 57, 49, 48, 49, 49, 49, 50, 49, 51, 49, 52, 49, 53, 49, 54, 49, 55, 49, 56, 49, 57, 50, 48, 50, 49, 50, 50, 50, 51, 50, 52, 50, 53, 50, 54, 50, 55, 50, 56, 50, 57, 51, 48, 51, 49, 51, 50, 51, 51, 51, 52, 51, 53, 51, 54, 51, 55, 51, 56, 51, 57, 52, 48, 52, 49, 52, 50, 52, 51, 52, 52, 52, 53, 52, 54, 52, 55, 52, 56, 52, 57, 53, 48, 53, 49, 53, 50, 53, 51, 53, 52, 53, 53, 53, 54, 53, 55, 53, 56, 53, 57, 54, 48, 54, 49, 54, 50, 54, 51, 54, 52, 54, 53, 54, 54, 54, 55, 54, 56, 54, 57, 55, 48, 55, 49, 55, 50, 55, 51, 55, 52, 55, 53, 55, 54, 55, 55, 55, 56, 55, 57, 56, 48, 56, 49, 56, 50, 56, 51, 56, 52, 56, 53, 56, 54, 56, 55, 56, 56, 56, 57, 57, 48, 57, 49, 57, 50, 57, 51, 57, 52, 57, 53, 57, 54, 57, 55, 57, 56, 57, 57]⟩ : ByteArray) (IntKind.wrap .u32 ((IntKind.wrap .u32 (Int.tdiv (IntKind.wrap .u32 (Int.tdiv (IntKind.wrap .u32 (Int.tmod u1 (100000000 : Int))) (10000 : Int))) (100 : Int))) * (2 : Int)))) >>= fun t14 =>
                                 if (decide ((0 : Int) ≤ (IntKind.wrap .i64 (nd4 - (7 : Int)))) && decide ((IntKind.wrap .i64 (nd4 - (7 : Int))) < ((a0.2 - a0.1 : Nat) : Int))) = true then
                                   (idx (List.set (List.set (List.set (List.set (List.set (List.set B0 (Int.toNat ((a0.1 : Int) + (IntKind.wrap .i64 (nd4 - (1 : Int))))) t1) (Int.toNat ((a0.1 : Int) + (IntKind.wrap .i64 (nd4 - (2 : Int))))) t2) (Int.toNat ((a0.1 : Int) + (IntKind.wrap .i64 (nd4 - (3 : Int))))) t5) (Int.toNat ((a0.1 : Int) + (IntKind.wrap .i64 (nd4 - (4 : Int))))) t6) (Int.toNat ((a0.1 : Int) + (IntKind.wrap .i64 (nd4 - (5 : Int))))) t9) (Int.toNat ((a0.1 : Int) + (IntKind.wrap .i64 (nd4 - (6 : Int))))) t10) ((a0.1 : Int) + (IntKind.wrap .i64 (nd4 - (7 : Int))))) >>= fun t15 =>
                                   if (decide ((0 : Int) ≤ (IntKind.wrap .i64 (nd4 - (8 : Int)))) && decide ((IntKind.wrap .i64 (nd4 - (8 : Int))) < ((a0.2 - a0.1 : Nat) : Int))) = true then
                                     (idx (List.set (List.set (List.set (List.set (List.set (List.set (List.set B0 (Int.toNat ((a0.1 : Int) + (IntKind.wrap .i64 (nd4 - (1 : Int))))) t1) (Int.toNat ((a0.1 : Int) + (IntKind.wrap .i64 (nd4 - (2 : Int))))) t2) (Int.toNat ((a0.1 : Int) + (IntKind.wrap .i64 (nd4 - (3 : Int))))) t5) (Int.toNat ((a0.1 : Int) + (IntKind.wrap .i64 (nd4 - (4 : Int))))) t6) (Int.toNat ((a0.1 : Int) + (IntKind.wrap .i64 (nd4 - (5 : Int))))) t9) (Int.toNat ((a0.1 : Int) + (IntKind.wrap .i64 (nd4 - (6 : Int))))) t10) (Int.toNat ((a0.1 : Int) + (IntKind.wrap .i64 (nd4 - (7 : Int))))) t13) ((a0.1 : Int) + (IntKind.wrap .i64 (nd4 - (8 : Int))))) >>= fun t16 =>
                                     run_internal_strconv_formatBase10 (.p24 a0 (IntKind.wrap .u64 (Int.tdiv u1 (100000000 : Int))) (IntKind.wrap .i64 (nd4 - (8 : Int))) (List.set (List.set (List.set (List.set (List.set (List.set (List.set (List.set B0 (Int.toNat ((a0.1 : Int) + (IntKind.wrap .i64 (nd4 - (1 : Int))))) t1) (Int.toNat ((a0.1 : Int) + (IntKind.wrap .i64 (nd4 - (2 : Int))))) t2) (Int.toNat ((a0.1 : Int) + (IntKind.wrap .i64 (nd4 - (3 : Int))))) t5) (Int.toNat ((a0.1 : Int) + (IntKind.wrap .i64 (nd4 - (4 : Int))))) t6) (Int.toNat ((a0.1 : Int) + (IntKind.wrap .i64 (nd4 - (5 : Int))))) t9) (Int.toNat ((a0.1 : Int) + (IntKind.wrap .i64 (nd4 - (6 : Int))))) t10) (Int.toNat ((a0.1 : Int) + (IntKind.wrap .i64 (nd4 - (7 : Int))))) t13) (Int.toNat ((a0.1 : Int) + (IntKind.wrap .i64 (nd4 - (8 : Int))))) t14))
                                   else none
                                 else none
                               else none
                             else none
                           else none
                         else none
                       else none
                     else none
                   else none
                 else none
               else none
             else none
           else none
         else none
       else none
     else none
   else
     if (decide (nd4 ≥ (4 : Int))) = true then
       if (!((10000 : Int) == (0 : Int))) = true then
         if (!((10000 : Int) == (0 : Int))) = true then
           if (!((100 : Int) == (0 : Int))) = true then
             if (!((100 : Int) == (0 : Int))) = true then
               (sidx (⟨#[48, 48, 48, 49, 48, 50, 48, 51, 48, 52, 48, 53, 48, 54, 48, 55, 48, 56, 48, 57, 49, 48, 49, 49, 49, 50, 49, 51, 49, 52, 49, 53, 49, 54, 49, 55, 49, 56, 49, 57, 50, 48, 50, 49, 50, 50, 50, 51, 50, 52, 50, 53, 50, 54, 50, 55, 50, 56, 50, 57, 51, 48, 51, 49, 51, 50, 51, 51, 51, 52, 51, 53, 51, 54, 51, 55, 51, 56, 51, 57, 52, 48, 52, 49, 52, 50, 52, 51, 52, 52, 52, 53, 52, 54, 52, 55, 52, 56, 52, 57, 53, 48, 53, 49, 53, 50, 53, 51, 53, 52, 53, 53, 53, 54, 53, 55, 53, 56, 53, 57, 54, 48, 54, 49, 54, 50, 54, 51, 54, 52, 54, 53, 54, 54, 54, 55, 54, 56, 54, 57, 55, 48, 55, 49, 55, 50, 55, 51, 55, 52, 55, 53, 55, 54, 55, 55, 55, 56, 55, 57, 56, 48, 56, 49, 56, 50, 56, 51, 56, 52, 56, 53, 56, 54, 56, 55, 56, 56, 56, 57, 57, 48, 57, 49, 57, 50, 57, 51, 57, 52, 57, 53, 57, 54, 57, 55, 57, 56, 57, 57]⟩ : ByteArray) (IntKind.wrap .u32 ((IntKind.wrap .u32 ((Int.tmod (Int.tmod (IntKind.wrap .u32 u1) (10000 : Int)) (100 : Int)) * (2 : Int))) + (1 : Int)))) >>= fun t17 =>
               (sidx (⟨#[48, 48, 48, 49, 48, 50, 48, 51, 48, 52, 48, 53, 48, 54, 48, 55, 48, 56, 48, 57, 49, 48, 49, 49, 49, 50, 49, 51, 49, 52, 49, 53, 49, 54, 49, 55, 49, 56, 49, 57, 50, 48, 50, 49, 50, 50, 50, 51, 50, 52, 50, 53, 50, 54, 50, 55, 50, 56, 50, 57, 51, 48, 51, 49, 51, 50, 51, 51, 51, 52, 51, 53, 51, 54, 51, 55, 51, 56, 51, 57, 52, 48, 52, 49, 52, 50, 52, 51, 52, 52, 52, 53, 52, 54, 52, 55, 52, 56, 52, 57, 53, 48, 53, 49, 53, 50, 53, 51, 53, 52, 53, 53, 53, 54, 53, 55, 53, 56, 53, 57, 54, 48, 54, 49, 54, 50, 54, 51, 54, 52, 54, 53, 54, 54, 54, 55, 54, 56, 54, 57, 55, 48, 55, 49, 55, 50, 55, 51, 55, 52, 55, 53, 55, 54, 55, 55, 55, 56, 55, 57, 56, 48, 56, 49, 56, 50, 56, 51, 56, 52, 56, 53, 56, 54, 56, 55, 56, 56, 56, 57, 57, 48, 57, 49, 57, 50, 57, 51, 57, 52, 57, 53, 57, 54, 57, 55, 57, 56, 57, 57]⟩ : ByteArray) (IntKind.wrap .u32 ((Int.tmod (Int.tmod (IntKind.wrap .u32 u1) (10000 : Int)) (100 : Int)) * (2 : Int)))) >>= fun t18 =>
               if (decide ((0 : Int) ≤ (IntKind.wrap .i64 (nd4 - (1 : Int)))) && decide ((IntKind.wrap .i64 (nd4 - (1 : Int))) < ((a0.2 - a0.1 : Nat) : Int))) = true then
                 (idx B0 ((a0.1 : Int) + (IntKind.wrap .i64 (nd4 - (1 : Int))))) >>= fun t19 =>
                 if (decide ((0 : Int) ≤ (IntKind.wrap .i64 (nd4 - (2 : Int)))) && decide ((IntKind.wrap .i64 (nd4 - (2 : Int))) < ((a0.2 - a0.1 : Nat) : Int))) = true then
                   (idx (List.set B0 (Int.toNat ((a0.1 : Int) + (IntKind.wrap .i64 (nd4 - (1 : Int))))) t17) ((a0.1 : Int) + (IntKind.wrap .i64 (nd4 - (2 : Int))))) >>= fun t20 =>
                   (sidx (⟨#[48, 48, 48, 49, 48, 50, 48, 51, 48, 52, 48, 53, 48, 54, 48, 55, 48, 56, 48, 57, 49, 48, 49, 49, 49, 50, 49, 51, 49, 52, 49, 53, 49, 54, 49, 55, 49, 56, 49, 57, 50, 48, 50, 49, 50, 50, 50, 51, 50, 52, 50, 53, 50, 54, 50, 55, 50, 56, 50, 57, 51, 48, 51, 49, 51, 50, 51, 51, 51, 52, 51, 53, 51, 54, 51, 55, 51, 56, 51, 57, 52, 48, 52, 49, 52, 50, 52, 51, 52, 52, 52, 53, 52, 54, 52, 55, 52, 56, 52, 57, 53, 48, 53, 49, 53, 50, 53, 51, 53, 52, 53, 53, 53, 54, 53, 55, 53, 56, 53, 57, 54, 48, 54, 49, 54, 50, 54, 51, 54, 52, 54, 53, 54, 54, 54, 55, 54, 56, 54, 57, 55, 48, 55, 49, 55, 50, 55, 51, 55, 52, 55, 53, 55, 54, 55, 55, 55, 56, 55, 57, 56, 48, 56, 49, 56, 50, 56, 51, 56, 52, 56, 53, 56, 54, 56, 55, 56, 56, 56, 57, 57, 48, 57, 49, 57, 50, 57, 51, 57, 52, 57, 53, 57, 54, 57, 55, 57, 56, 57, 57]⟩ : ByteArray) (IntKind.wrap .u32 ((IntKind.wrap .u32 ((IntKind.wrap .u32 (Int.tdiv (Int.tmod (IntKind.wrap .u32 u1) (10000 : Int)) (100 : Int))) * (2 : Int))) + (1 : Int)))) >>= fun t21 =>
                   (sidx (⟨#[48, 48, 48, 49, 48, 50, 48, 51, 48, 52, 48, 53, 48, 54, 48, 55, 48, 56, 48, 57, 49, 48, 49, 49, 49, 50, 49, 51, 49, 52, 49, 53, 49, 54, 49, 55, 49, 56, 49, 57, 50, 48, 50, 49, 50, 50, 50, 51, 50, 52, 50, 53, 50, 54, 50, 55, 50, 56, 50, 57, 51, 48, 51, 49, 51, 50, 51, 51, 51, 52, 51, 53, 51, 54, 51, 55, 51, 56, 51, 57, 52, 48, 52, 49, 52, 50, 52, 51, 52, 52, 52, 53, 52, 54, 52, 55, 52, 56, 52, 57, 53, 48, 53, 49, 53, 50, 53, 51, 53, 52, 53, 53, 53, 54, 53, 55, 53, 56, 53, 57, 54, 48, 54, 49, 54, 50, 54, 51, 54, 52, 54, 53, 54, 54, 54, 55, 54, 56, 54, 57, 55, 48, 55, 49, 55, 50, 55, 51, 55, 52, 55, 53, 55, 54, 55, 55, 55, 56, 55, 57, 56, 48, 56, 49, 56, 50, 56, 51, 56, 52, 56, 53, 56, 54, 56, 55, 56, 56, 56, 57, 57, 48, 57, 49, 57, 50, 57, 51, 57, 52, 57, 53, 57, 54, 57, 55, 57, 56, 57, 57]⟩ : ByteArray) (IntKind.wrap .u32 ((IntKind.wrap .u32 (Int.tdiv (Int.tmod (IntKind.wrap .u32 u1) (10000 : Int)) (100 : Int))) * (2 : Int)))) >>= fun t22 =>
                   if (decide ((0 : Int) ≤ (IntKind.wrap .i64 (nd4 - (3 : Int)))) && decide ((IntKind.wrap .i64 (nd4 - (3 : Int))) < ((a0.2 - a0.1 : Nat) : Int))) = true then
                     (idx (List.set (List.set B0 (Int.toNat ((a0.1 : Int) + (IntKind.wrap .i64 (nd4 - (1 : Int))))) t17) (Int.toNat ((a0.1 : Int) + (IntKind.wrap .i64 (nd4 - (2 : Int))))) t18) ((a0.1 : Int) + (IntKind.wrap .i64 (nd4 - (3 : Int))))) >>= fun t23 =>
                     if (decide ((0 : Int) ≤ (IntKind.wrap .i64 (nd4 - (4 : Int)))) && decide ((IntKind.wrap .i64 (nd4 - (4 : Int))) < ((a0.2 - a0.1 : Nat) : Int))) = true then
                       (idx (List.set (List.set (List.set B0 (Int.toNat ((a0.1 : Int) + (IntKind.wrap .i64 (nd4 - (1 : Int))))) t17) (Int.toNat ((a0.1 : Int) + (IntKind.wrap .i64 (nd4 - (2 : Int))))) t18) (Int.toNat ((a0.1 : Int) + (IntKind.wrap .i64 (nd4 - (3 : Int))))) t21) ((a0.1 : Int) + (IntKind.wrap .i64 (nd4 - (4 : Int))))) >>= fun t24 =>
                       run_internal_strconv_formatBase10 (.p31 a0 (IntKind.wrap .i64 (nd4 - (4 : Int))) (IntKind.wrap .u32 (Int.tdiv (IntKind.wrap .u32 u1) (10000 : Int))) (List.set (List.set (List.set (List.set B0 (Int.toNat ((a0.1 : Int) + (IntKind.wrap .i64 (nd4 - (1 : Int))))) t17) (Int.toNat ((a0.1 : Int) + (IntKind.wrap .i64 (nd4 - (2 : Int))))) t18) (Int.toNat ((a0.1 : Int) + (IntKind.wrap .i64 (nd4 - (3 : Int))))) t21) (Int.toNat ((a0.1 : Int) + (IntKind.wrap .i64 (nd4 - (4 : Int))))) t22))
                     else none
                   else none
                 else none
               else none
             else none
           else none
         else none
       else none
     else
       run_internal_strconv_formatBase10 (.p31 a0 nd4 (IntKind.wrap .u32 u1) B0)
 | .p31 a0 nd4 x12 B0 =>
   if (decide (nd4 ≥ (2 : Int))) = true then
     if (!((100 : Int) == (0 : Int))) = true then
       if (!((100 : Int) == (0 : Int))) = true then
         (sidx (⟨#[48, 48, 48, 49, 48, 50, 48, 51, 48, 52, 48, 53, 48, 54, 48, 55, 48, 56, 48, 57, 49, 48, 49, 49, 49, 50, 49, 51, 49, 52, 49, 53, 49, 54, 49, 55, 49, 56, 49, 57, 50, 48, 50, 49, 50, 50, 50, 51, 50, 52, 50, 53, 50, 54, 50, 55, 50, 56, 50, 57, 51, 48, 51, 49, 51, 50, 51, 51, 51, 52, 51, 53, 51, 54, 51, 55, 51, 56, 51, 57, 52, 48, 52, 49, 52, 50, 52, 51, 52, 52, 52, 53, 52, 54, 52, 55, 52, 56, 52, 57, 53, 48, 53, 49, 53, 50, 53, 51, 53, 52, 53, 53, 53, 54, 53, 55, 53, 56, 53, 57, 54, 48, 54, 49, 54, 50, 54, 51, 54, 52, 54, 53, 54, 54, 54, 55, 54, 56, 54, 57, 55, 48, 55, 49, 55, 50, 55, 51, 55, 52, 55, 53, 55, 54, 55, 55, 55, 56, 55, 57, 56, 48, 56, 49, 56, 50, 56, 51, 56, 52, 56, 53, 56, 54, 56, 55, 56, 56, 56, 57, 57, 48, 57, 49, 57, 50, 57, 51, 57, 52, 57, 53, 57, 54, 57, 55, 57, 56, 57, 57]⟩ : ByteArray) (IntKind.wrap .u32 ((IntKind.wrap .u32 ((Int.tmod x12 (100 : Int)) * (2 : Int))) + (1 : Int)))) >>= fun t1 =>
         (sidx (⟨#[48, 48, 48, 49, 48, 50, 48, 51, 48, 52, 48, 53, 48, 54, 48, 55, 48, 56, 48, 57, 49, 48, 49, 49, 49, 50, 49, 51, 49, 52, 49, 53, 49, 54, 49, 55, 49, 56, 49, 57, 50, 48, 50, 49, 50, 50, 50, 51, 50, 52, 50, 53, 50, 54, 50, 55, 50, 56, 50, 57, 51, 48, 51, 49, 51, 50, 51, 51, 51, 52, 51, 53, 51, 54, 51, 55, 51, 56, 51, 57, 52, 48, 52, 49, 52, 50, 52, 51, 52, 52, 52, 53, 52, 54, 52, 55, 52, 56, 52, 57, 53, 48, 53, 49, 53, 50, 53, 51, 53, 52, 53, 53, 53, 54, 53, 55, 53, 56, 53, 57, 54, 48, 54, 49, 54, 50, 54, 51, 54, 52, 54, 53, 54, 54, 54, 55, 54, 56, 54, 57, 55, 48, 55, 49, 55, 50, 55, 51, 55, 52, 55, 53, 55, 54, 55, 55, 55, 56, 55, 57, 56, 48, 56, 49, 56, 50, 56, 51, 56, 52, 56, 53, 56, 54, 56, 55, 56, 56, 56, 57, 57, 48, 57, 49, 57, 50, 57, 51, 57, 52, 57, 53, 57, 54, 57, 55, 57, 56, 57, 57]⟩ : ByteArray) (IntKind.wrap .u32 ((Int.tmod x12 (100 : Int)) * (2 : Int)))) >>= fun t2 =>
         if (decide ((0 : Int) ≤ (IntKind.wrap .i64 (nd4 - (1 : Int)))) && decide ((IntKind.wrap .i64 (nd4 - (1 : Int))) < ((a0.2 - a0.1 : Nat) : Int))) = true then
           (idx B0 ((a0.1 : Int) + (IntKind.wrap .i64 (nd4 - (1 : Int))))) >>= fun t3 =>
           if (decide ((0 : Int) ≤ (IntKind.wrap .i64 (nd4 - (2 : Int)))) && decide ((IntKind.wrap .i64 (nd4 - (2 : Int))) < ((a0.2 - a0.1 : Nat) : Int))) = true then
             (idx (List.set B0 (Int.toNat ((a0.1 : Int) + (IntKind.wrap .i64 (nd4 - (1 : Int))))) t1) ((a0.1 : Int) + (IntKind.wrap .i64 (nd4 - (2 : Int))))) >>= fun t4 =>
             run_internal_strconv_formatBase10 (.p63 a0 (IntKind.wrap .i64 (nd4 - (2 : Int))) (IntKind.wrap .u32 (Int.tdiv x12 (100 : Int))) (List.set (List.set B0 (Int.toNat ((a0.1 : Int) + (IntKind.wrap .i64 (nd4 - (1 : Int))))) t1) (Int.toNat ((a0.1 : Int) + (IntKind.wrap .i64 (nd4 - (2 : Int))))) t2))
           else none
         else none
       else none
     else none
   else
     run_internal_strconv_formatBase10 (.p63 a0 nd4 x12 B0)
 | .p63 a0 nd4 x12 B0 =>
   if (decide (nd4 > (0 : Int))) = true then
     if (decide ((0 : Int) ≤ (0 : Int)) && decide ((0 : Int) < ((a0.2 - a0.1 : Nat) : Int))) = true then
       (idx B0 ((a0.1 : Int) + (0 : Int))) >>= fun t1 =>
       some ((), ())
     else none
   else
     some ((), ())
  partial_fixpoint
noncomputable def tab_internal_strconv_formatBase10 : List (Plc E P_internal_strconv_formatBase10) := [⟨24, [false, false, false, true], { slots := [0, 1, 4], rows := [], flat := [], keep := 0 }, ((Nat × Nat) × (Int × (Int × Unit))), ((List Int) × Unit), (RdL.cons (Rd.ws 0 5) (RdL.cons (Rd.int .u64) (RdL.cons (Rd.int .i64) RdL.nil))), (RdBL.cons (RdB.row 5 false) RdBL.nil), fun a b => .p24 a.1 a.2.1 a.2.2.1 b.1⟩,
  ⟨31, [true, true, true, true], { slots := [0, 4, 12], rows := [], flat := [], keep := 0 }, ((Nat × Nat) × (Int × (Int × Unit))), ((List Int) × Unit), (RdL.cons (Rd.ws 0 5) (RdL.cons (Rd.int .i64) (RdL.cons (Rd.int .u32) RdL.nil))), (RdBL.cons (RdB.row 5 false) RdBL.nil), fun a b => .p31 a.1 a.2.1 a.2.2.1 b.1⟩,
  ⟨63, [true, true, true, true, true], { slots := [0, 4, 12], rows := [], flat := [], keep := 0 }, ((Nat × Nat) × (Int × (Int × Unit))), ((List Int) × Unit), (RdL.cons (Rd.ws 0 5) (RdL.cons (Rd.int .i64) (RdL.cons (Rd.int .u32) RdL.nil))), (RdBL.cons (RdB.row 5 false) RdBL.nil), fun a b => .p63 a.1 a.2.1 a.2.2.1 b.1⟩]
theorem tab_internal_strconv_formatBase10_ok : All (PlcOk 167 0 place_internal_strconv_formatBase10 st_internal_strconv_formatBase10) tab_internal_strconv_formatBase10 := ⟨⟨rfl, rfl, fun _ _ => rfl, fun _ _ => rfl⟩, ⟨⟨rfl, rfl, fun _ _ => rfl, fun _ _ => rfl⟩, ⟨⟨rfl, rfl, fun _ _ => rfl, fun _ _ => rfl⟩, trivial⟩⟩⟩
noncomputable def code_internal_strconv_formatBase10 : Code := Tryz.f67.body.getD .skip
noncomputable def spec_internal_strconv_formatBase10 : Spec E.S := noSpec
theorem spec_internal_strconv_formatBase10_ok : SpecOk E spec_internal_strconv_formatBase10 := noSpec_ok
theorem good_internal_strconv_formatBase10 : ∀ pt r, run_internal_strconv_formatBase10 pt = some r → Good E Tryz.f67 code_internal_strconv_formatBase10 0 (res_internal_strconv_formatBase10.av r) (res_internal_strconv_formatBase10.bx r) (place_internal_strconv_formatBase10 pt) (st_internal_strconv_formatBase10 pt) := by
  refine run_internal_strconv_formatBase10.partial_correctness (fun pt r => Good E Tryz.f67 code_internal_strconv_formatBase10 0 (res_internal_strconv_formatBase10.av r) (res_internal_strconv_formatBase10.bx r) (place_internal_strconv_formatBase10 pt) (st_internal_strconv_formatBase10 pt)) ?_
  intro run' ih pt r hr
  cases pt <;> exact fn_step (spec := spec_internal_strconv_formatBase10) (wr := (fun i => mem i [0, 17, 42, 45, 55, 58, 68, 71, 81, 84, 110, 113, 123, 126, 145, 148, 162])) (l := tab_internal_strconv_formatBase10) (z := 167) (p := res_internal_strconv_formatBase10) E_ok tab_internal_strconv_formatBase10_ok.mem rfl spec_internal_strconv_formatBase10_ok ih (Eq.trans (by kernel_rfl) hr)
noncomputable def con_internal_strconv_formatBase10 : Con E := ⟨67, ((Nat × Nat) × (Int × Unit)), ((List Int) × Unit), (RwL.cons (Rd.ws 0 5).w (RwL.cons (Rd.int .u64).w RwL.nil)), (RdBL.cons (RdB.row 5 false) RdBL.nil), 0, R_internal_strconv_formatBase10, fun a b => run_internal_strconv_formatBase10 (.start a.1 a.2.1 b.1), res_internal_strconv_formatBase10.av, res_internal_strconv_formatBase10.bx⟩
theorem con_internal_strconv_formatBase10_ok : con_internal_strconv_formatBase10.Ok := fun a b r h => fn_ok (fn := Tryz.f67) (code := code_internal_strconv_formatBase10) E_ok (by kernel_rfl) (by kernel_rfl) (by kernel_rfl) (Nat.le_of_ble_eq_true rfl) (good_internal_strconv_formatBase10 (.start a.1 a.2.1 b.1) r h)

/-! ### internal/strconv.FormatInt -/
inductive P_internal_strconv_FormatInt where
 | start (i0 : Int) (base1 : Int)
 | p53 (i0 : Int)
 | p431 (i0 : Int) (u6 : Int) (B0 : (List Int))
noncomputable def place_internal_strconv_FormatInt : P_internal_strconv_FormatInt → List Bool
 | .start .. => []
 | .p53 .. => [true, false, true, false, true]
 | .p431 .. => [true, true, true, true, false, true, false, true]
noncomputable def st_internal_strconv_FormatInt : P_internal_strconv_FormatInt → St E.S
 | .start i0 base1 => st0 54 [.v (.int .i64 i0), .v (.int .i64 base1)] []
 | .p53 i0 => mkSt 54 [0] [.v (.int .i64 i0)] []
 | .p431 i0 u6 B0 => mkSt 54 [0, 5, 6] [.v (.int .i64 i0), .rp 0 5 (0 : Int) 0, .v (.int .u64 u6)] [.row 5 B0 false]
abbrev R_internal_strconv_FormatInt : Type := ((ByteArray × Unit) × Unit)
noncomputable def res_internal_strconv_FormatInt : Res E (ByteArray × Unit) Unit := { rows := [], flat := [], keep := 0, rl := (RdL.cons Rd.str RdL.nil), rb := RdBL.nil }
noncomputable def run_internal_strconv_FormatInt : P_internal_strconv_FormatInt → Option R_internal_strconv_FormatInt
 | .start i0 base1 =>
   if (base1 == (10 : Int)) = true then
     if (decide ((0 : Int) ≤ i0)) = true then
       if (decide (i0 < (100 : Int))) = true then
         (run_internal_strconv_small (.start i0)) >>= fun t1 =>
         some ((t1.1.1, ()), ())
       else
         run_internal_strconv_FormatInt (.p53 i0)
     else
       run_internal_strconv_FormatInt (.p53 i0)
   else
     (run_internal_strconv_formatBits (.start ([]) (IntKind.wrap .u64 i0) base1 (decide (i0 < (0 : Int))) false)) >>= fun t2 =>
     some ((t2.1.2.1, ()), ())
 | .p53 i0 =>
   if (decide (i0 < (0 : Int))) = true then
     run_internal_strconv_FormatInt (.p431 i0 (IntKind.wrap .u64 (0 - (IntKind.wrap .u64 i0))) (List.replicate 24 (0 : Int)))
   else
     run_internal_strconv_FormatInt (.p431 i0 (IntKind.wrap .u64 i0) (List.replicate 24 (0 : Int)))
 | .p431 i0 u6 B0 =>
   (run_internal_strconv_numDigits (.start u6)) >>= fun t1 =>
   (span 24 (1 : Int) (IntKind.wrap .i64 ((1 : Int) + t1.1.1))) >>= fun t2 =>
   (run_internal_strconv_formatBase10 (.start t2 u6 B0)) >>= fun t3 =>
   if (decide (i0 < (0 : Int))) = true then
     if (decide ((0 : Int) ≤ (0 : Int)) && decide ((0 : Int) < (24 : Int))) = true then
       none
     else none
   else
     (span 24 (1 : Int) (IntKind.wrap .i64 ((1 : Int) + t1.1.1))) >>= fun t4 =>
     none
  partial_fixpoint
noncomputable def tab_internal_strconv_FormatInt : List (Plc E P_internal_strconv_FormatInt) := [⟨53, [true, false, true, false, true], { slots := [0], rows := [], flat := [], keep := 0 }, (Int × Unit), Unit, (RdL.cons (Rd.int .i64) RdL.nil), RdBL.nil, fun a b => .p53 a.1⟩,
  ⟨431, [true, true, true, true, false, true, false, true], { slots := [0, 5, 6], rows := [], flat := [], keep := 0 }, (Int × (Unit × (Int × Unit))), ((List Int) × Unit), (RdL.cons (Rd.int .i64) (RdL.cons (Rd.rp0 0 5) (RdL.cons (Rd.int .u64) RdL.nil))), (RdBL.cons (RdB.row 5 false) RdBL.nil), fun a b => .p431 a.1 a.2.2.1 b.1⟩]
theorem tab_internal_strconv_FormatInt_ok : All (PlcOk 54 0 place_internal_strconv_FormatInt st_internal_strconv_FormatInt) tab_internal_strconv_FormatInt := ⟨⟨rfl, rfl, fun _ _ => rfl, fun _ _ => rfl⟩, ⟨⟨rfl, rfl, fun _ _ => rfl, fun _ _ => rfl⟩, trivial⟩⟩
noncomputable def code_internal_strconv_FormatInt : Code := Tryz.f46.body.getD .skip
noncomputable def spec_internal_strconv_FormatInt : Spec E.S := (Con.add con_internal_strconv_formatBase10 (Con.add con_internal_strconv_numDigits (Con.add con_internal_strconv_formatBits (Con.add con_internal_strconv_small noSpec))))
theorem spec_internal_strconv_FormatInt_ok : SpecOk E spec_internal_strconv_FormatInt := (Con.add_ok con_internal_strconv_formatBase10_ok (Con.add_ok con_internal_strconv_numDigits_ok (Con.add_ok con_internal_strconv_formatBits_ok (Con.add_ok con_internal_strconv_small_ok noSpec_ok))))
theorem good_internal_strconv_FormatInt : ∀ pt r, run_internal_strconv_FormatInt pt = some r → Good E Tryz.f46 code_internal_strconv_FormatInt 0 (res_internal_strconv_FormatInt.av r) (res_internal_strconv_FormatInt.bx r) (place_internal_strconv_FormatInt pt) (st_internal_strconv_FormatInt pt) := by
  refine run_internal_strconv_FormatInt.partial_correctness (fun pt r => Good E Tryz.f46 code_internal_strconv_FormatInt 0 (res_internal_strconv_FormatInt.av r) (res_internal_strconv_FormatInt.bx r) (place_internal_strconv_FormatInt pt) (st_internal_strconv_FormatInt pt)) ?_
  intro run' ih pt r hr
  cases pt <;> exact fn_step (spec := spec_internal_strconv_FormatInt) (wr := (fun i => mem i [5, 30, 38, 42])) (l := tab_internal_strconv_FormatInt) (z := 54) (p := res_internal_strconv_FormatInt) E_ok tab_internal_strconv_FormatInt_ok.mem rfl spec_internal_strconv_FormatInt_ok ih (Eq.trans (by kernel_rfl) hr)
noncomputable def con_internal_strconv_FormatInt : Con E := ⟨46, (Int × (Int × Unit)), Unit, (RwL.cons (Rd.int .i64).w (RwL.cons (Rd.int .i64).w RwL.nil)), RdBL.nil, 0, R_internal_strconv_FormatInt, fun a b => run_internal_strconv_FormatInt (.start a.1 a.2.1), res_internal_strconv_FormatInt.av, res_internal_strconv_FormatInt.bx⟩
theorem con_internal_strconv_FormatInt_ok : con_internal_strconv_FormatInt.Ok := fun a b r h => fn_ok (fn := Tryz.f46) (code := code_internal_strconv_FormatInt) E_ok (by kernel_rfl) (by kernel_rfl) (by kernel_rfl) (Nat.le_of_ble_eq_true rfl) (good_internal_strconv_FormatInt (.start a.1 a.2.1) r h)

/-! ### strconv.FormatInt -/
inductive P_strconv_FormatInt where
 | start (i0 : Int) (base1 : Int)
noncomputable def place_strconv_FormatInt : P_strconv_FormatInt → List Bool
 | .start .. => []
noncomputable def st_strconv_FormatInt : P_strconv_FormatInt → St E.S
 | .start i0 base1 => st0 8 [.v (.int .i64 i0), .v (.int .i64 base1)] []
abbrev R_strconv_FormatInt : Type := ((ByteArray × Unit) × Unit)
noncomputable def res_strconv_FormatInt : Res E (ByteArray × Unit) Unit := { rows := [], flat := [], keep := 0, rl := (RdL.cons Rd.str RdL.nil), rb := RdBL.nil }
noncomputable def run_strconv_FormatInt : P_strconv_FormatInt → Option R_strconv_FormatInt
 | .start i0 base1 =>
   (run_internal_strconv_FormatInt (.start i0 base1)) >>= fun t1 =>
   some ((t1.1.1, ()), ())
noncomputable def tab_strconv_FormatInt : List (Plc E P_strconv_FormatInt) := []
theorem tab_strconv_FormatInt_ok : All (PlcOk 8 0 place_strconv_FormatInt st_strconv_FormatInt) tab_strconv_FormatInt := trivial
noncomputable def code_strconv_FormatInt : Code := Tryz.f19.body.getD .skip
noncomputable def spec_strconv_FormatInt : Spec E.S := (Con.add con_internal_strconv_FormatInt noSpec)
theorem spec_strconv_FormatInt_ok : SpecOk E spec_strconv_FormatInt := (Con.add_ok con_internal_strconv_FormatInt_ok noSpec_ok)
theorem good_strconv_FormatInt : ∀ pt r, run_strconv_FormatInt pt = some r → Good E Tryz.f19 code_strconv_FormatInt 0 (res_strconv_FormatInt.av r) (res_strconv_FormatInt.bx r) (place_strconv_FormatInt pt) (st_strconv_FormatInt pt) := by
  intro pt r hr
  cases pt <;> exact fn_step (spec := spec_strconv_FormatInt) (wr := (fun i => mem i [])) (l := tab_strconv_FormatInt) (z := 8) (p := res_strconv_FormatInt) (run' := fun _ => none) E_ok tab_strconv_FormatInt_ok.mem rfl spec_strconv_FormatInt_ok (fun _ _ h => by cases h) (Eq.trans (by kernel_rfl) hr)
noncomputable def con_strconv_FormatInt : Con E := ⟨19, (Int × (Int × Unit)), Unit, (RwL.cons (Rd.int .i64).w (RwL.cons (Rd.int .i64).w RwL.nil)), RdBL.nil, 0, R_strconv_FormatInt, fun a b => run_strconv_FormatInt (.start a.1 a.2.1), res_strconv_FormatInt.av, res_strconv_FormatInt.bx⟩
theorem con_strconv_FormatInt_ok : con_strconv_FormatInt.Ok := fun a b r h => fn_ok (fn := Tryz.f19) (code := code_strconv_FormatInt) E_ok (by kernel_rfl) (by kernel_rfl) (by kernel_rfl) (Nat.le_of_ble_eq_true rfl) (good_strconv_FormatInt (.start a.1 a.2.1) r h)

noncomputable def con_strconv_FormatInt_or : Con E := conFmt E 19 (fun n b => run_strconv_FormatInt (.start n b))
theorem con_strconv_FormatInt_or_ok : con_strconv_FormatInt_or.Ok := conFmt_ok (fn := Tryz.f19) (by kernel_rfl) (by kernel_rfl) (by kernel_rfl) (g := 1) rfl (fun n w h0 h1 ht => Tryz.strconv_FormatInt_10 n h0 h1 w ht) (fun n b r h => con_strconv_FormatInt_ok (n, b, ()) () r h)

/-! ### ratchet/bits.FormatBits -/
inductive P_bits_FormatBits where
 | start (a0_0 : Int) (a0_1 : Int) (base1 : Int)
 | p63 (base1 : Int) (digits7 : ByteArray) (B0_0 : Int) (B0_1 : Int)
noncomputable def place_bits_FormatBits : P_bits_FormatBits → List Bool
 | .start .. => []
 | .p63 .. => [true, true, true, true, true]
noncomputable def st_bits_FormatBits : P_bits_FormatBits → St E.S
 | .start a0_0 a0_1 base1 => st0 58 [.agg [.v (.int .i64 a0_0), .v (.int .i64 a0_1)], .v (.int .i64 base1)] []
 | .p63 base1 digits7 B0_0 B0_1 => mkSt 58 [1, 2, 7] [.v (.int .i64 base1), .bp 0 0, .v (.string digits7)] [.var 23 [.v (.int .i64 B0_0), .v (.int .i64 B0_1)]]
abbrev R_bits_FormatBits : Type := ((ByteArray × (Int × Unit)) × Unit)
noncomputable def res_bits_FormatBits : Res E (ByteArray × (Int × Unit)) Unit := { rows := [], flat := [], keep := 0, rl := (RdL.cons Rd.str (RdL.cons (Rd.int .i64) RdL.nil)), rb := RdBL.nil }
noncomputable def run_bits_FormatBits : P_bits_FormatBits → Option R_bits_FormatBits
 | .start a0_0 a0_1 base1 =>
   (run_bits_CheckBits (.start a0_0 a0_1)) >>= fun t1 =>
   (run_bits_isBase (.start base1)) >>= fun t2 =>
   (run_bits_unless (.start t2.1.1 (15 : Int))) >>= fun t3 =>
   (run_bits_first (.start ([t1.1.1, t3.1.1] : List Int))) >>= fun t4 =>
   if (t4.1.1 != (0 : Int)) = true then
     some (((⟨#[]⟩ : ByteArray), (t4.1.1, ())), ())
   else
     (fmtRun a0_1 base1 (run_strconv_FormatInt (.start a0_1 base1))) >>= fun t5 =>
     if (Option.isSome (aget ieq (aput ieq (aput ieq ([] : List (Int × Int)) (2 : Int) (1 : Int)) (16 : Int) (4 : Int)) base1)) = true then
       if (!((Option.getD (aget ieq (aput ieq (aput ieq ([] : List (Int × Int)) (2 : Int) (1 : Int)) (16 : Int) (4 : Int)) base1) (0 : Int)) == (0 : Int))) = true then
         (repeatRun ((⟨#[48]⟩ : ByteArray), IntKind.wrap .i64 ((IntKind.wrap .i64 (Int.tdiv (IntKind.wrap .i64 ((IntKind.wrap .i64 (a0_0 + (Option.getD (aget ieq (aput ieq (aput ieq ([] : List (Int × Int)) (2 : Int) (1 : Int)) (16 : Int) (4 : Int)) base1) (0 : Int)))) - (1 : Int))) (Option.getD (aget ieq (aput ieq (aput ieq ([] : List (Int × Int)) (2 : Int) (1 : Int)) (16 : Int) (4 : Int)) base1) (0 : Int)))) - (t5.1.1.size : Int)), ()) ()) >>= fun t6 =>
         if (Nat.ble (t6.1.1.size + t5.1.1.size) 9223372036854775807) = true then
           run_bits_FormatBits (.p63 base1 (t6.1.1 ++ t5.1.1) a0_0 a0_1)
         else none
       else none
     else
       run_bits_FormatBits (.p63 base1 t5.1.1 a0_0 a0_1)
 | .p63 base1 digits7 B0_0 B0_1 =>
   (itoaRun (B0_0, ()) ()) >>= fun t1 =>
   if (Nat.ble (t1.1.1.size + (⟨#[39]⟩ : ByteArray).size) 9223372036854775807) = true then
     (idx glob0 base1) >>= fun t2 =>
     if (Nat.ble ((t1.1.1 ++ (⟨#[39]⟩ : ByteArray)).size + (Utf8.encode t2).size) 9223372036854775807) = true then
       if (Nat.ble (((t1.1.1 ++ (⟨#[39]⟩ : ByteArray)) ++ (Utf8.encode t2)).size + digits7.size) 9223372036854775807) = true then
         some ((((t1.1.1 ++ (⟨#[39]⟩ : ByteArray)) ++ (Utf8.encode t2)) ++ digits7, ((0 : Int), ())), ())
       else none
     else none
   else none
  partial_fixpoint
noncomputable def tab_bits_FormatBits : List (Plc E P_bits_FormatBits) := [⟨63, [true, true, true, true, true], { slots := [1, 2, 7], rows := [], flat := [], keep := 0 }, (Int × (Unit × (ByteArray × Unit))), ((Int × (Int × Unit)) × Unit), (RdL.cons (Rd.int .i64) (RdL.cons (Rd.bp 0 0) (RdL.cons Rd.str RdL.nil))), (RdBL.cons (RdB.var 23 (RdL.cons (Rd.int .i64) (RdL.cons (Rd.int .i64) RdL.nil))) RdBL.nil), fun a b => .p63 a.1 a.2.2.1 b.1.1 b.1.2.1⟩]
theorem tab_bits_FormatBits_ok : All (PlcOk 58 0 place_bits_FormatBits st_bits_FormatBits) tab_bits_FormatBits := ⟨⟨rfl, rfl, fun _ _ => rfl, fun _ _ => rfl⟩, trivial⟩
noncomputable def code_bits_FormatBits : Code := Tryz.f5.body.getD .skip
noncomputable def spec_bits_FormatBits : Spec E.S := (Con.add con_strconv_Itoa (Con.add con_strings_Repeat (Con.add con_strconv_FormatInt_or (Con.add con_bits_first (Con.add con_bits_unless (Con.add con_bits_isBase (Con.add con_bits_CheckBits noSpec)))))))
theorem spec_bits_FormatBits_ok : SpecOk E spec_bits_FormatBits := (Con.add_ok con_strconv_Itoa_ok (Con.add_ok con_strings_Repeat_ok (Con.add_ok con_strconv_FormatInt_or_ok (Con.add_ok con_bits_first_ok (Con.add_ok con_bits_unless_ok (Con.add_ok con_bits_isBase_ok (Con.add_ok con_bits_CheckBits_ok noSpec_ok)))))))
theorem good_bits_FormatBits : ∀ pt r, run_bits_FormatBits pt = some r → Good E Tryz.f5 code_bits_FormatBits 0 (res_bits_FormatBits.av r) (res_bits_FormatBits.bx r) (place_bits_FormatBits pt) (st_bits_FormatBits pt) := by
  refine run_bits_FormatBits.partial_correctness (fun pt r => Good E Tryz.f5 code_bits_FormatBits 0 (res_bits_FormatBits.av r) (res_bits_FormatBits.bx r) (place_bits_FormatBits pt) (st_bits_FormatBits pt)) ?_
  intro run' ih pt r hr
  cases pt <;> exact fn_step (spec := spec_bits_FormatBits) (wr := (fun i => mem i [])) (l := tab_bits_FormatBits) (z := 58) (p := res_bits_FormatBits) E_ok tab_bits_FormatBits_ok.mem rfl spec_bits_FormatBits_ok ih (Eq.trans (by kernel_rfl) hr)
noncomputable def con_bits_FormatBits : Con E := ⟨5, ((Int × (Int × Unit)) × (Int × Unit)), Unit, (RwL.cons (Rw.agg (RwL.cons (Rd.int .i64).w (RwL.cons (Rd.int .i64).w RwL.nil))) (RwL.cons (Rd.int .i64).w RwL.nil)), RdBL.nil, 0, R_bits_FormatBits, fun a b => run_bits_FormatBits (.start a.1.1 a.1.2.1 a.2.1), res_bits_FormatBits.av, res_bits_FormatBits.bx⟩
theorem con_bits_FormatBits_ok : con_bits_FormatBits.Ok := fun a b r h => fn_ok (fn := Tryz.f5) (code := code_bits_FormatBits) E_ok (by kernel_rfl) (by kernel_rfl) (by kernel_rfl) (Nat.le_of_ble_eq_true rfl) (good_bits_FormatBits (.start a.1.1 a.1.2.1 a.2.1) r h)

/-! ### internal/stringslite.Cut -/
inductive P_internal_stringslite_Cut where
 | start (s0 : ByteArray) (sep1 : ByteArray)
noncomputable def place_internal_stringslite_Cut : P_internal_stringslite_Cut → List Bool
 | .start .. => []
noncomputable def st_internal_stringslite_Cut : P_internal_stringslite_Cut → St E.S
 | .start s0 sep1 => st0 23 [.v (.string s0), .v (.string sep1)] []
abbrev R_internal_stringslite_Cut : Type := ((ByteArray × (ByteArray × (Bool × Unit))) × Unit)
noncomputable def res_internal_stringslite_Cut : Res E (ByteArray × (ByteArray × (Bool × Unit))) Unit := { rows := [], flat := [], keep := 0, rl := (RdL.cons Rd.str (RdL.cons Rd.str (RdL.cons Rd.bool RdL.nil))), rb := RdBL.nil }
noncomputable def run_internal_stringslite_Cut : P_internal_stringslite_Cut → Option R_internal_stringslite_Cut
 | .start s0 sep1 =>
   (oneRun Go.Lib.indexByte (s0, sep1, ()) ()) >>= fun t1 =>
   if (decide (t1.1.1 ≥ (0 : Int))) = true then
     (span s0.size (0 : Int) t1.1.1) >>= fun t2 =>
     (span s0.size (IntKind.wrap .i64 (t1.1.1 + (sep1.size : Int))) (s0.size : Int)) >>= fun t3 =>
     some ((s0.extract t2.1 t2.2, (s0.extract t3.1 t3.2, (true, ()))), ())
   else
     some ((s0, ((⟨#[]⟩ : ByteArray), (false, ()))), ())
noncomputable def tab_internal_stringslite_Cut : List (Plc E P_internal_stringslite_Cut) := []
theorem tab_internal_stringslite_Cut_ok : All (PlcOk 23 0 place_internal_stringslite_Cut st_internal_stringslite_Cut) tab_internal_stringslite_Cut := trivial
noncomputable def code_internal_stringslite_Cut : Code := Tryz.f54.body.getD .skip
noncomputable def spec_internal_stringslite_Cut : Spec E.S := (Con.add con_internal_stringslite_Index noSpec)
theorem spec_internal_stringslite_Cut_ok : SpecOk E spec_internal_stringslite_Cut := (Con.add_ok con_internal_stringslite_Index_ok noSpec_ok)
theorem good_internal_stringslite_Cut : ∀ pt r, run_internal_stringslite_Cut pt = some r → Good E Tryz.f54 code_internal_stringslite_Cut 0 (res_internal_stringslite_Cut.av r) (res_internal_stringslite_Cut.bx r) (place_internal_stringslite_Cut pt) (st_internal_stringslite_Cut pt) := by
  intro pt r hr
  cases pt <;> exact fn_step (spec := spec_internal_stringslite_Cut) (wr := (fun i => mem i [])) (l := tab_internal_stringslite_Cut) (z := 23) (p := res_internal_stringslite_Cut) (run' := fun _ => none) E_ok tab_internal_stringslite_Cut_ok.mem rfl spec_internal_stringslite_Cut_ok (fun _ _ h => by cases h) (Eq.trans (by kernel_rfl) hr)
noncomputable def con_internal_stringslite_Cut : Con E := ⟨54, (ByteArray × (ByteArray × Unit)), Unit, (RwL.cons Rd.str.w (RwL.cons Rd.str.w RwL.nil)), RdBL.nil, 0, R_internal_stringslite_Cut, fun a b => run_internal_stringslite_Cut (.start a.1 a.2.1), res_internal_stringslite_Cut.av, res_internal_stringslite_Cut.bx⟩
theorem con_internal_stringslite_Cut_ok : con_internal_stringslite_Cut.Ok := fun a b r h => fn_ok (fn := Tryz.f54) (code := code_internal_stringslite_Cut) E_ok (by kernel_rfl) (by kernel_rfl) (by kernel_rfl) (Nat.le_of_ble_eq_true rfl) (good_internal_stringslite_Cut (.start a.1 a.2.1) r h)

/-! ### strings.Cut -/
inductive P_strings_Cut where
 | start (s0 : ByteArray) (sep1 : ByteArray)
noncomputable def place_strings_Cut : P_strings_Cut → List Bool
 | .start .. => []
noncomputable def st_strings_Cut : P_strings_Cut → St E.S
 | .start s0 sep1 => st0 13 [.v (.string s0), .v (.string sep1)] []
abbrev R_strings_Cut : Type := ((ByteArray × (ByteArray × (Bool × Unit))) × Unit)
noncomputable def res_strings_Cut : Res E (ByteArray × (ByteArray × (Bool × Unit))) Unit := { rows := [], flat := [], keep := 0, rl := (RdL.cons Rd.str (RdL.cons Rd.str (RdL.cons Rd.bool RdL.nil))), rb := RdBL.nil }
noncomputable def run_strings_Cut : P_strings_Cut → Option R_strings_Cut
 | .start s0 sep1 =>
   (run_internal_stringslite_Cut (.start s0 sep1)) >>= fun t1 =>
   some ((t1.1.1, (t1.1.2.1, (t1.1.2.2.1, ()))), ())
noncomputable def tab_strings_Cut : List (Plc E P_strings_Cut) := []
theorem tab_strings_Cut_ok : All (PlcOk 13 0 place_strings_Cut st_strings_Cut) tab_strings_Cut := trivial
noncomputable def code_strings_Cut : Code := Tryz.f22.body.getD .skip
noncomputable def spec_strings_Cut : Spec E.S := (Con.add con_internal_stringslite_Cut noSpec)
theorem spec_strings_Cut_ok : SpecOk E spec_strings_Cut := (Con.add_ok con_internal_stringslite_Cut_ok noSpec_ok)
theorem good_strings_Cut : ∀ pt r, run_strings_Cut pt = some r → Good E Tryz.f22 code_strings_Cut 0 (res_strings_Cut.av r) (res_strings_Cut.bx r) (place_strings_Cut pt) (st_strings_Cut pt) := by
  intro pt r hr
  cases pt <;> exact fn_step (spec := spec_strings_Cut) (wr := (fun i => mem i [])) (l := tab_strings_Cut) (z := 13) (p := res_strings_Cut) (run' := fun _ => none) E_ok tab_strings_Cut_ok.mem rfl spec_strings_Cut_ok (fun _ _ h => by cases h) (Eq.trans (by kernel_rfl) hr)
noncomputable def con_strings_Cut : Con E := ⟨22, (ByteArray × (ByteArray × Unit)), Unit, (RwL.cons Rd.str.w (RwL.cons Rd.str.w RwL.nil)), RdBL.nil, 0, R_strings_Cut, fun a b => run_strings_Cut (.start a.1 a.2.1), res_strings_Cut.av, res_strings_Cut.bx⟩
theorem con_strings_Cut_ok : con_strings_Cut.Ok := fun a b r h => fn_ok (fn := Tryz.f22) (code := code_strings_Cut) E_ok (by kernel_rfl) (by kernel_rfl) (by kernel_rfl) (Nat.le_of_ble_eq_true rfl) (good_strings_Cut (.start a.1 a.2.1) r h)

/-! ### slices.Index[[]byte,byte] -/
inductive P_slices_Index_byte_byte where
 | start (s0 : (List Int)) (v1 : Int)
 | p52 (s0 : (List Int)) (v1 : Int) (s7 : Int) (s8 : Int)
noncomputable def place_slices_Index_byte_byte : P_slices_Index_byte_byte → List Bool
 | .start .. => []
 | .p52 .. => [false, false, true, false, true]
noncomputable def st_slices_Index_byte_byte : P_slices_Index_byte_byte → St E.S
 | .start s0 v1 => st0 19 [.sl 5 s0 false, .v (.int .u8 v1)] []
 | .p52 s0 v1 s7 s8 => mkSt 19 [0, 1, 7, 8] [.sl 5 s0 false, .v (.int .u8 v1), .v (.int .i64 s7), .v (.int .i64 s8)] []
abbrev R_slices_Index_byte_byte : Type := ((Int × Unit) × Unit)
noncomputable def res_slices_Index_byte_byte : Res E (Int × Unit) Unit := { rows := [], flat := [], keep := 0, rl := (RdL.cons (Rd.int .i64) RdL.nil), rb := RdBL.nil }
noncomputable def run_slices_Index_byte_byte : P_slices_Index_byte_byte → Option R_slices_Index_byte_byte
 | .start s0 v1 =>
   run_slices_Index_byte_byte (.p52 s0 v1 (List.length s0 : Int) (0 : Int))
 | .p52 s0 v1 s7 s8 =>
   if (decide (s8 < s7)) = true then
     (idx s0 s8) >>= fun t1 =>
     if (v1 == t1) = true then
       some ((s8, ()), ())
     else
       run_slices_Index_byte_byte (.p52 s0 v1 s7 (IntKind.wrap .i64 (s8 + (1 : Int))))
   else
     some (((-1 : Int), ()), ())
  partial_fixpoint
noncomputable def tab_slices_Index_byte_byte : List (Plc E P_slices_Index_byte_byte) := [⟨52, [false, false, true, false, true], { slots := [0, 1, 7, 8], rows := [], flat := [], keep := 0 }, ((List Int) × (Int × (Int × (Int × Unit)))), Unit, (RdL.cons (Rd.sl 5 false) (RdL.cons (Rd.int .u8) (RdL.cons (Rd.int .i64) (RdL.cons (Rd.int .i64) RdL.nil)))), RdBL.nil, fun a b => .p52 a.1 a.2.1 a.2.2.1 a.2.2.2.1⟩]
theorem tab_slices_Index_byte_byte_ok : All (PlcOk 19 0 place_slices_Index_byte_byte st_slices_Index_byte_byte) tab_slices_Index_byte_byte := ⟨⟨rfl, rfl, fun _ _ => rfl, fun _ _ => rfl⟩, trivial⟩
noncomputable def code_slices_Index_byte_byte : Code := Tryz.f25.body.getD .skip
noncomputable def spec_slices_Index_byte_byte : Spec E.S := noSpec
theorem spec_slices_Index_byte_byte_ok : SpecOk E spec_slices_Index_byte_byte := noSpec_ok
theorem good_slices_Index_byte_byte : ∀ pt r, run_slices_Index_byte_byte pt = some r → Good E Tryz.f25 code_slices_Index_byte_byte 0 (res_slices_Index_byte_byte.av r) (res_slices_Index_byte_byte.bx r) (place_slices_Index_byte_byte pt) (st_slices_Index_byte_byte pt) := by
  refine run_slices_Index_byte_byte.partial_correctness (fun pt r => Good E Tryz.f25 code_slices_Index_byte_byte 0 (res_slices_Index_byte_byte.av r) (res_slices_Index_byte_byte.bx r) (place_slices_Index_byte_byte pt) (st_slices_Index_byte_byte pt)) ?_
  intro run' ih pt r hr
  cases pt <;> exact fn_step (spec := spec_slices_Index_byte_byte) (wr := (fun i => mem i [])) (l := tab_slices_Index_byte_byte) (z := 19) (p := res_slices_Index_byte_byte) E_ok tab_slices_Index_byte_byte_ok.mem rfl spec_slices_Index_byte_byte_ok ih (Eq.trans (by kernel_rfl) hr)
noncomputable def con_slices_Index_byte_byte : Con E := ⟨25, ((List Int) × (Int × Unit)), Unit, (RwL.cons (Rw.sl 5) (RwL.cons (Rd.int .u8).w RwL.nil)), RdBL.nil, 0, R_slices_Index_byte_byte, fun a b => run_slices_Index_byte_byte (.start a.1 a.2.1), res_slices_Index_byte_byte.av, res_slices_Index_byte_byte.bx⟩
theorem con_slices_Index_byte_byte_ok : con_slices_Index_byte_byte.Ok := fun a b r h => fn_ok (fn := Tryz.f25) (code := code_slices_Index_byte_byte) E_ok (by kernel_rfl) (by kernel_rfl) (by kernel_rfl) (Nat.le_of_ble_eq_true rfl) (good_slices_Index_byte_byte (.start a.1 a.2.1) r h)

/-! ### ratchet/bits.lower -/
inductive P_bits_lower where
 | start (c0 : Int)
noncomputable def place_bits_lower : P_bits_lower → List Bool
 | .start .. => []
noncomputable def st_bits_lower : P_bits_lower → St E.S
 | .start c0 => st0 9 [.v (.int .u8 c0)] []
abbrev R_bits_lower : Type := ((Int × Unit) × Unit)
noncomputable def res_bits_lower : Res E (Int × Unit) Unit := { rows := [], flat := [], keep := 0, rl := (RdL.cons (Rd.int .u8) RdL.nil), rb := RdBL.nil }
noncomputable def run_bits_lower : P_bits_lower → Option R_bits_lower
 | .start c0 =>
   if (decide ((65 : Int) ≤ c0)) = true then
     if (decide (c0 ≤ (70 : Int))) = true then
       some (((32 : Int), ()), ())
     else
       some (((0 : Int), ()), ())
   else
     some (((0 : Int), ()), ())
noncomputable def tab_bits_lower : List (Plc E P_bits_lower) := []
theorem tab_bits_lower_ok : All (PlcOk 9 0 place_bits_lower st_bits_lower) tab_bits_lower := trivial
noncomputable def code_bits_lower : Code := Tryz.f58.body.getD .skip
noncomputable def spec_bits_lower : Spec E.S := noSpec
theorem spec_bits_lower_ok : SpecOk E spec_bits_lower := noSpec_ok
theorem good_bits_lower : ∀ pt r, run_bits_lower pt = some r → Good E Tryz.f58 code_bits_lower 0 (res_bits_lower.av r) (res_bits_lower.bx r) (place_bits_lower pt) (st_bits_lower pt) := by
  intro pt r hr
  cases pt <;> exact fn_step (spec := spec_bits_lower) (wr := (fun i => mem i [])) (l := tab_bits_lower) (z := 9) (p := res_bits_lower) (run' := fun _ => none) E_ok tab_bits_lower_ok.mem rfl spec_bits_lower_ok (fun _ _ h => by cases h) (Eq.trans (by kernel_rfl) hr)
noncomputable def con_bits_lower : Con E := ⟨58, (Int × Unit), Unit, (RwL.cons (Rd.int .u8).w RwL.nil), RdBL.nil, 0, R_bits_lower, fun a b => run_bits_lower (.start a.1), res_bits_lower.av, res_bits_lower.bx⟩
theorem con_bits_lower_ok : con_bits_lower.Ok := fun a b r h => fn_ok (fn := Tryz.f58) (code := code_bits_lower) E_ok (by kernel_rfl) (by kernel_rfl) (by kernel_rfl) (Nat.le_of_ble_eq_true rfl) (good_bits_lower (.start a.1) r h)

/-! ### internal/stringslite.IndexByte -/
inductive P_internal_stringslite_IndexByte where
 | start (s0 : ByteArray) (c1 : Int)
noncomputable def place_internal_stringslite_IndexByte : P_internal_stringslite_IndexByte → List Bool
 | .start .. => []
noncomputable def st_internal_stringslite_IndexByte : P_internal_stringslite_IndexByte → St E.S
 | .start s0 c1 => st0 8 [.v (.string s0), .v (.int .u8 c1)] []
abbrev R_internal_stringslite_IndexByte : Type := ((Int × Unit) × Unit)
noncomputable def res_internal_stringslite_IndexByte : Res E (Int × Unit) Unit := { rows := [], flat := [], keep := 0, rl := (RdL.cons (Rd.int .i64) RdL.nil), rb := RdBL.nil }
noncomputable def run_internal_stringslite_IndexByte : P_internal_stringslite_IndexByte → Option R_internal_stringslite_IndexByte
 | .start s0 c1 =>
   (byteAt (s0, c1, ()) ()) >>= fun t1 =>
   some ((t1.1.1, ()), ())
noncomputable def tab_internal_stringslite_IndexByte : List (Plc E P_internal_stringslite_IndexByte) := []
theorem tab_internal_stringslite_IndexByte_ok : All (PlcOk 8 0 place_internal_stringslite_IndexByte st_internal_stringslite_IndexByte) tab_internal_stringslite_IndexByte := trivial
noncomputable def code_internal_stringslite_IndexByte : Code := Tryz.f80.body.getD .skip
noncomputable def spec_internal_stringslite_IndexByte : Spec E.S := (Con.add con_internal_bytealg_IndexByteString noSpec)
theorem spec_internal_stringslite_IndexByte_ok : SpecOk E spec_internal_stringslite_IndexByte := (Con.add_ok con_internal_bytealg_IndexByteString_ok noSpec_ok)
theorem good_internal_stringslite_IndexByte : ∀ pt r, run_internal_stringslite_IndexByte pt = some r → Good E Tryz.f80 code_internal_stringslite_IndexByte 0 (res_internal_stringslite_IndexByte.av r) (res_internal_stringslite_IndexByte.bx r) (place_internal_stringslite_IndexByte pt) (st_internal_stringslite_IndexByte pt) := by
  intro pt r hr
  cases pt <;> exact fn_step (spec := spec_internal_stringslite_IndexByte) (wr := (fun i => mem i [])) (l := tab_internal_stringslite_IndexByte) (z := 8) (p := res_internal_stringslite_IndexByte) (run' := fun _ => none) E_ok tab_internal_stringslite_IndexByte_ok.mem rfl spec_internal_stringslite_IndexByte_ok (fun _ _ h => by cases h) (Eq.trans (by kernel_rfl) hr)
noncomputable def con_internal_stringslite_IndexByte : Con E := ⟨80, (ByteArray × (Int × Unit)), Unit, (RwL.cons Rd.str.w (RwL.cons (Rd.int .u8).w RwL.nil)), RdBL.nil, 0, R_internal_stringslite_IndexByte, fun a b => run_internal_stringslite_IndexByte (.start a.1 a.2.1), res_internal_stringslite_IndexByte.av, res_internal_stringslite_IndexByte.bx⟩
theorem con_internal_stringslite_IndexByte_ok : con_internal_stringslite_IndexByte.Ok := fun a b r h => fn_ok (fn := Tryz.f80) (code := code_internal_stringslite_IndexByte) E_ok (by kernel_rfl) (by kernel_rfl) (by kernel_rfl) (Nat.le_of_ble_eq_true rfl) (good_internal_stringslite_IndexByte (.start a.1 a.2.1) r h)

/-! ### strings.IndexByte -/
inductive P_strings_IndexByte where
 | start (s0 : ByteArray) (c1 : Int)
noncomputable def place_strings_IndexByte : P_strings_IndexByte → List Bool
 | .start .. => []
noncomputable def st_strings_IndexByte : P_strings_IndexByte → St E.S
 | .start s0 c1 => st0 8 [.v (.string s0), .v (.int .u8 c1)] []
abbrev R_strings_IndexByte : Type := ((Int × Unit) × Unit)
noncomputable def res_strings_IndexByte : Res E (Int × Unit) Unit := { rows := [], flat := [], keep := 0, rl := (RdL.cons (Rd.int .i64) RdL.nil), rb := RdBL.nil }
noncomputable def run_strings_IndexByte : P_strings_IndexByte → Option R_strings_IndexByte
 | .start s0 c1 =>
   (run_internal_stringslite_IndexByte (.start s0 c1)) >>= fun t1 =>
   some ((t1.1.1, ()), ())
noncomputable def tab_strings_IndexByte : List (Plc E P_strings_IndexByte) := []
theorem tab_strings_IndexByte_ok : All (PlcOk 8 0 place_strings_IndexByte st_strings_IndexByte) tab_strings_IndexByte := trivial
noncomputable def code_strings_IndexByte : Code := Tryz.f57.body.getD .skip
noncomputable def spec_strings_IndexByte : Spec E.S := (Con.add con_internal_stringslite_IndexByte noSpec)
theorem spec_strings_IndexByte_ok : SpecOk E spec_strings_IndexByte := (Con.add_ok con_internal_stringslite_IndexByte_ok noSpec_ok)
theorem good_strings_IndexByte : ∀ pt r, run_strings_IndexByte pt = some r → Good E Tryz.f57 code_strings_IndexByte 0 (res_strings_IndexByte.av r) (res_strings_IndexByte.bx r) (place_strings_IndexByte pt) (st_strings_IndexByte pt) := by
  intro pt r hr
  cases pt <;> exact fn_step (spec := spec_strings_IndexByte) (wr := (fun i => mem i [])) (l := tab_strings_IndexByte) (z := 8) (p := res_strings_IndexByte) (run' := fun _ => none) E_ok tab_strings_IndexByte_ok.mem rfl spec_strings_IndexByte_ok (fun _ _ h => by cases h) (Eq.trans (by kernel_rfl) hr)
noncomputable def con_strings_IndexByte : Con E := ⟨57, (ByteArray × (Int × Unit)), Unit, (RwL.cons Rd.str.w (RwL.cons (Rd.int .u8).w RwL.nil)), RdBL.nil, 0, R_strings_IndexByte, fun a b => run_strings_IndexByte (.start a.1 a.2.1), res_strings_IndexByte.av, res_strings_IndexByte.bx⟩
theorem con_strings_IndexByte_ok : con_strings_IndexByte.Ok := fun a b r h => fn_ok (fn := Tryz.f57) (code := code_strings_IndexByte) E_ok (by kernel_rfl) (by kernel_rfl) (by kernel_rfl) (Nat.le_of_ble_eq_true rfl) (good_strings_IndexByte (.start a.1 a.2.1) r h)

/-! ### ratchet/bits.number -/
inductive P_bits_number where
 | start (s0 : ByteArray) (base1 : Int)
 | p244 (base1 : Int) (n6 : Int) (count7 : Int) (last8 : Int) (s14 : (List Int)) (s15 : Int) (s16 : Int)
noncomputable def place_bits_number : P_bits_number → List Bool
 | .start .. => []
 | .p244 .. => [false, false, true, false, true, true, true]
noncomputable def st_bits_number : P_bits_number → St E.S
 | .start s0 base1 => st0 51 [.v (.string s0), .v (.int .i64 base1)] []
 | .p244 base1 n6 count7 last8 s14 s15 s16 => mkSt 51 [1, 6, 7, 8, 14, 15, 16] [.v (.int .i64 base1), .v (.int .i64 n6), .v (.int .i64 count7), .v (.int .u8 last8), .sl 5 s14 false, .v (.int .i64 s15), .v (.int .i64 s16)] []
abbrev R_bits_number : Type := ((Int × (Bool × Unit)) × Unit)
noncomputable def res_bits_number : Res E (Int × (Bool × Unit)) Unit := { rows := [], flat := [], keep := 0, rl := (RdL.cons (Rd.int .i64) (RdL.cons Rd.bool RdL.nil)), rb := RdBL.nil }
noncomputable def run_bits_number : P_bits_number → Option R_bits_number
 | .start s0 base1 =>
   run_bits_number (.p244 base1 (0 : Int) (0 : Int) (95 : Int) (strBytes s0) (List.length (strBytes s0) : Int) (0 : Int))
 | .p244 base1 n6 count7 last8 s14 s15 s16 =>
   if (decide (s16 < s15)) = true then
     (idx s14 s16) >>= fun t1 =>
     if (t1 == (95 : Int)) = true then
       if (last8 == (95 : Int)) = true then
         some (((0 : Int), (false, ())), ())
       else
         run_bits_number (.p244 base1 n6 count7 t1 s14 s15 (IntKind.wrap .i64 (s16 + (1 : Int))))
     else
       (span (⟨#[48, 49, 50, 51, 52, 53, 54, 55, 56, 57, 97, 98, 99, 100, 101, 102]⟩ : ByteArray).size (0 : Int) base1) >>= fun t2 =>
       (run_bits_lower (.start t1)) >>= fun t3 =>
       (run_strings_IndexByte (.start ((⟨#[48, 49, 50, 51, 52, 53, 54, 55, 56, 57, 97, 98, 99, 100, 101, 102]⟩ : ByteArray).extract t2.1 t2.2) (bits .or .u8 t1 t3.1.1))) >>= fun t4 =>
       if (decide (t4.1.1 < (0 : Int))) = true then
         some (((0 : Int), (false, ())), ())
       else
         run_bits_number (.p244 base1 (if (IntKind.wrap .i64 ((IntKind.wrap .i64 (n6 * base1)) + t4.1.1)) < (1048576 : Int) then (IntKind.wrap .i64 ((IntKind.wrap .i64 (n6 * base1)) + t4.1.1)) else (1048576 : Int)) (IntKind.wrap .i64 (count7 + (1 : Int))) t1 s14 s15 (IntKind.wrap .i64 (s16 + (1 : Int))))
   else
     if (last8 != (95 : Int)) = true then
       (run_bits_within (.start count7 (1 : Int) (20 : Int))) >>= fun t5 =>
       some ((n6, (t5.1.1, ())), ())
     else
       some ((n6, (false, ())), ())
  partial_fixpoint
noncomputable def tab_bits_number : List (Plc E P_bits_number) := [⟨244, [false, false, true, false, true, true, true], { slots := [1, 6, 7, 8, 14, 15, 16], rows := [], flat := [], keep := 0 }, (Int × (Int × (Int × (Int × ((List Int) × (Int × (Int × Unit))))))), Unit, (RdL.cons (Rd.int .i64) (RdL.cons (Rd.int .i64) (RdL.cons (Rd.int .i64) (RdL.cons (Rd.int .u8) (RdL.cons (Rd.sl 5 false) (RdL.cons (Rd.int .i64) (RdL.cons (Rd.int .i64) RdL.nil))))))), RdBL.nil, fun a b => .p244 a.1 a.2.1 a.2.2.1 a.2.2.2.1 a.2.2.2.2.1 a.2.2.2.2.2.1 a.2.2.2.2.2.2.1⟩]
theorem tab_bits_number_ok : All (PlcOk 51 0 place_bits_number st_bits_number) tab_bits_number := ⟨⟨rfl, rfl, fun _ _ => rfl, fun _ _ => rfl⟩, trivial⟩
noncomputable def code_bits_number : Code := Tryz.f26.body.getD .skip
noncomputable def spec_bits_number : Spec E.S := (Con.add con_bits_within (Con.add con_strings_IndexByte (Con.add con_bits_lower noSpec)))
theorem spec_bits_number_ok : SpecOk E spec_bits_number := (Con.add_ok con_bits_within_ok (Con.add_ok con_strings_IndexByte_ok (Con.add_ok con_bits_lower_ok noSpec_ok)))
theorem good_bits_number : ∀ pt r, run_bits_number pt = some r → Good E Tryz.f26 code_bits_number 0 (res_bits_number.av r) (res_bits_number.bx r) (place_bits_number pt) (st_bits_number pt) := by
  refine run_bits_number.partial_correctness (fun pt r => Good E Tryz.f26 code_bits_number 0 (res_bits_number.av r) (res_bits_number.bx r) (place_bits_number pt) (st_bits_number pt)) ?_
  intro run' ih pt r hr
  cases pt <;> exact fn_step (spec := spec_bits_number) (wr := (fun i => mem i [])) (l := tab_bits_number) (z := 51) (p := res_bits_number) E_ok tab_bits_number_ok.mem rfl spec_bits_number_ok ih (Eq.trans (by kernel_rfl) hr)
noncomputable def con_bits_number : Con E := ⟨26, (ByteArray × (Int × Unit)), Unit, (RwL.cons Rd.str.w (RwL.cons (Rd.int .i64).w RwL.nil)), RdBL.nil, 0, R_bits_number, fun a b => run_bits_number (.start a.1 a.2.1), res_bits_number.av, res_bits_number.bx⟩
theorem con_bits_number_ok : con_bits_number.Ok := fun a b r h => fn_ok (fn := Tryz.f26) (code := code_bits_number) E_ok (by kernel_rfl) (by kernel_rfl) (by kernel_rfl) (Nat.le_of_ble_eq_true rfl) (good_bits_number (.start a.1 a.2.1) r h)

/-! ### ratchet/bits.ParseBits -/
inductive P_bits_ParseBits where
 | start (s0 : ByteArray)
 | p63 (rest5 : ByteArray) (width7 : Int) (B0_0 : Int) (B0_1 : Int)
 | p255 (rest5 : ByteArray) (width7 : Int) (base9 : Int) (B0_0 : Int) (B0_1 : Int)
noncomputable def place_bits_ParseBits : P_bits_ParseBits → List Bool
 | .start .. => []
 | .p63 .. => [true, true, true, true, true]
 | .p255 .. => [true, true, true, true, true, true, true]
noncomputable def st_bits_ParseBits : P_bits_ParseBits → St E.S
 | .start s0 => st0 95 [.v (.string s0)] []
 | .p63 rest5 width7 B0_0 B0_1 => mkSt 95 [2, 5, 7] [.bp 0 0, .v (.string rest5), .v (.int .i64 width7)] [.var 23 [.v (.int .i64 B0_0), .v (.int .i64 B0_1)]]
 | .p255 rest5 width7 base9 B0_0 B0_1 => mkSt 95 [2, 5, 7, 9] [.bp 0 0, .v (.string rest5), .v (.int .i64 width7), .v (.int .i64 base9)] [.var 23 [.v (.int .i64 B0_0), .v (.int .i64 B0_1)]]
abbrev R_bits_ParseBits : Type := (((Int × (Int × Unit)) × (Int × Unit)) × Unit)
noncomputable def res_bits_ParseBits : Res E ((Int × (Int × Unit)) × (Int × Unit)) Unit := { rows := [], flat := [], keep := 0, rl := (RdL.cons (Rd.agg (RdL.cons (Rd.int .i64) (RdL.cons (Rd.int .i64) RdL.nil))) (RdL.cons (Rd.int .i64) RdL.nil)), rb := RdBL.nil }
noncomputable def run_bits_ParseBits : P_bits_ParseBits → Option R_bits_ParseBits
 | .start s0 =>
   if (decide ((s0.size : Int) > (60000 : Int))) = true then
     some ((((0 : Int), ((0 : Int), ())), ((8 : Int), ())), ())
   else
     (run_strings_Cut (.start s0 (⟨#[39]⟩ : ByteArray))) >>= fun t1 =>
     (atoiRun (t1.1.1, ()) ()) >>= fun t2 =>
     if (!t1.1.2.2.1) = true then
       some ((((0 : Int), ((0 : Int), ())), ((7 : Int), ())), ())
     else
       if (!!t2.1.2.1) = true then
         some ((((0 : Int), ((0 : Int), ())), ((7 : Int), ())), ())
       else
         (itoaRun (t2.1.1, ()) ()) >>= fun t3 =>
         if (!(seq t3.1.1 t1.1.1)) = true then
           some ((((0 : Int), ((0 : Int), ())), ((7 : Int), ())), ())
         else
           (run_bits_within (.start (t1.1.1.size : Int) (1 : Int) (2 : Int))) >>= fun t4 =>
           if (!t4.1.1) = true then
             some ((((0 : Int), ((0 : Int), ())), ((7 : Int), ())), ())
           else
             if (decide (t2.1.1 < (0 : Int))) = true then
               some ((((0 : Int), ((0 : Int), ())), ((7 : Int), ())), ())
             else
               if (seq t1.1.2.1 (⟨#[]⟩ : ByteArray)) = true then
                 some ((((0 : Int), ((0 : Int), ())), ((7 : Int), ())), ())
               else
                 run_bits_ParseBits (.p63 t1.1.2.1 t2.1.1 (0 : Int) (0 : Int))
 | .p63 rest5 width7 B0_0 B0_1 =>
   (span (List.length glob0) (0 : Int) (List.length glob0 : Int)) >>= fun t1 =>
   (sidx rest5 (0 : Int)) >>= fun t2 =>
   (run_slices_Index_byte_byte (.start (cut glob0 t1) t2)) >>= fun t3 =>
   (sidx rest5 (0 : Int)) >>= fun t4 =>
   if (t4 == (0 : Int)) = true then
     some ((((0 : Int), ((0 : Int), ())), ((7 : Int), ())), ())
   else
     if (decide (t3.1.1 < (0 : Int))) = true then
       some ((((0 : Int), ((0 : Int), ())), ((7 : Int), ())), ())
     else
       run_bits_ParseBits (.p255 rest5 width7 t3.1.1 B0_0 B0_1)
 | .p255 rest5 width7 base9 B0_0 B0_1 =>
   (span rest5.size (1 : Int) (rest5.size : Int)) >>= fun t1 =>
   (run_bits_number (.start (rest5.extract t1.1 t1.2) base9)) >>= fun t2 =>
   (run_bits_unless (.start t2.1.2.1 (7 : Int))) >>= fun t3 =>
   (run_bits_isWidth (.start width7)) >>= fun t4 =>
   (run_bits_unless (.start t4.1.1 (25 : Int))) >>= fun t5 =>
   (run_bits_first (.start ([t3.1.1, t5.1.1] : List Int))) >>= fun t6 =>
   (run_bits_CheckBits (.start width7 t2.1.1)) >>= fun t7 =>
   (run_bits_first (.start ([t6.1.1, t7.1.1] : List Int))) >>= fun t8 =>
   if (t8.1.1 != (0 : Int)) = true then
     some ((((0 : Int), ((0 : Int), ())), (t8.1.1, ())), ())
   else
     some (((width7, (t2.1.1, ())), ((0 : Int), ())), ())
  partial_fixpoint
noncomputable def tab_bits_ParseBits : List (Plc E P_bits_ParseBits) := [⟨63, [true, true, true, true, true], { slots := [2, 5, 7], rows := [], flat := [], keep := 0 }, (Unit × (ByteArray × (Int × Unit))), ((Int × (Int × Unit)) × Unit), (RdL.cons (Rd.bp 0 0) (RdL.cons Rd.str (RdL.cons (Rd.int .i64) RdL.nil))), (RdBL.cons (RdB.var 23 (RdL.cons (Rd.int .i64) (RdL.cons (Rd.int .i64) RdL.nil))) RdBL.nil), fun a b => .p63 a.2.1 a.2.2.1 b.1.1 b.1.2.1⟩,
  ⟨255, [true, true, true, true, true, true, true], { slots := [2, 5, 7, 9], rows := [], flat := [], keep := 0 }, (Unit × (ByteArray × (Int × (Int × Unit)))), ((Int × (Int × Unit)) × Unit), (RdL.cons (Rd.bp 0 0) (RdL.cons Rd.str (RdL.cons (Rd.int .i64) (RdL.cons (Rd.int .i64) RdL.nil)))), (RdBL.cons (RdB.var 23 (RdL.cons (Rd.int .i64) (RdL.cons (Rd.int .i64) RdL.nil))) RdBL.nil), fun a b => .p255 a.2.1 a.2.2.1 a.2.2.2.1 b.1.1 b.1.2.1⟩]
theorem tab_bits_ParseBits_ok : All (PlcOk 95 0 place_bits_ParseBits st_bits_ParseBits) tab_bits_ParseBits := ⟨⟨rfl, rfl, fun _ _ => rfl, fun _ _ => rfl⟩, ⟨⟨rfl, rfl, fun _ _ => rfl, fun _ _ => rfl⟩, trivial⟩⟩
noncomputable def code_bits_ParseBits : Code := Tryz.f6.body.getD .skip
noncomputable def spec_bits_ParseBits : Spec E.S := (Con.add con_bits_CheckBits (Con.add con_bits_first (Con.add con_bits_isWidth (Con.add con_bits_unless (Con.add con_bits_number (Con.add con_slices_Index_byte_byte (Con.add con_bits_within (Con.add con_strconv_Itoa (Con.add con_strconv_Atoi (Con.add con_strings_Cut noSpec))))))))))
theorem spec_bits_ParseBits_ok : SpecOk E spec_bits_ParseBits := (Con.add_ok con_bits_CheckBits_ok (Con.add_ok con_bits_first_ok (Con.add_ok con_bits_isWidth_ok (Con.add_ok con_bits_unless_ok (Con.add_ok con_bits_number_ok (Con.add_ok con_slices_Index_byte_byte_ok (Con.add_ok con_bits_within_ok (Con.add_ok con_strconv_Itoa_ok (Con.add_ok con_strconv_Atoi_ok (Con.add_ok con_strings_Cut_ok noSpec_ok))))))))))
theorem good_bits_ParseBits : ∀ pt r, run_bits_ParseBits pt = some r → Good E Tryz.f6 code_bits_ParseBits 0 (res_bits_ParseBits.av r) (res_bits_ParseBits.bx r) (place_bits_ParseBits pt) (st_bits_ParseBits pt) := by
  refine run_bits_ParseBits.partial_correctness (fun pt r => Good E Tryz.f6 code_bits_ParseBits 0 (res_bits_ParseBits.av r) (res_bits_ParseBits.bx r) (place_bits_ParseBits pt) (st_bits_ParseBits pt)) ?_
  intro run' ih pt r hr
  cases pt <;> exact fn_step (spec := spec_bits_ParseBits) (wr := (fun i => mem i [])) (l := tab_bits_ParseBits) (z := 95) (p := res_bits_ParseBits) E_ok tab_bits_ParseBits_ok.mem rfl spec_bits_ParseBits_ok ih (Eq.trans (by kernel_rfl) hr)
noncomputable def con_bits_ParseBits : Con E := ⟨6, (ByteArray × Unit), Unit, (RwL.cons Rd.str.w RwL.nil), RdBL.nil, 0, R_bits_ParseBits, fun a b => run_bits_ParseBits (.start a.1), res_bits_ParseBits.av, res_bits_ParseBits.bx⟩
theorem con_bits_ParseBits_ok : con_bits_ParseBits.Ok := fun a b r h => fn_ok (fn := Tryz.f6) (code := code_bits_ParseBits) E_ok (by kernel_rfl) (by kernel_rfl) (by kernel_rfl) (Nat.le_of_ble_eq_true rfl) (good_bits_ParseBits (.start a.1) r h)

/-! ### ratchet/ratchetbase.Cut -/
inductive P_ratchetbase_Cut where
 | start (s0 : ByteArray) (at1 : Int)
 | p244 (s0 : ByteArray) (at1 : Int) (from6 : Int) (i7 : Int) (B0 : (List ByteArray))
noncomputable def place_ratchetbase_Cut : P_ratchetbase_Cut → List Bool
 | .start .. => []
 | .p244 .. => [false, false, true, false, true, true, true]
noncomputable def st_ratchetbase_Cut : P_ratchetbase_Cut → St E.S
 | .start s0 at1 => st0 34 [.v (.string s0), .v (.int .u8 at1)] []
 | .p244 s0 at1 from6 i7 B0 => mkSt 34 [0, 1, 5, 6, 7] [.v (.string s0), .v (.int .u8 at1), .rw 0, .v (.int .i64 from6), .v (.int .i64 i7)] [.row 9 B0 true]
abbrev R_ratchetbase_Cut : Type := ((Unit × Unit) × ((List ByteArray) × Unit))
noncomputable def res_ratchetbase_Cut : Res E (Unit × Unit) ((List ByteArray) × Unit) := { rows := [], flat := [], keep := 0, rl := (RdL.cons (Rd.rw 0) RdL.nil), rb := (RdBL.cons (RdB.row 9 true) RdBL.nil) }
noncomputable def run_ratchetbase_Cut : P_ratchetbase_Cut → Option R_ratchetbase_Cut
 | .start s0 at1 =>
   run_ratchetbase_Cut (.p244 s0 at1 (0 : Int) (0 : Int) ([]))
 | .p244 s0 at1 from6 i7 B0 =>
   if (decide (i7 < (s0.size : Int))) = true then
     (sidx s0 i7) >>= fun t1 =>
     if (t1 == at1) = true then
       (span s0.size from6 i7) >>= fun t2 =>
       if (fits (List.length B0) (List.length ([s0.extract t2.1 t2.2] : List ByteArray)) 16) = true then
         run_ratchetbase_Cut (.p244 s0 at1 (IntKind.wrap .i64 (i7 + (1 : Int))) (IntKind.wrap .i64 (i7 + (1 : Int))) (B0 ++ ([s0.extract t2.1 t2.2] : List ByteArray)))
       else none
     else
       run_ratchetbase_Cut (.p244 s0 at1 from6 (IntKind.wrap .i64 (i7 + (1 : Int))) B0)
   else
     (span s0.size from6 (s0.size : Int)) >>= fun t3 =>
     if (fits (List.length B0) (List.length ([s0.extract t3.1 t3.2] : List ByteArray)) 16) = true then
       some (((), ()), (B0 ++ ([s0.extract t3.1 t3.2] : List ByteArray), ()))
     else none
  partial_fixpoint
noncomputable def tab_ratchetbase_Cut : List (Plc E P_ratchetbase_Cut) := [⟨244, [false, false, true, false, true, true, true], { slots := [0, 1, 5, 6, 7], rows := [(5, 9)], flat := [], keep := 0 }, (ByteArray × (Int × (Unit × (Int × (Int × Unit))))), ((List ByteArray) × Unit), (RdL.cons Rd.str (RdL.cons (Rd.int .u8) (RdL.cons (Rd.rw 0) (RdL.cons (Rd.int .i64) (RdL.cons (Rd.int .i64) RdL.nil))))), (RdBL.cons (RdB.row 9 true) RdBL.nil), fun a b => .p244 a.1 a.2.1 a.2.2.2.1 a.2.2.2.2.1 b.1⟩]
theorem tab_ratchetbase_Cut_ok : All (PlcOk 34 0 place_ratchetbase_Cut st_ratchetbase_Cut) tab_ratchetbase_Cut := ⟨⟨rfl, rfl, fun _ _ => rfl, fun _ _ => rfl⟩, trivial⟩
noncomputable def code_ratchetbase_Cut : Code := Tryz.f28.body.getD .skip
noncomputable def spec_ratchetbase_Cut : Spec E.S := noSpec
theorem spec_ratchetbase_Cut_ok : SpecOk E spec_ratchetbase_Cut := noSpec_ok
theorem good_ratchetbase_Cut : ∀ pt r, run_ratchetbase_Cut pt = some r → Good E Tryz.f28 code_ratchetbase_Cut 0 (res_ratchetbase_Cut.av r) (res_ratchetbase_Cut.bx r) (place_ratchetbase_Cut pt) (st_ratchetbase_Cut pt) := by
  refine run_ratchetbase_Cut.partial_correctness (fun pt r => Good E Tryz.f28 code_ratchetbase_Cut 0 (res_ratchetbase_Cut.av r) (res_ratchetbase_Cut.bx r) (place_ratchetbase_Cut pt) (st_ratchetbase_Cut pt)) ?_
  intro run' ih pt r hr
  cases pt <;> exact fn_step (spec := spec_ratchetbase_Cut) (wr := (fun i => mem i [])) (l := tab_ratchetbase_Cut) (z := 34) (p := res_ratchetbase_Cut) E_ok tab_ratchetbase_Cut_ok.mem rfl spec_ratchetbase_Cut_ok ih (Eq.trans (by kernel_rfl) hr)
noncomputable def con_ratchetbase_Cut : Con E := ⟨28, (ByteArray × (Int × Unit)), Unit, (RwL.cons Rd.str.w (RwL.cons (Rd.int .u8).w RwL.nil)), RdBL.nil, 0, R_ratchetbase_Cut, fun a b => run_ratchetbase_Cut (.start a.1 a.2.1), res_ratchetbase_Cut.av, res_ratchetbase_Cut.bx⟩
theorem con_ratchetbase_Cut_ok : con_ratchetbase_Cut.Ok := fun a b r h => fn_ok (fn := Tryz.f28) (code := code_ratchetbase_Cut) E_ok (by kernel_rfl) (by kernel_rfl) (by kernel_rfl) (Nat.le_of_ble_eq_true rfl) (good_ratchetbase_Cut (.start a.1 a.2.1) r h)

/-! ### ratchet/ratchetbase.Number -/
inductive P_ratchetbase_Number where
 | start (s0 : ByteArray) (digits1 : Int)
 | p15 (s0 : ByteArray) (digits1 : Int) (at6 : Int)
 | p31 (s0 : ByteArray) (at6 : Int)
 | p1012 (s0 : ByteArray) (at6 : Int) (n7 : Int) (i8 : Int)
 | p16201 (s0 : ByteArray) (at6 : Int) (n7 : Int) (i8 : Int)
noncomputable def place_ratchetbase_Number : P_ratchetbase_Number → List Bool
 | .start .. => []
 | .p15 .. => [true, true, true]
 | .p31 .. => [true, true, true, true]
 | .p1012 .. => [false, false, true, false, true, true, true, true, true]
 | .p16201 .. => [true, false, false, true, false, false, true, false, true, true, true, true, true]
noncomputable def st_ratchetbase_Number : P_ratchetbase_Number → St E.S
 | .start s0 digits1 => st0 70 [.v (.string s0), .v (.int .i64 digits1)] []
 | .p15 s0 digits1 at6 => mkSt 70 [0, 1, 6] [.v (.string s0), .v (.int .i64 digits1), .v (.int .i64 at6)] []
 | .p31 s0 at6 => mkSt 70 [0, 6] [.v (.string s0), .v (.int .i64 at6)] []
 | .p1012 s0 at6 n7 i8 => mkSt 70 [0, 6, 7, 8] [.v (.string s0), .v (.int .i64 at6), .v (.int .i64 n7), .v (.int .i64 i8)] []
 | .p16201 s0 at6 n7 i8 => mkSt 70 [0, 6, 7, 8] [.v (.string s0), .v (.int .i64 at6), .v (.int .i64 n7), .v (.int .i64 i8)] []
abbrev R_ratchetbase_Number : Type := ((Int × (Bool × Unit)) × Unit)
noncomputable def res_ratchetbase_Number : Res E (Int × (Bool × Unit)) Unit := { rows := [], flat := [], keep := 0, rl := (RdL.cons (Rd.int .i64) (RdL.cons Rd.bool RdL.nil)), rb := RdBL.nil }
noncomputable def run_ratchetbase_Number : P_ratchetbase_Number → Option R_ratchetbase_Number
 | .start s0 digits1 =>
   if (decide ((s0.size : Int) > (0 : Int))) = true then
     (sidx s0 (0 : Int)) >>= fun t1 =>
     if (t1 == (45 : Int)) = true then
       run_ratchetbase_Number (.p15 s0 digits1 (1 : Int))
     else
       run_ratchetbase_Number (.p15 s0 digits1 (0 : Int))
   else
     run_ratchetbase_Number (.p15 s0 digits1 (0 : Int))
 | .p15 s0 digits1 at6 =>
   if ((s0.size : Int) == at6) = true then
     some (((0 : Int), (false, ())), ())
   else
     if (decide ((IntKind.wrap .i64 ((s0.size : Int) - at6)) > digits1)) = true then
       some (((0 : Int), (false, ())), ())
     else
       (sidx s0 at6) >>= fun t1 =>
       if (t1 == (48 : Int)) = true then
         if (decide ((s0.size : Int) > (1 : Int))) = true then
           some (((0 : Int), (false, ())), ())
         else
           run_ratchetbase_Number (.p31 s0 at6)
       else
         run_ratchetbase_Number (.p31 s0 at6)
 | .p31 s0 at6 =>
   run_ratchetbase_Number (.p1012 s0 at6 (0 : Int) at6)
 | .p1012 s0 at6 n7 i8 =>
   if (decide (i8 < (s0.size : Int))) = true then
     (sidx s0 i8) >>= fun t1 =>
     if (decide (t1 < (48 : Int))) = true then
       some (((0 : Int), (false, ())), ())
     else
       (sidx s0 i8) >>= fun t2 =>
       if (decide (t2 > (57 : Int))) = true then
         some (((0 : Int), (false, ())), ())
       else
         run_ratchetbase_Number (.p16201 s0 at6 n7 i8)
   else
     if (at6 == (1 : Int)) = true then
       some ((IntKind.wrap .i64 (0 - n7), (true, ())), ())
     else
       some ((n7, (true, ())), ())
 | .p16201 s0 at6 n7 i8 =>
   (sidx s0 i8) >>= fun t1 =>
   run_ratchetbase_Number (.p1012 s0 at6 (IntKind.wrap .i64 ((IntKind.wrap .i64 ((10 : Int) * n7)) + (IntKind.wrap .i64 (IntKind.wrap .u8 (t1 - (48 : Int)))))) (IntKind.wrap .i64 (i8 + (1 : Int))))
  partial_fixpoint
noncomputable def tab_ratchetbase_Number : List (Plc E P_ratchetbase_Number) := [⟨15, [true, true, true], { slots := [0, 1, 6], rows := [], flat := [], keep := 0 }, (ByteArray × (Int × (Int × Unit))), Unit, (RdL.cons Rd.str (RdL.cons (Rd.int .i64) (RdL.cons (Rd.int .i64) RdL.nil))), RdBL.nil, fun a b => .p15 a.1 a.2.1 a.2.2.1⟩,
  ⟨31, [true, true, true, true], { slots := [0, 6], rows := [], flat := [], keep := 0 }, (ByteArray × (Int × Unit)), Unit, (RdL.cons Rd.str (RdL.cons (Rd.int .i64) RdL.nil)), RdBL.nil, fun a b => .p31 a.1 a.2.1⟩,
  ⟨1012, [false, false, true, false, true, true, true, true, true], { slots := [0, 6, 7, 8], rows := [], flat := [], keep := 0 }, (ByteArray × (Int × (Int × (Int × Unit)))), Unit, (RdL.cons Rd.str (RdL.cons (Rd.int .i64) (RdL.cons (Rd.int .i64) (RdL.cons (Rd.int .i64) RdL.nil)))), RdBL.nil, fun a b => .p1012 a.1 a.2.1 a.2.2.1 a.2.2.2.1⟩,
  ⟨16201, [true, false, false, true, false, false, true, false, true, true, true, true, true], { slots := [0, 6, 7, 8], rows := [], flat := [], keep := 0 }, (ByteArray × (Int × (Int × (Int × Unit)))), Unit, (RdL.cons Rd.str (RdL.cons (Rd.int .i64) (RdL.cons (Rd.int .i64) (RdL.cons (Rd.int .i64) RdL.nil)))), RdBL.nil, fun a b => .p16201 a.1 a.2.1 a.2.2.1 a.2.2.2.1⟩]
theorem tab_ratchetbase_Number_ok : All (PlcOk 70 0 place_ratchetbase_Number st_ratchetbase_Number) tab_ratchetbase_Number := ⟨⟨rfl, rfl, fun _ _ => rfl, fun _ _ => rfl⟩, ⟨⟨rfl, rfl, fun _ _ => rfl, fun _ _ => rfl⟩, ⟨⟨rfl, rfl, fun _ _ => rfl, fun _ _ => rfl⟩, ⟨⟨rfl, rfl, fun _ _ => rfl, fun _ _ => rfl⟩, trivial⟩⟩⟩⟩
noncomputable def code_ratchetbase_Number : Code := Tryz.f29.body.getD .skip
noncomputable def spec_ratchetbase_Number : Spec E.S := noSpec
theorem spec_ratchetbase_Number_ok : SpecOk E spec_ratchetbase_Number := noSpec_ok
theorem good_ratchetbase_Number : ∀ pt r, run_ratchetbase_Number pt = some r → Good E Tryz.f29 code_ratchetbase_Number 0 (res_ratchetbase_Number.av r) (res_ratchetbase_Number.bx r) (place_ratchetbase_Number pt) (st_ratchetbase_Number pt) := by
  refine run_ratchetbase_Number.partial_correctness (fun pt r => Good E Tryz.f29 code_ratchetbase_Number 0 (res_ratchetbase_Number.av r) (res_ratchetbase_Number.bx r) (place_ratchetbase_Number pt) (st_ratchetbase_Number pt)) ?_
  intro run' ih pt r hr
  cases pt <;> exact fn_step (spec := spec_ratchetbase_Number) (wr := (fun i => mem i [])) (l := tab_ratchetbase_Number) (z := 70) (p := res_ratchetbase_Number) E_ok tab_ratchetbase_Number_ok.mem rfl spec_ratchetbase_Number_ok ih (Eq.trans (by kernel_rfl) hr)
noncomputable def con_ratchetbase_Number : Con E := ⟨29, (ByteArray × (Int × Unit)), Unit, (RwL.cons Rd.str.w (RwL.cons (Rd.int .i64).w RwL.nil)), RdBL.nil, 0, R_ratchetbase_Number, fun a b => run_ratchetbase_Number (.start a.1 a.2.1), res_ratchetbase_Number.av, res_ratchetbase_Number.bx⟩
theorem con_ratchetbase_Number_ok : con_ratchetbase_Number.Ok := fun a b r h => fn_ok (fn := Tryz.f29) (code := code_ratchetbase_Number) E_ok (by kernel_rfl) (by kernel_rfl) (by kernel_rfl) (Nat.le_of_ble_eq_true rfl) (good_ratchetbase_Number (.start a.1 a.2.1) r h)

/-! ### ratchet/ratchetbase.Within -/
inductive P_ratchetbase_Within where
 | start (n0 : Int) (lo1 : Int) (hi2 : Int)
noncomputable def place_ratchetbase_Within : P_ratchetbase_Within → List Bool
 | .start .. => []
noncomputable def st_ratchetbase_Within : P_ratchetbase_Within → St E.S
 | .start n0 lo1 hi2 => st0 15 [.v (.int .i64 n0), .v (.int .i64 lo1), .v (.int .i64 hi2)] []
abbrev R_ratchetbase_Within : Type := ((Bool × Unit) × Unit)
noncomputable def res_ratchetbase_Within : Res E (Bool × Unit) Unit := { rows := [], flat := [], keep := 0, rl := (RdL.cons Rd.bool RdL.nil), rb := RdBL.nil }
noncomputable def run_ratchetbase_Within : P_ratchetbase_Within → Option R_ratchetbase_Within
 | .start n0 lo1 hi2 =>
   if (decide (lo1 ≤ n0)) = true then
     some ((decide (n0 ≤ hi2), ()), ())
   else
     some ((false, ()), ())
noncomputable def tab_ratchetbase_Within : List (Plc E P_ratchetbase_Within) := []
theorem tab_ratchetbase_Within_ok : All (PlcOk 15 0 place_ratchetbase_Within st_ratchetbase_Within) tab_ratchetbase_Within := trivial
noncomputable def code_ratchetbase_Within : Code := Tryz.f31.body.getD .skip
noncomputable def spec_ratchetbase_Within : Spec E.S := noSpec
theorem spec_ratchetbase_Within_ok : SpecOk E spec_ratchetbase_Within := noSpec_ok
theorem good_ratchetbase_Within : ∀ pt r, run_ratchetbase_Within pt = some r → Good E Tryz.f31 code_ratchetbase_Within 0 (res_ratchetbase_Within.av r) (res_ratchetbase_Within.bx r) (place_ratchetbase_Within pt) (st_ratchetbase_Within pt) := by
  intro pt r hr
  cases pt <;> exact fn_step (spec := spec_ratchetbase_Within) (wr := (fun i => mem i [])) (l := tab_ratchetbase_Within) (z := 15) (p := res_ratchetbase_Within) (run' := fun _ => none) E_ok tab_ratchetbase_Within_ok.mem rfl spec_ratchetbase_Within_ok (fun _ _ h => by cases h) (Eq.trans (by kernel_rfl) hr)
noncomputable def con_ratchetbase_Within : Con E := ⟨31, (Int × (Int × (Int × Unit))), Unit, (RwL.cons (Rd.int .i64).w (RwL.cons (Rd.int .i64).w (RwL.cons (Rd.int .i64).w RwL.nil))), RdBL.nil, 0, R_ratchetbase_Within, fun a b => run_ratchetbase_Within (.start a.1 a.2.1 a.2.2.1), res_ratchetbase_Within.av, res_ratchetbase_Within.bx⟩
theorem con_ratchetbase_Within_ok : con_ratchetbase_Within.Ok := fun a b r h => fn_ok (fn := Tryz.f31) (code := code_ratchetbase_Within) E_ok (by kernel_rfl) (by kernel_rfl) (by kernel_rfl) (Nat.le_of_ble_eq_true rfl) (good_ratchetbase_Within (.start a.1 a.2.1 a.2.2.1) r h)

/-! ### ratchet/ratchetbase.IsWidth -/
inductive P_ratchetbase_IsWidth where
 | start (n0 : Int)
noncomputable def place_ratchetbase_IsWidth : P_ratchetbase_IsWidth → List Bool
 | .start .. => []
noncomputable def st_ratchetbase_IsWidth : P_ratchetbase_IsWidth → St E.S
 | .start n0 => st0 5 [.v (.int .i64 n0)] []
abbrev R_ratchetbase_IsWidth : Type := ((Bool × Unit) × Unit)
noncomputable def res_ratchetbase_IsWidth : Res E (Bool × Unit) Unit := { rows := [], flat := [], keep := 0, rl := (RdL.cons Rd.bool RdL.nil), rb := RdBL.nil }
noncomputable def run_ratchetbase_IsWidth : P_ratchetbase_IsWidth → Option R_ratchetbase_IsWidth
 | .start n0 =>
   (run_ratchetbase_Within (.start n0 (1 : Int) (16 : Int))) >>= fun t1 =>
   some ((t1.1.1, ()), ())
noncomputable def tab_ratchetbase_IsWidth : List (Plc E P_ratchetbase_IsWidth) := []
theorem tab_ratchetbase_IsWidth_ok : All (PlcOk 5 0 place_ratchetbase_IsWidth st_ratchetbase_IsWidth) tab_ratchetbase_IsWidth := trivial
noncomputable def code_ratchetbase_IsWidth : Code := Tryz.f59.body.getD .skip
noncomputable def spec_ratchetbase_IsWidth : Spec E.S := (Con.add con_ratchetbase_Within noSpec)
theorem spec_ratchetbase_IsWidth_ok : SpecOk E spec_ratchetbase_IsWidth := (Con.add_ok con_ratchetbase_Within_ok noSpec_ok)
theorem good_ratchetbase_IsWidth : ∀ pt r, run_ratchetbase_IsWidth pt = some r → Good E Tryz.f59 code_ratchetbase_IsWidth 0 (res_ratchetbase_IsWidth.av r) (res_ratchetbase_IsWidth.bx r) (place_ratchetbase_IsWidth pt) (st_ratchetbase_IsWidth pt) := by
  intro pt r hr
  cases pt <;> exact fn_step (spec := spec_ratchetbase_IsWidth) (wr := (fun i => mem i [])) (l := tab_ratchetbase_IsWidth) (z := 5) (p := res_ratchetbase_IsWidth) (run' := fun _ => none) E_ok tab_ratchetbase_IsWidth_ok.mem rfl spec_ratchetbase_IsWidth_ok (fun _ _ h => by cases h) (Eq.trans (by kernel_rfl) hr)
noncomputable def con_ratchetbase_IsWidth : Con E := ⟨59, (Int × Unit), Unit, (RwL.cons (Rd.int .i64).w RwL.nil), RdBL.nil, 0, R_ratchetbase_IsWidth, fun a b => run_ratchetbase_IsWidth (.start a.1), res_ratchetbase_IsWidth.av, res_ratchetbase_IsWidth.bx⟩
theorem con_ratchetbase_IsWidth_ok : con_ratchetbase_IsWidth.Ok := fun a b r h => fn_ok (fn := Tryz.f59) (code := code_ratchetbase_IsWidth) E_ok (by kernel_rfl) (by kernel_rfl) (by kernel_rfl) (Nat.le_of_ble_eq_true rfl) (good_ratchetbase_IsWidth (.start a.1) r h)

/-! ### ratchet/ratchetbase.Power -/
inductive P_ratchetbase_Power where
 | start (n0 : Int)
noncomputable def place_ratchetbase_Power : P_ratchetbase_Power → List Bool
 | .start .. => []
noncomputable def st_ratchetbase_Power : P_ratchetbase_Power → St E.S
 | .start n0 => st0 5 [.v (.int .i64 n0)] []
abbrev R_ratchetbase_Power : Type := ((Int × Unit) × Unit)
noncomputable def res_ratchetbase_Power : Res E (Int × Unit) Unit := { rows := [], flat := [], keep := 0, rl := (RdL.cons (Rd.int .i64) RdL.nil), rb := RdBL.nil }
noncomputable def run_ratchetbase_Power : P_ratchetbase_Power → Option R_ratchetbase_Power
 | .start n0 =>
   if (decide ((0 : Int) ≤ n0)) = true then
     some ((shl .i64 (1 : Int) n0, ()), ())
   else none
noncomputable def tab_ratchetbase_Power : List (Plc E P_ratchetbase_Power) := []
theorem tab_ratchetbase_Power_ok : All (PlcOk 5 0 place_ratchetbase_Power st_ratchetbase_Power) tab_ratchetbase_Power := trivial
noncomputable def code_ratchetbase_Power : Code := Tryz.f81.body.getD .skip
noncomputable def spec_ratchetbase_Power : Spec E.S := noSpec
theorem spec_ratchetbase_Power_ok : SpecOk E spec_ratchetbase_Power := noSpec_ok
theorem good_ratchetbase_Power : ∀ pt r, run_ratchetbase_Power pt = some r → Good E Tryz.f81 code_ratchetbase_Power 0 (res_ratchetbase_Power.av r) (res_ratchetbase_Power.bx r) (place_ratchetbase_Power pt) (st_ratchetbase_Power pt) := by
  intro pt r hr
  cases pt <;> exact fn_step (spec := spec_ratchetbase_Power) (wr := (fun i => mem i [])) (l := tab_ratchetbase_Power) (z := 5) (p := res_ratchetbase_Power) (run' := fun _ => none) E_ok tab_ratchetbase_Power_ok.mem rfl spec_ratchetbase_Power_ok (fun _ _ h => by cases h) (Eq.trans (by kernel_rfl) hr)
noncomputable def con_ratchetbase_Power : Con E := ⟨81, (Int × Unit), Unit, (RwL.cons (Rd.int .i64).w RwL.nil), RdBL.nil, 0, R_ratchetbase_Power, fun a b => run_ratchetbase_Power (.start a.1), res_ratchetbase_Power.av, res_ratchetbase_Power.bx⟩
theorem con_ratchetbase_Power_ok : con_ratchetbase_Power.Ok := fun a b r h => fn_ok (fn := Tryz.f81) (code := code_ratchetbase_Power) E_ok (by kernel_rfl) (by kernel_rfl) (by kernel_rfl) (Nat.le_of_ble_eq_true rfl) (good_ratchetbase_Power (.start a.1) r h)

/-! ### ratchet/ratchetbase.Fits -/
inductive P_ratchetbase_Fits where
 | start (n0 : Int) (width1 : Int)
noncomputable def place_ratchetbase_Fits : P_ratchetbase_Fits → List Bool
 | .start .. => []
noncomputable def st_ratchetbase_Fits : P_ratchetbase_Fits → St E.S
 | .start n0 width1 => st0 10 [.v (.int .i64 n0), .v (.int .i64 width1)] []
abbrev R_ratchetbase_Fits : Type := ((Bool × Unit) × Unit)
noncomputable def res_ratchetbase_Fits : Res E (Bool × Unit) Unit := { rows := [], flat := [], keep := 0, rl := (RdL.cons Rd.bool RdL.nil), rb := RdBL.nil }
noncomputable def run_ratchetbase_Fits : P_ratchetbase_Fits → Option R_ratchetbase_Fits
 | .start n0 width1 =>
   (run_ratchetbase_Power (.start width1)) >>= fun t1 =>
   (run_ratchetbase_Within (.start n0 (0 : Int) (IntKind.wrap .i64 (t1.1.1 - (1 : Int))))) >>= fun t2 =>
   some ((t2.1.1, ()), ())
noncomputable def tab_ratchetbase_Fits : List (Plc E P_ratchetbase_Fits) := []
theorem tab_ratchetbase_Fits_ok : All (PlcOk 10 0 place_ratchetbase_Fits st_ratchetbase_Fits) tab_ratchetbase_Fits := trivial
noncomputable def code_ratchetbase_Fits : Code := Tryz.f60.body.getD .skip
noncomputable def spec_ratchetbase_Fits : Spec E.S := (Con.add con_ratchetbase_Within (Con.add con_ratchetbase_Power noSpec))
theorem spec_ratchetbase_Fits_ok : SpecOk E spec_ratchetbase_Fits := (Con.add_ok con_ratchetbase_Within_ok (Con.add_ok con_ratchetbase_Power_ok noSpec_ok))
theorem good_ratchetbase_Fits : ∀ pt r, run_ratchetbase_Fits pt = some r → Good E Tryz.f60 code_ratchetbase_Fits 0 (res_ratchetbase_Fits.av r) (res_ratchetbase_Fits.bx r) (place_ratchetbase_Fits pt) (st_ratchetbase_Fits pt) := by
  intro pt r hr
  cases pt <;> exact fn_step (spec := spec_ratchetbase_Fits) (wr := (fun i => mem i [])) (l := tab_ratchetbase_Fits) (z := 10) (p := res_ratchetbase_Fits) (run' := fun _ => none) E_ok tab_ratchetbase_Fits_ok.mem rfl spec_ratchetbase_Fits_ok (fun _ _ h => by cases h) (Eq.trans (by kernel_rfl) hr)
noncomputable def con_ratchetbase_Fits : Con E := ⟨60, (Int × (Int × Unit)), Unit, (RwL.cons (Rd.int .i64).w (RwL.cons (Rd.int .i64).w RwL.nil)), RdBL.nil, 0, R_ratchetbase_Fits, fun a b => run_ratchetbase_Fits (.start a.1 a.2.1), res_ratchetbase_Fits.av, res_ratchetbase_Fits.bx⟩
theorem con_ratchetbase_Fits_ok : con_ratchetbase_Fits.Ok := fun a b r h => fn_ok (fn := Tryz.f60) (code := code_ratchetbase_Fits) E_ok (by kernel_rfl) (by kernel_rfl) (by kernel_rfl) (Nat.le_of_ble_eq_true rfl) (good_ratchetbase_Fits (.start a.1 a.2.1) r h)

/-! ### ratchet/ratchetref01.BitsErr -/
inductive P_ratchetref01_BitsErr where
 | start (x0_0 : Int) (x0_1 : Int)
noncomputable def place_ratchetref01_BitsErr : P_ratchetref01_BitsErr → List Bool
 | .start .. => []
noncomputable def st_ratchetref01_BitsErr : P_ratchetref01_BitsErr → St E.S
 | .start x0_0 x0_1 => st0 13 [.agg [.v (.int .i64 x0_0), .v (.int .i64 x0_1)]] []
abbrev R_ratchetref01_BitsErr : Type := ((Int × Unit) × Unit)
noncomputable def res_ratchetref01_BitsErr : Res E (Int × Unit) Unit := { rows := [], flat := [], keep := 0, rl := (RdL.cons (Rd.int .i64) RdL.nil), rb := RdBL.nil }
noncomputable def run_ratchetref01_BitsErr : P_ratchetref01_BitsErr → Option R_ratchetref01_BitsErr
 | .start x0_0 x0_1 =>
   (run_ratchetbase_IsWidth (.start x0_0)) >>= fun t1 =>
   if (!t1.1.1) = true then
     some (((25 : Int), ()), ())
   else
     (run_ratchetbase_Fits (.start x0_1 x0_0)) >>= fun t2 =>
     if (!t2.1.1) = true then
       some (((2 : Int), ()), ())
     else
       some (((0 : Int), ()), ())
noncomputable def tab_ratchetref01_BitsErr : List (Plc E P_ratchetref01_BitsErr) := []
theorem tab_ratchetref01_BitsErr_ok : All (PlcOk 13 0 place_ratchetref01_BitsErr st_ratchetref01_BitsErr) tab_ratchetref01_BitsErr := trivial
noncomputable def code_ratchetref01_BitsErr : Code := Tryz.f32.body.getD .skip
noncomputable def spec_ratchetref01_BitsErr : Spec E.S := (Con.add con_ratchetbase_Fits (Con.add con_ratchetbase_IsWidth noSpec))
theorem spec_ratchetref01_BitsErr_ok : SpecOk E spec_ratchetref01_BitsErr := (Con.add_ok con_ratchetbase_Fits_ok (Con.add_ok con_ratchetbase_IsWidth_ok noSpec_ok))
theorem good_ratchetref01_BitsErr : ∀ pt r, run_ratchetref01_BitsErr pt = some r → Good E Tryz.f32 code_ratchetref01_BitsErr 0 (res_ratchetref01_BitsErr.av r) (res_ratchetref01_BitsErr.bx r) (place_ratchetref01_BitsErr pt) (st_ratchetref01_BitsErr pt) := by
  intro pt r hr
  cases pt <;> exact fn_step (spec := spec_ratchetref01_BitsErr) (wr := (fun i => mem i [])) (l := tab_ratchetref01_BitsErr) (z := 13) (p := res_ratchetref01_BitsErr) (run' := fun _ => none) E_ok tab_ratchetref01_BitsErr_ok.mem rfl spec_ratchetref01_BitsErr_ok (fun _ _ h => by cases h) (Eq.trans (by kernel_rfl) hr)
noncomputable def con_ratchetref01_BitsErr : Con E := ⟨32, ((Int × (Int × Unit)) × Unit), Unit, (RwL.cons (Rw.agg (RwL.cons (Rd.int .i64).w (RwL.cons (Rd.int .i64).w RwL.nil))) RwL.nil), RdBL.nil, 0, R_ratchetref01_BitsErr, fun a b => run_ratchetref01_BitsErr (.start a.1.1 a.1.2.1), res_ratchetref01_BitsErr.av, res_ratchetref01_BitsErr.bx⟩
theorem con_ratchetref01_BitsErr_ok : con_ratchetref01_BitsErr.Ok := fun a b r h => fn_ok (fn := Tryz.f32) (code := code_ratchetref01_BitsErr) E_ok (by kernel_rfl) (by kernel_rfl) (by kernel_rfl) (Nat.le_of_ble_eq_true rfl) (good_ratchetref01_BitsErr (.start a.1.1 a.1.2.1) r h)

/-! ### ratchet/ratchetref01.digit -/
inductive P_ratchetref01_digit where
 | start (c0 : Int)
noncomputable def place_ratchetref01_digit : P_ratchetref01_digit → List Bool
 | .start .. => []
noncomputable def st_ratchetref01_digit : P_ratchetref01_digit → St E.S
 | .start c0 => st0 26 [.v (.int .u8 c0)] []
abbrev R_ratchetref01_digit : Type := ((Int × Unit) × Unit)
noncomputable def res_ratchetref01_digit : Res E (Int × Unit) Unit := { rows := [], flat := [], keep := 0, rl := (RdL.cons (Rd.int .i64) RdL.nil), rb := RdBL.nil }
noncomputable def run_ratchetref01_digit : P_ratchetref01_digit → Option R_ratchetref01_digit
 | .start c0 =>
   (run_ratchetbase_Within (.start (IntKind.wrap .i64 c0) (48 : Int) (57 : Int))) >>= fun t1 =>
   if t1.1.1 = true then
     some ((IntKind.wrap .i64 (IntKind.wrap .u8 (c0 - (48 : Int))), ()), ())
   else
     (run_ratchetbase_Within (.start (IntKind.wrap .i64 c0) (97 : Int) (102 : Int))) >>= fun t2 =>
     if t2.1.1 = true then
       some ((IntKind.wrap .i64 ((IntKind.wrap .i64 (IntKind.wrap .u8 (c0 - (97 : Int)))) + (10 : Int)), ()), ())
     else
       (run_ratchetbase_Within (.start (IntKind.wrap .i64 c0) (65 : Int) (70 : Int))) >>= fun t3 =>
       if t3.1.1 = true then
         some ((IntKind.wrap .i64 ((IntKind.wrap .i64 (IntKind.wrap .u8 (c0 - (65 : Int)))) + (10 : Int)), ()), ())
       else
         some (((-1 : Int), ()), ())
noncomputable def tab_ratchetref01_digit : List (Plc E P_ratchetref01_digit) := []
theorem tab_ratchetref01_digit_ok : All (PlcOk 26 0 place_ratchetref01_digit st_ratchetref01_digit) tab_ratchetref01_digit := trivial
noncomputable def code_ratchetref01_digit : Code := Tryz.f30.body.getD .skip
noncomputable def spec_ratchetref01_digit : Spec E.S := (Con.add con_ratchetbase_Within noSpec)
theorem spec_ratchetref01_digit_ok : SpecOk E spec_ratchetref01_digit := (Con.add_ok con_ratchetbase_Within_ok noSpec_ok)
theorem good_ratchetref01_digit : ∀ pt r, run_ratchetref01_digit pt = some r → Good E Tryz.f30 code_ratchetref01_digit 0 (res_ratchetref01_digit.av r) (res_ratchetref01_digit.bx r) (place_ratchetref01_digit pt) (st_ratchetref01_digit pt) := by
  intro pt r hr
  cases pt <;> exact fn_step (spec := spec_ratchetref01_digit) (wr := (fun i => mem i [])) (l := tab_ratchetref01_digit) (z := 26) (p := res_ratchetref01_digit) (run' := fun _ => none) E_ok tab_ratchetref01_digit_ok.mem rfl spec_ratchetref01_digit_ok (fun _ _ h => by cases h) (Eq.trans (by kernel_rfl) hr)
noncomputable def con_ratchetref01_digit : Con E := ⟨30, (Int × Unit), Unit, (RwL.cons (Rd.int .u8).w RwL.nil), RdBL.nil, 0, R_ratchetref01_digit, fun a b => run_ratchetref01_digit (.start a.1), res_ratchetref01_digit.av, res_ratchetref01_digit.bx⟩
theorem con_ratchetref01_digit_ok : con_ratchetref01_digit.Ok := fun a b r h => fn_ok (fn := Tryz.f30) (code := code_ratchetref01_digit) E_ok (by kernel_rfl) (by kernel_rfl) (by kernel_rfl) (Nat.le_of_ble_eq_true rfl) (good_ratchetref01_digit (.start a.1) r h)

/-! ### ratchet/ratchetref01.Parse -/
inductive P_ratchetref01_Parse where
 | start (s0 : ByteArray)
 | p63 (bad4 : Int) (B0_0 : Int) (B0_1 : Int) (B1 : (List ByteArray))
 | p511 (bad4 : Int) (width6 : Int) (ok7 : Bool) (by8 : Int) (B0_0 : Int) (B0_1 : Int) (B1 : (List ByteArray))
 | p1023 (bad4 : Int) (width6 : Int) (by8 : Int) (B0_0 : Int) (B0_1 : Int) (B1 : (List ByteArray))
 | p65524 (bad4 : Int) (width6 : Int) (by8 : Int) (t9 : ByteArray) (count10 : Int) (value11 : Int) (i12 : Int) (B0_0 : Int) (B0_1 : Int)
 | p1048393 (bad4 : Int) (width6 : Int) (by8 : Int) (t9 : ByteArray) (count10 : Int) (value11 : Int) (i12 : Int) (B0_0 : Int) (B0_1 : Int)
noncomputable def place_ratchetref01_Parse : P_ratchetref01_Parse → List Bool
 | .start .. => []
 | .p63 .. => [true, true, true, true, true]
 | .p511 .. => [true, true, true, true, true, true, true, true]
 | .p1023 .. => [true, true, true, true, true, true, true, true, true]
 | .p65524 .. => [false, false, true, false, true, true, true, true, true, true, true, true, true, true, true]
 | .p1048393 .. => [true, false, false, true, false, false, true, false, true, true, true, true, true, true, true, true, true, true, true]
noncomputable def st_ratchetref01_Parse : P_ratchetref01_Parse → St E.S
 | .start s0 => st0 128 [.v (.string s0)] []
 | .p63 bad4 B0_0 B0_1 B1 => mkSt 128 [2, 4, 5] [.bp 0 0, .v (.int .i64 bad4), .rw 1] [.var 23 [.v (.int .i64 B0_0), .v (.int .i64 B0_1)], .row 9 B1 true]
 | .p511 bad4 width6 ok7 by8 B0_0 B0_1 B1 => mkSt 128 [2, 4, 5, 6, 7, 8] [.bp 0 0, .v (.int .i64 bad4), .rw 1, .v (.int .i64 width6), .v (.bool ok7), .v (.int .i64 by8)] [.var 23 [.v (.int .i64 B0_0), .v (.int .i64 B0_1)], .row 9 B1 true]
 | .p1023 bad4 width6 by8 B0_0 B0_1 B1 => mkSt 128 [2, 4, 5, 6, 8] [.bp 0 0, .v (.int .i64 bad4), .rw 1, .v (.int .i64 width6), .v (.int .i64 by8)] [.var 23 [.v (.int .i64 B0_0), .v (.int .i64 B0_1)], .row 9 B1 true]
 | .p65524 bad4 width6 by8 t9 count10 value11 i12 B0_0 B0_1 => mkSt 128 [2, 4, 6, 8, 9, 10, 11, 12] [.bp 0 0, .v (.int .i64 bad4), .v (.int .i64 width6), .v (.int .i64 by8), .v (.string t9), .v (.int .i64 count10), .v (.int .i64 value11), .v (.int .i64 i12)] [.var 23 [.v (.int .i64 B0_0), .v (.int .i64 B0_1)]]
 | .p1048393 bad4 width6 by8 t9 count10 value11 i12 B0_0 B0_1 => mkSt 128 [2, 4, 6, 8, 9, 10, 11, 12] [.bp 0 0, .v (.int .i64 bad4), .v (.int .i64 width6), .v (.int .i64 by8), .v (.string t9), .v (.int .i64 count10), .v (.int .i64 value11), .v (.int .i64 i12)] [.var 23 [.v (.int .i64 B0_0), .v (.int .i64 B0_1)]]
abbrev R_ratchetref01_Parse : Type := (((Int × (Int × Unit)) × (Int × Unit)) × Unit)
noncomputable def res_ratchetref01_Parse : Res E ((Int × (Int × Unit)) × (Int × Unit)) Unit := { rows := [], flat := [], keep := 0, rl := (RdL.cons (Rd.agg (RdL.cons (Rd.int .i64) (RdL.cons (Rd.int .i64) RdL.nil))) (RdL.cons (Rd.int .i64) RdL.nil)), rb := RdBL.nil }
noncomputable def run_ratchetref01_Parse : P_ratchetref01_Parse → Option R_ratchetref01_Parse
 | .start s0 =>
   if (decide ((s0.size : Int) > (60000 : Int))) = true then
     some ((((0 : Int), ((0 : Int), ())), ((8 : Int), ())), ())
   else
     (run_ratchetbase_Cut (.start s0 (39 : Int))) >>= fun t1 =>
     if ((List.length t1.2.1 : Int) != (2 : Int)) = true then
       some ((((0 : Int), ((0 : Int), ())), ((7 : Int), ())), ())
     else
       if (decide ((0 : Int) ≤ (1 : Int)) && decide ((1 : Int) < (List.length t1.2.1 : Int))) = true then
         (idx t1.2.1 (1 : Int)) >>= fun t2 =>
         if (decide ((t2.size : Int) < (2 : Int))) = true then
           some ((((0 : Int), ((0 : Int), ())), ((7 : Int), ())), ())
         else
           run_ratchetref01_Parse (.p63 (7 : Int) (0 : Int) (0 : Int) t1.2.1)
       else none
 | .p63 bad4 B0_0 B0_1 B1 =>
   if (decide ((0 : Int) ≤ (0 : Int)) && decide ((0 : Int) < (List.length B1 : Int))) = true then
     (idx B1 (0 : Int)) >>= fun t1 =>
     (run_ratchetbase_Number (.start t1 (2 : Int))) >>= fun t2 =>
     if (decide ((0 : Int) ≤ (1 : Int)) && decide ((1 : Int) < (List.length B1 : Int))) = true then
       (idx B1 (1 : Int)) >>= fun t3 =>
       (sidx t3 (0 : Int)) >>= fun t4 =>
       if (t4 == (98 : Int)) = true then
         run_ratchetref01_Parse (.p511 bad4 t2.1.1 t2.1.2.1 (2 : Int) B0_0 B0_1 B1)
       else
         if (t4 == (100 : Int)) = true then
           run_ratchetref01_Parse (.p511 bad4 t2.1.1 t2.1.2.1 (10 : Int) B0_0 B0_1 B1)
         else
           if (t4 == (104 : Int)) = true then
             run_ratchetref01_Parse (.p511 bad4 t2.1.1 t2.1.2.1 (16 : Int) B0_0 B0_1 B1)
           else
             run_ratchetref01_Parse (.p511 bad4 t2.1.1 t2.1.2.1 (0 : Int) B0_0 B0_1 B1)
     else none
   else none
 | .p511 bad4 width6 ok7 by8 B0_0 B0_1 B1 =>
   if (!ok7) = true then
     some ((((0 : Int), ((0 : Int), ())), (bad4, ())), ())
   else
     if (decide (width6 < (0 : Int))) = true then
       some ((((0 : Int), ((0 : Int), ())), (bad4, ())), ())
     else
       if (by8 == (0 : Int)) = true then
         some ((((0 : Int), ((0 : Int), ())), (bad4, ())), ())
       else
         run_ratchetref01_Parse (.p1023 bad4 width6 by8 B0_0 B0_1 B1)
 | .p1023 bad4 width6 by8 B0_0 B0_1 B1 =>
   if (decide ((0 : Int) ≤ (1 : Int)) && decide ((1 : Int) < (List.length B1 : Int))) = true then
     (idx B1 (1 : Int)) >>= fun t1 =>
     (span t1.size (1 : Int) (t1.size : Int)) >>= fun t2 =>
     run_ratchetref01_Parse (.p65524 bad4 width6 by8 (t1.extract t2.1 t2.2) (0 : Int) (0 : Int) (0 : Int) B0_0 B0_1)
   else none
 | .p65524 bad4 width6 by8 t9 count10 value11 i12 B0_0 B0_1 =>
   if (decide (i12 < (t9.size : Int))) = true then
     (sidx t9 i12) >>= fun t1 =>
     if (t1 == (95 : Int)) = true then
       if (decide (i12 > (0 : Int))) = true then
         if (decide ((IntKind.wrap .i64 (i12 + (1 : Int))) < (t9.size : Int))) = true then
           (sidx t9 (IntKind.wrap .i64 (i12 - (1 : Int)))) >>= fun t2 =>
           if (t2 != (95 : Int)) = true then
             run_ratchetref01_Parse (.p65524 bad4 width6 by8 t9 count10 value11 (IntKind.wrap .i64 (i12 + (1 : Int))) B0_0 B0_1)
           else
             run_ratchetref01_Parse (.p1048393 bad4 width6 by8 t9 count10 value11 i12 B0_0 B0_1)
         else
           run_ratchetref01_Parse (.p1048393 bad4 width6 by8 t9 count10 value11 i12 B0_0 B0_1)
       else
         run_ratchetref01_Parse (.p1048393 bad4 width6 by8 t9 count10 value11 i12 B0_0 B0_1)
     else
       run_ratchetref01_Parse (.p1048393 bad4 width6 by8 t9 count10 value11 i12 B0_0 B0_1)
   else
     if (decide (count10 > (20 : Int))) = true then
       some ((((0 : Int), ((0 : Int), ())), (bad4, ())), ())
     else
       (run_ratchetref01_BitsErr (.start width6 value11)) >>= fun t3 =>
       if (t3.1.1 != (0 : Int)) = true then
         some ((((0 : Int), ((0 : Int), ())), (t3.1.1, ())), ())
       else
         some (((width6, (value11, ())), ((0 : Int), ())), ())
 | .p1048393 bad4 width6 by8 t9 count10 value11 i12 B0_0 B0_1 =>
   (sidx t9 i12) >>= fun t1 =>
   (run_ratchetref01_digit (.start t1)) >>= fun t2 =>
   (run_ratchetbase_Within (.start t2.1.1 (0 : Int) (IntKind.wrap .i64 (by8 - (1 : Int))))) >>= fun t3 =>
   if (!t3.1.1) = true then
     some ((((0 : Int), ((0 : Int), ())), (bad4, ())), ())
   else
     run_ratchetref01_Parse (.p65524 bad4 width6 by8 t9 (IntKind.wrap .i64 (count10 + (1 : Int))) (if (1099511627776 : Int) < (IntKind.wrap .i64 ((IntKind.wrap .i64 (value11 * by8)) + t2.1.1)) then (1099511627776 : Int) else (IntKind.wrap .i64 ((IntKind.wrap .i64 (value11 * by8)) + t2.1.1))) (IntKind.wrap .i64 (i12 + (1 : Int))) B0_0 B0_1)
  partial_fixpoint
noncomputable def tab_ratchetref01_Parse : List (Plc E P_ratchetref01_Parse) := [⟨63, [true, true, true, true, true], { slots := [2, 4, 5], rows := [], flat := [], keep := 0 }, (Unit × (Int × (Unit × Unit))), ((Int × (Int × Unit)) × ((List ByteArray) × Unit)), (RdL.cons (Rd.bp 0 0) (RdL.cons (Rd.int .i64) (RdL.cons (Rd.rw 1) RdL.nil))), (RdBL.cons (RdB.var 23 (RdL.cons (Rd.int .i64) (RdL.cons (Rd.int .i64) RdL.nil))) (RdBL.cons (RdB.row 9 true) RdBL.nil)), fun a b => .p63 a.2.1 b.1.1 b.1.2.1 b.2.1⟩,
  ⟨511, [true, true, true, true, true, true, true, true], { slots := [2, 4, 5, 6, 7, 8], rows := [], flat := [], keep := 0 }, (Unit × (Int × (Unit × (Int × (Bool × (Int × Unit)))))), ((Int × (Int × Unit)) × ((List ByteArray) × Unit)), (RdL.cons (Rd.bp 0 0) (RdL.cons (Rd.int .i64) (RdL.cons (Rd.rw 1) (RdL.cons (Rd.int .i64) (RdL.cons Rd.bool (RdL.cons (Rd.int .i64) RdL.nil)))))), (RdBL.cons (RdB.var 23 (RdL.cons (Rd.int .i64) (RdL.cons (Rd.int .i64) RdL.nil))) (RdBL.cons (RdB.row 9 true) RdBL.nil)), fun a b => .p511 a.2.1 a.2.2.2.1 a.2.2.2.2.1 a.2.2.2.2.2.1 b.1.1 b.1.2.1 b.2.1⟩,
  ⟨1023, [true, true, true, true, true, true, true, true, true], { slots := [2, 4, 5, 6, 8], rows := [], flat := [], keep := 0 }, (Unit × (Int × (Unit × (Int × (Int × Unit))))), ((Int × (Int × Unit)) × ((List ByteArray) × Unit)), (RdL.cons (Rd.bp 0 0) (RdL.cons (Rd.int .i64) (RdL.cons (Rd.rw 1) (RdL.cons (Rd.int .i64) (RdL.cons (Rd.int .i64) RdL.nil))))), (RdBL.cons (RdB.var 23 (RdL.cons (Rd.int .i64) (RdL.cons (Rd.int .i64) RdL.nil))) (RdBL.cons (RdB.row 9 true) RdBL.nil)), fun a b => .p1023 a.2.1 a.2.2.2.1 a.2.2.2.2.1 b.1.1 b.1.2.1 b.2.1⟩,
  ⟨65524, [false, false, true, false, true, true, true, true, true, true, true, true, true, true, true], { slots := [2, 4, 6, 8, 9, 10, 11, 12], rows := [], flat := [], keep := 0 }, (Unit × (Int × (Int × (Int × (ByteArray × (Int × (Int × (Int × Unit)))))))), ((Int × (Int × Unit)) × Unit), (RdL.cons (Rd.bp 0 0) (RdL.cons (Rd.int .i64) (RdL.cons (Rd.int .i64) (RdL.cons (Rd.int .i64) (RdL.cons Rd.str (RdL.cons (Rd.int .i64) (RdL.cons (Rd.int .i64) (RdL.cons (Rd.int .i64) RdL.nil)))))))), (RdBL.cons (RdB.var 23 (RdL.cons (Rd.int .i64) (RdL.cons (Rd.int .i64) RdL.nil))) RdBL.nil), fun a b => .p65524 a.2.1 a.2.2.1 a.2.2.2.1 a.2.2.2.2.1 a.2.2.2.2.2.1 a.2.2.2.2.2.2.1 a.2.2.2.2.2.2.2.1 b.1.1 b.1.2.1⟩,
  ⟨1048393, [true, false, false, true, false, false, true, false, true, true, true, true, true, true, true, true, true, true, true], { slots := [2, 4, 6, 8, 9, 10, 11, 12], rows := [], flat := [], keep := 0 }, (Unit × (Int × (Int × (Int × (ByteArray × (Int × (Int × (Int × Unit)))))))), ((Int × (Int × Unit)) × Unit), (RdL.cons (Rd.bp 0 0) (RdL.cons (Rd.int .i64) (RdL.cons (Rd.int .i64) (RdL.cons (Rd.int .i64) (RdL.cons Rd.str (RdL.cons (Rd.int .i64) (RdL.cons (Rd.int .i64) (RdL.cons (Rd.int .i64) RdL.nil)))))))), (RdBL.cons (RdB.var 23 (RdL.cons (Rd.int .i64) (RdL.cons (Rd.int .i64) RdL.nil))) RdBL.nil), fun a b => .p1048393 a.2.1 a.2.2.1 a.2.2.2.1 a.2.2.2.2.1 a.2.2.2.2.2.1 a.2.2.2.2.2.2.1 a.2.2.2.2.2.2.2.1 b.1.1 b.1.2.1⟩]
theorem tab_ratchetref01_Parse_ok : All (PlcOk 128 0 place_ratchetref01_Parse st_ratchetref01_Parse) tab_ratchetref01_Parse := ⟨⟨rfl, rfl, fun _ _ => rfl, fun _ _ => rfl⟩, ⟨⟨rfl, rfl, fun _ _ => rfl, fun _ _ => rfl⟩, ⟨⟨rfl, rfl, fun _ _ => rfl, fun _ _ => rfl⟩, ⟨⟨rfl, rfl, fun _ _ => rfl, fun _ _ => rfl⟩, ⟨⟨rfl, rfl, fun _ _ => rfl, fun _ _ => rfl⟩, trivial⟩⟩⟩⟩⟩
noncomputable def code_ratchetref01_Parse : Code := Tryz.f7.body.getD .skip
noncomputable def spec_ratchetref01_Parse : Spec E.S := (Con.add con_ratchetbase_Within (Con.add con_ratchetref01_digit (Con.add con_ratchetref01_BitsErr (Con.add con_ratchetbase_Number (Con.add con_ratchetbase_Cut noSpec)))))
theorem spec_ratchetref01_Parse_ok : SpecOk E spec_ratchetref01_Parse := (Con.add_ok con_ratchetbase_Within_ok (Con.add_ok con_ratchetref01_digit_ok (Con.add_ok con_ratchetref01_BitsErr_ok (Con.add_ok con_ratchetbase_Number_ok (Con.add_ok con_ratchetbase_Cut_ok noSpec_ok)))))
theorem good_ratchetref01_Parse : ∀ pt r, run_ratchetref01_Parse pt = some r → Good E Tryz.f7 code_ratchetref01_Parse 0 (res_ratchetref01_Parse.av r) (res_ratchetref01_Parse.bx r) (place_ratchetref01_Parse pt) (st_ratchetref01_Parse pt) := by
  refine run_ratchetref01_Parse.partial_correctness (fun pt r => Good E Tryz.f7 code_ratchetref01_Parse 0 (res_ratchetref01_Parse.av r) (res_ratchetref01_Parse.bx r) (place_ratchetref01_Parse pt) (st_ratchetref01_Parse pt)) ?_
  intro run' ih pt r hr
  cases pt <;> exact fn_step (spec := spec_ratchetref01_Parse) (wr := (fun i => mem i [])) (l := tab_ratchetref01_Parse) (z := 128) (p := res_ratchetref01_Parse) E_ok tab_ratchetref01_Parse_ok.mem rfl spec_ratchetref01_Parse_ok ih (Eq.trans (by kernel_rfl) hr)
noncomputable def con_ratchetref01_Parse : Con E := ⟨7, (ByteArray × Unit), Unit, (RwL.cons Rd.str.w RwL.nil), RdBL.nil, 0, R_ratchetref01_Parse, fun a b => run_ratchetref01_Parse (.start a.1), res_ratchetref01_Parse.av, res_ratchetref01_Parse.bx⟩
theorem con_ratchetref01_Parse_ok : con_ratchetref01_Parse.Ok := fun a b r h => fn_ok (fn := Tryz.f7) (code := code_ratchetref01_Parse) E_ok (by kernel_rfl) (by kernel_rfl) (by kernel_rfl) (Nat.le_of_ble_eq_true rfl) (good_ratchetref01_Parse (.start a.1) r h)

/-! ### ratchet/ratchetref01.FormatErr -/
inductive P_ratchetref01_FormatErr where
 | start (a0_0 : Int) (a0_1 : Int) (by1 : Int)
noncomputable def place_ratchetref01_FormatErr : P_ratchetref01_FormatErr → List Bool
 | .start .. => []
noncomputable def st_ratchetref01_FormatErr : P_ratchetref01_FormatErr → St E.S
 | .start a0_0 a0_1 by1 => st0 21 [.agg [.v (.int .i64 a0_0), .v (.int .i64 a0_1)], .v (.int .i64 by1)] []
abbrev R_ratchetref01_FormatErr : Type := ((Int × Unit) × Unit)
noncomputable def res_ratchetref01_FormatErr : Res E (Int × Unit) Unit := { rows := [], flat := [], keep := 0, rl := (RdL.cons (Rd.int .i64) RdL.nil), rb := RdBL.nil }
noncomputable def run_ratchetref01_FormatErr : P_ratchetref01_FormatErr → Option R_ratchetref01_FormatErr
 | .start a0_0 a0_1 by1 =>
   (run_ratchetref01_BitsErr (.start a0_0 a0_1)) >>= fun t1 =>
   if (t1.1.1 != (0 : Int)) = true then
     some ((t1.1.1, ()), ())
   else
     if (by1 != (2 : Int)) = true then
       if (by1 != (10 : Int)) = true then
         if (by1 != (16 : Int)) = true then
           some (((15 : Int), ()), ())
         else
           some (((0 : Int), ()), ())
       else
         some (((0 : Int), ()), ())
     else
       some (((0 : Int), ()), ())
noncomputable def tab_ratchetref01_FormatErr : List (Plc E P_ratchetref01_FormatErr) := []
theorem tab_ratchetref01_FormatErr_ok : All (PlcOk 21 0 place_ratchetref01_FormatErr st_ratchetref01_FormatErr) tab_ratchetref01_FormatErr := trivial
noncomputable def code_ratchetref01_FormatErr : Code := Tryz.f8.body.getD .skip
noncomputable def spec_ratchetref01_FormatErr : Spec E.S := (Con.add con_ratchetref01_BitsErr noSpec)
theorem spec_ratchetref01_FormatErr_ok : SpecOk E spec_ratchetref01_FormatErr := (Con.add_ok con_ratchetref01_BitsErr_ok noSpec_ok)
theorem good_ratchetref01_FormatErr : ∀ pt r, run_ratchetref01_FormatErr pt = some r → Good E Tryz.f8 code_ratchetref01_FormatErr 0 (res_ratchetref01_FormatErr.av r) (res_ratchetref01_FormatErr.bx r) (place_ratchetref01_FormatErr pt) (st_ratchetref01_FormatErr pt) := by
  intro pt r hr
  cases pt <;> exact fn_step (spec := spec_ratchetref01_FormatErr) (wr := (fun i => mem i [])) (l := tab_ratchetref01_FormatErr) (z := 21) (p := res_ratchetref01_FormatErr) (run' := fun _ => none) E_ok tab_ratchetref01_FormatErr_ok.mem rfl spec_ratchetref01_FormatErr_ok (fun _ _ h => by cases h) (Eq.trans (by kernel_rfl) hr)
noncomputable def con_ratchetref01_FormatErr : Con E := ⟨8, ((Int × (Int × Unit)) × (Int × Unit)), Unit, (RwL.cons (Rw.agg (RwL.cons (Rd.int .i64).w (RwL.cons (Rd.int .i64).w RwL.nil))) (RwL.cons (Rd.int .i64).w RwL.nil)), RdBL.nil, 0, R_ratchetref01_FormatErr, fun a b => run_ratchetref01_FormatErr (.start a.1.1 a.1.2.1 a.2.1), res_ratchetref01_FormatErr.av, res_ratchetref01_FormatErr.bx⟩
theorem con_ratchetref01_FormatErr_ok : con_ratchetref01_FormatErr.Ok := fun a b r h => fn_ok (fn := Tryz.f8) (code := code_ratchetref01_FormatErr) E_ok (by kernel_rfl) (by kernel_rfl) (by kernel_rfl) (Nat.le_of_ble_eq_true rfl) (good_ratchetref01_FormatErr (.start a.1.1 a.1.2.1 a.2.1) r h)

/-! ### ratchet/ratchetbase.Size -/
inductive P_ratchetbase_Size where
 | start (n0 : Int)
noncomputable def place_ratchetbase_Size : P_ratchetbase_Size → List Bool
 | .start .. => []
noncomputable def st_ratchetbase_Size : P_ratchetbase_Size → St E.S
 | .start n0 => st0 7 [.v (.int .i64 n0)] []
abbrev R_ratchetbase_Size : Type := ((Int × Unit) × Unit)
noncomputable def res_ratchetbase_Size : Res E (Int × Unit) Unit := { rows := [], flat := [], keep := 0, rl := (RdL.cons (Rd.int .i64) RdL.nil), rb := RdBL.nil }
noncomputable def run_ratchetbase_Size : P_ratchetbase_Size → Option R_ratchetbase_Size
 | .start n0 =>
   some ((if (IntKind.wrap .i64 (0 - n0)) > n0 then (IntKind.wrap .i64 (0 - n0)) else n0, ()), ())
noncomputable def tab_ratchetbase_Size : List (Plc E P_ratchetbase_Size) := []
theorem tab_ratchetbase_Size_ok : All (PlcOk 7 0 place_ratchetbase_Size st_ratchetbase_Size) tab_ratchetbase_Size := trivial
noncomputable def code_ratchetbase_Size : Code := Tryz.f61.body.getD .skip
noncomputable def spec_ratchetbase_Size : Spec E.S := noSpec
theorem spec_ratchetbase_Size_ok : SpecOk E spec_ratchetbase_Size := noSpec_ok
theorem good_ratchetbase_Size : ∀ pt r, run_ratchetbase_Size pt = some r → Good E Tryz.f61 code_ratchetbase_Size 0 (res_ratchetbase_Size.av r) (res_ratchetbase_Size.bx r) (place_ratchetbase_Size pt) (st_ratchetbase_Size pt) := by
  intro pt r hr
  cases pt <;> exact fn_step (spec := spec_ratchetbase_Size) (wr := (fun i => mem i [])) (l := tab_ratchetbase_Size) (z := 7) (p := res_ratchetbase_Size) (run' := fun _ => none) E_ok tab_ratchetbase_Size_ok.mem rfl spec_ratchetbase_Size_ok (fun _ _ h => by cases h) (Eq.trans (by kernel_rfl) hr)
noncomputable def con_ratchetbase_Size : Con E := ⟨61, (Int × Unit), Unit, (RwL.cons (Rd.int .i64).w RwL.nil), RdBL.nil, 0, R_ratchetbase_Size, fun a b => run_ratchetbase_Size (.start a.1), res_ratchetbase_Size.av, res_ratchetbase_Size.bx⟩
theorem con_ratchetbase_Size_ok : con_ratchetbase_Size.Ok := fun a b r h => fn_ok (fn := Tryz.f61) (code := code_ratchetbase_Size) E_ok (by kernel_rfl) (by kernel_rfl) (by kernel_rfl) (Nat.le_of_ble_eq_true rfl) (good_ratchetbase_Size (.start a.1) r h)

/-! ### ratchet/ratchetbase.Decimal -/
inductive P_ratchetbase_Decimal where
 | start (n0 : Int)
 | p31 (n0 : Int) (s3 : ByteArray) (sign4 : ByteArray)
 | p248 (n0 : Int) (s3 : ByteArray) (sign4 : ByteArray)
noncomputable def place_ratchetbase_Decimal : P_ratchetbase_Decimal → List Bool
 | .start .. => []
 | .p31 .. => [true, true, true, true]
 | .p248 .. => [false, false, false, true, true, true, true]
noncomputable def st_ratchetbase_Decimal : P_ratchetbase_Decimal → St E.S
 | .start n0 => st0 27 [.v (.int .i64 n0)] []
 | .p31 n0 s3 sign4 => mkSt 27 [0, 3, 4] [.v (.int .i64 n0), .v (.string s3), .v (.string sign4)] []
 | .p248 n0 s3 sign4 => mkSt 27 [0, 3, 4] [.v (.int .i64 n0), .v (.string s3), .v (.string sign4)] []
abbrev R_ratchetbase_Decimal : Type := ((ByteArray × Unit) × Unit)
noncomputable def res_ratchetbase_Decimal : Res E (ByteArray × Unit) Unit := { rows := [], flat := [], keep := 0, rl := (RdL.cons Rd.str RdL.nil), rb := RdBL.nil }
noncomputable def run_ratchetbase_Decimal : P_ratchetbase_Decimal → Option R_ratchetbase_Decimal
 | .start n0 =>
   if (n0 == (0 : Int)) = true then
     some (((⟨#[48]⟩ : ByteArray), ()), ())
   else
     if (decide (n0 < (0 : Int))) = true then
       run_ratchetbase_Decimal (.p31 n0 (⟨#[]⟩ : ByteArray) (⟨#[45]⟩ : ByteArray))
     else
       run_ratchetbase_Decimal (.p31 n0 (⟨#[]⟩ : ByteArray) (⟨#[]⟩ : ByteArray))
 | .p31 n0 s3 sign4 =>
   run_ratchetbase_Decimal (.p248 n0 s3 sign4)
 | .p248 n0 s3 sign4 =>
   if (n0 != (0 : Int)) = true then
     if (!((10 : Int) == (0 : Int))) = true then
       (run_ratchetbase_Size (.start (Int.tmod n0 (10 : Int)))) >>= fun t1 =>
       if (Nat.ble ((bytesStr ([IntKind.wrap .u8 (IntKind.wrap .i64 ((48 : Int) + t1.1.1))] : List Int)).size + s3.size) 9223372036854775807) = true then
         if (!((10 : Int) == (0 : Int))) = true then
           run_ratchetbase_Decimal (.p248 (IntKind.wrap .i64 (Int.tdiv n0 (10 : Int))) ((bytesStr ([IntKind.wrap .u8 (IntKind.wrap .i64 ((48 : Int) + t1.1.1))] : List Int)) ++ s3) sign4)
         else none
       else none
     else none
   else
     if (Nat.ble (sign4.size + s3.size) 9223372036854775807) = true then
       some ((sign4 ++ s3, ()), ())
     else none
  partial_fixpoint
noncomputable def tab_ratchetbase_Decimal : List (Plc E P_ratchetbase_Decimal) := [⟨31, [true, true, true, true], { slots := [0, 3, 4], rows := [], flat := [], keep := 0 }, (Int × (ByteArray × (ByteArray × Unit))), Unit, (RdL.cons (Rd.int .i64) (RdL.cons Rd.str (RdL.cons Rd.str RdL.nil))), RdBL.nil, fun a b => .p31 a.1 a.2.1 a.2.2.1⟩,
  ⟨248, [false, false, false, true, true, true, true], { slots := [0, 3, 4], rows := [], flat := [], keep := 0 }, (Int × (ByteArray × (ByteArray × Unit))), Unit, (RdL.cons (Rd.int .i64) (RdL.cons Rd.str (RdL.cons Rd.str RdL.nil))), RdBL.nil, fun a b => .p248 a.1 a.2.1 a.2.2.1⟩]
theorem tab_ratchetbase_Decimal_ok : All (PlcOk 27 0 place_ratchetbase_Decimal st_ratchetbase_Decimal) tab_ratchetbase_Decimal := ⟨⟨rfl, rfl, fun _ _ => rfl, fun _ _ => rfl⟩, ⟨⟨rfl, rfl, fun _ _ => rfl, fun _ _ => rfl⟩, trivial⟩⟩
noncomputable def code_ratchetbase_Decimal : Code := Tryz.f33.body.getD .skip
noncomputable def spec_ratchetbase_Decimal : Spec E.S := (Con.add con_ratchetbase_Size noSpec)
theorem spec_ratchetbase_Decimal_ok : SpecOk E spec_ratchetbase_Decimal := (Con.add_ok con_ratchetbase_Size_ok noSpec_ok)
theorem good_ratchetbase_Decimal : ∀ pt r, run_ratchetbase_Decimal pt = some r → Good E Tryz.f33 code_ratchetbase_Decimal 0 (res_ratchetbase_Decimal.av r) (res_ratchetbase_Decimal.bx r) (place_ratchetbase_Decimal pt) (st_ratchetbase_Decimal pt) := by
  refine run_ratchetbase_Decimal.partial_correctness (fun pt r => Good E Tryz.f33 code_ratchetbase_Decimal 0 (res_ratchetbase_Decimal.av r) (res_ratchetbase_Decimal.bx r) (place_ratchetbase_Decimal pt) (st_ratchetbase_Decimal pt)) ?_
  intro run' ih pt r hr
  cases pt <;> exact fn_step (spec := spec_ratchetbase_Decimal) (wr := (fun i => mem i [])) (l := tab_ratchetbase_Decimal) (z := 27) (p := res_ratchetbase_Decimal) E_ok tab_ratchetbase_Decimal_ok.mem rfl spec_ratchetbase_Decimal_ok ih (Eq.trans (by kernel_rfl) hr)
noncomputable def con_ratchetbase_Decimal : Con E := ⟨33, (Int × Unit), Unit, (RwL.cons (Rd.int .i64).w RwL.nil), RdBL.nil, 0, R_ratchetbase_Decimal, fun a b => run_ratchetbase_Decimal (.start a.1), res_ratchetbase_Decimal.av, res_ratchetbase_Decimal.bx⟩
theorem con_ratchetbase_Decimal_ok : con_ratchetbase_Decimal.Ok := fun a b r h => fn_ok (fn := Tryz.f33) (code := code_ratchetbase_Decimal) E_ok (by kernel_rfl) (by kernel_rfl) (by kernel_rfl) (Nat.le_of_ble_eq_true rfl) (good_ratchetbase_Decimal (.start a.1) r h)

/-! ### ratchet/ratchetbase.Floor -/
inductive P_ratchetbase_Floor where
 | start (n0 : Int) (by1 : Int)
noncomputable def place_ratchetbase_Floor : P_ratchetbase_Floor → List Bool
 | .start .. => []
noncomputable def st_ratchetbase_Floor : P_ratchetbase_Floor → St E.S
 | .start n0 by1 => st0 16 [.v (.int .i64 n0), .v (.int .i64 by1)] []
abbrev R_ratchetbase_Floor : Type := ((Int × Unit) × Unit)
noncomputable def res_ratchetbase_Floor : Res E (Int × Unit) Unit := { rows := [], flat := [], keep := 0, rl := (RdL.cons (Rd.int .i64) RdL.nil), rb := RdBL.nil }
noncomputable def run_ratchetbase_Floor : P_ratchetbase_Floor → Option R_ratchetbase_Floor
 | .start n0 by1 =>
   if (!(by1 == (0 : Int))) = true then
     if (!(by1 == (0 : Int))) = true then
       if (decide ((Int.tmod n0 by1) < (0 : Int))) = true then
         some ((IntKind.wrap .i64 ((IntKind.wrap .i64 (Int.tdiv n0 by1)) - (1 : Int)), ()), ())
       else
         some ((IntKind.wrap .i64 (Int.tdiv n0 by1), ()), ())
     else none
   else none
noncomputable def tab_ratchetbase_Floor : List (Plc E P_ratchetbase_Floor) := []
theorem tab_ratchetbase_Floor_ok : All (PlcOk 16 0 place_ratchetbase_Floor st_ratchetbase_Floor) tab_ratchetbase_Floor := trivial
noncomputable def code_ratchetbase_Floor : Code := Tryz.f82.body.getD .skip
noncomputable def spec_ratchetbase_Floor : Spec E.S := noSpec
theorem spec_ratchetbase_Floor_ok : SpecOk E spec_ratchetbase_Floor := noSpec_ok
theorem good_ratchetbase_Floor : ∀ pt r, run_ratchetbase_Floor pt = some r → Good E Tryz.f82 code_ratchetbase_Floor 0 (res_ratchetbase_Floor.av r) (res_ratchetbase_Floor.bx r) (place_ratchetbase_Floor pt) (st_ratchetbase_Floor pt) := by
  intro pt r hr
  cases pt <;> exact fn_step (spec := spec_ratchetbase_Floor) (wr := (fun i => mem i [])) (l := tab_ratchetbase_Floor) (z := 16) (p := res_ratchetbase_Floor) (run' := fun _ => none) E_ok tab_ratchetbase_Floor_ok.mem rfl spec_ratchetbase_Floor_ok (fun _ _ h => by cases h) (Eq.trans (by kernel_rfl) hr)
noncomputable def con_ratchetbase_Floor : Con E := ⟨82, (Int × (Int × Unit)), Unit, (RwL.cons (Rd.int .i64).w (RwL.cons (Rd.int .i64).w RwL.nil)), RdBL.nil, 0, R_ratchetbase_Floor, fun a b => run_ratchetbase_Floor (.start a.1 a.2.1), res_ratchetbase_Floor.av, res_ratchetbase_Floor.bx⟩
theorem con_ratchetbase_Floor_ok : con_ratchetbase_Floor.Ok := fun a b r h => fn_ok (fn := Tryz.f82) (code := code_ratchetbase_Floor) E_ok (by kernel_rfl) (by kernel_rfl) (by kernel_rfl) (Nat.le_of_ble_eq_true rfl) (good_ratchetbase_Floor (.start a.1 a.2.1) r h)

/-! ### ratchet/ratchetbase.Ceil -/
inductive P_ratchetbase_Ceil where
 | start (n0 : Int) (by1 : Int)
noncomputable def place_ratchetbase_Ceil : P_ratchetbase_Ceil → List Bool
 | .start .. => []
noncomputable def st_ratchetbase_Ceil : P_ratchetbase_Ceil → St E.S
 | .start n0 by1 => st0 10 [.v (.int .i64 n0), .v (.int .i64 by1)] []
abbrev R_ratchetbase_Ceil : Type := ((Int × Unit) × Unit)
noncomputable def res_ratchetbase_Ceil : Res E (Int × Unit) Unit := { rows := [], flat := [], keep := 0, rl := (RdL.cons (Rd.int .i64) RdL.nil), rb := RdBL.nil }
noncomputable def run_ratchetbase_Ceil : P_ratchetbase_Ceil → Option R_ratchetbase_Ceil
 | .start n0 by1 =>
   (run_ratchetbase_Floor (.start (IntKind.wrap .i64 (0 - n0)) by1)) >>= fun t1 =>
   some ((IntKind.wrap .i64 (0 - t1.1.1), ()), ())
noncomputable def tab_ratchetbase_Ceil : List (Plc E P_ratchetbase_Ceil) := []
theorem tab_ratchetbase_Ceil_ok : All (PlcOk 10 0 place_ratchetbase_Ceil st_ratchetbase_Ceil) tab_ratchetbase_Ceil := trivial
noncomputable def code_ratchetbase_Ceil : Code := Tryz.f62.body.getD .skip
noncomputable def spec_ratchetbase_Ceil : Spec E.S := (Con.add con_ratchetbase_Floor noSpec)
theorem spec_ratchetbase_Ceil_ok : SpecOk E spec_ratchetbase_Ceil := (Con.add_ok con_ratchetbase_Floor_ok noSpec_ok)
theorem good_ratchetbase_Ceil : ∀ pt r, run_ratchetbase_Ceil pt = some r → Good E Tryz.f62 code_ratchetbase_Ceil 0 (res_ratchetbase_Ceil.av r) (res_ratchetbase_Ceil.bx r) (place_ratchetbase_Ceil pt) (st_ratchetbase_Ceil pt) := by
  intro pt r hr
  cases pt <;> exact fn_step (spec := spec_ratchetbase_Ceil) (wr := (fun i => mem i [])) (l := tab_ratchetbase_Ceil) (z := 10) (p := res_ratchetbase_Ceil) (run' := fun _ => none) E_ok tab_ratchetbase_Ceil_ok.mem rfl spec_ratchetbase_Ceil_ok (fun _ _ h => by cases h) (Eq.trans (by kernel_rfl) hr)
noncomputable def con_ratchetbase_Ceil : Con E := ⟨62, (Int × (Int × Unit)), Unit, (RwL.cons (Rd.int .i64).w (RwL.cons (Rd.int .i64).w RwL.nil)), RdBL.nil, 0, R_ratchetbase_Ceil, fun a b => run_ratchetbase_Ceil (.start a.1 a.2.1), res_ratchetbase_Ceil.av, res_ratchetbase_Ceil.bx⟩
theorem con_ratchetbase_Ceil_ok : con_ratchetbase_Ceil.Ok := fun a b r h => fn_ok (fn := Tryz.f62) (code := code_ratchetbase_Ceil) E_ok (by kernel_rfl) (by kernel_rfl) (by kernel_rfl) (Nat.le_of_ble_eq_true rfl) (good_ratchetbase_Ceil (.start a.1 a.2.1) r h)

/-! ### ratchet/ratchetref01.digits -/
inductive P_ratchetref01_digits where
 | start (width0 : Int) (by1 : Int)
noncomputable def place_ratchetref01_digits : P_ratchetref01_digits → List Bool
 | .start .. => []
noncomputable def st_ratchetref01_digits : P_ratchetref01_digits → St E.S
 | .start width0 by1 => st0 10 [.v (.int .i64 width0), .v (.int .i64 by1)] []
abbrev R_ratchetref01_digits : Type := ((Int × Unit) × Unit)
noncomputable def res_ratchetref01_digits : Res E (Int × Unit) Unit := { rows := [], flat := [], keep := 0, rl := (RdL.cons (Rd.int .i64) RdL.nil), rb := RdBL.nil }
noncomputable def run_ratchetref01_digits : P_ratchetref01_digits → Option R_ratchetref01_digits
 | .start width0 by1 =>
   if (by1 == (2 : Int)) = true then
     some ((width0, ()), ())
   else
     (run_ratchetbase_Ceil (.start width0 (4 : Int))) >>= fun t1 =>
     some ((t1.1.1, ()), ())
noncomputable def tab_ratchetref01_digits : List (Plc E P_ratchetref01_digits) := []
theorem tab_ratchetref01_digits_ok : All (PlcOk 10 0 place_ratchetref01_digits st_ratchetref01_digits) tab_ratchetref01_digits := trivial
noncomputable def code_ratchetref01_digits : Code := Tryz.f34.body.getD .skip
noncomputable def spec_ratchetref01_digits : Spec E.S := (Con.add con_ratchetbase_Ceil noSpec)
theorem spec_ratchetref01_digits_ok : SpecOk E spec_ratchetref01_digits := (Con.add_ok con_ratchetbase_Ceil_ok noSpec_ok)
theorem good_ratchetref01_digits : ∀ pt r, run_ratchetref01_digits pt = some r → Good E Tryz.f34 code_ratchetref01_digits 0 (res_ratchetref01_digits.av r) (res_ratchetref01_digits.bx r) (place_ratchetref01_digits pt) (st_ratchetref01_digits pt) := by
  intro pt r hr
  cases pt <;> exact fn_step (spec := spec_ratchetref01_digits) (wr := (fun i => mem i [])) (l := tab_ratchetref01_digits) (z := 10) (p := res_ratchetref01_digits) (run' := fun _ => none) E_ok tab_ratchetref01_digits_ok.mem rfl spec_ratchetref01_digits_ok (fun _ _ h => by cases h) (Eq.trans (by kernel_rfl) hr)
noncomputable def con_ratchetref01_digits : Con E := ⟨34, (Int × (Int × Unit)), Unit, (RwL.cons (Rd.int .i64).w (RwL.cons (Rd.int .i64).w RwL.nil)), RdBL.nil, 0, R_ratchetref01_digits, fun a b => run_ratchetref01_digits (.start a.1 a.2.1), res_ratchetref01_digits.av, res_ratchetref01_digits.bx⟩
theorem con_ratchetref01_digits_ok : con_ratchetref01_digits.Ok := fun a b r h => fn_ok (fn := Tryz.f34) (code := code_ratchetref01_digits) E_ok (by kernel_rfl) (by kernel_rfl) (by kernel_rfl) (Nat.le_of_ble_eq_true rfl) (good_ratchetref01_digits (.start a.1 a.2.1) r h)

/-! ### ratchet/ratchetref01.Format -/
inductive P_ratchetref01_Format where
 | start (a0_0 : Int) (a0_1 : Int) (by1 : Int)
 | p500 (by1 : Int) (s5 : ByteArray) (n6 : Int) (i7 : Int) (B0_0 : Int) (B0_1 : Int)
noncomputable def place_ratchetref01_Format : P_ratchetref01_Format → List Bool
 | .start .. => []
 | .p500 .. => [false, false, true, false, true, true, true, true]
noncomputable def st_ratchetref01_Format : P_ratchetref01_Format → St E.S
 | .start a0_0 a0_1 by1 => st0 55 [.agg [.v (.int .i64 a0_0), .v (.int .i64 a0_1)], .v (.int .i64 by1)] []
 | .p500 by1 s5 n6 i7 B0_0 B0_1 => mkSt 55 [1, 2, 5, 6, 7] [.v (.int .i64 by1), .bp 0 0, .v (.string s5), .v (.int .i64 n6), .v (.int .i64 i7)] [.var 23 [.v (.int .i64 B0_0), .v (.int .i64 B0_1)]]
abbrev R_ratchetref01_Format : Type := ((ByteArray × Unit) × Unit)
noncomputable def res_ratchetref01_Format : Res E (ByteArray × Unit) Unit := { rows := [], flat := [], keep := 0, rl := (RdL.cons Rd.str RdL.nil), rb := RdBL.nil }
noncomputable def run_ratchetref01_Format : P_ratchetref01_Format → Option R_ratchetref01_Format
 | .start a0_0 a0_1 by1 =>
   if (by1 == (10 : Int)) = true then
     (run_ratchetbase_Decimal (.start a0_0)) >>= fun t1 =>
     if (Nat.ble (t1.1.1.size + (⟨#[39, 100]⟩ : ByteArray).size) 9223372036854775807) = true then
       (run_ratchetbase_Decimal (.start a0_1)) >>= fun t2 =>
       if (Nat.ble ((t1.1.1 ++ (⟨#[39, 100]⟩ : ByteArray)).size + t2.1.1.size) 9223372036854775807) = true then
         some (((t1.1.1 ++ (⟨#[39, 100]⟩ : ByteArray)) ++ t2.1.1, ()), ())
       else none
     else none
   else
     run_ratchetref01_Format (.p500 by1 (⟨#[]⟩ : ByteArray) a0_1 (0 : Int) a0_0 a0_1)
 | .p500 by1 s5 n6 i7 B0_0 B0_1 =>
   (run_ratchetref01_digits (.start B0_0 by1)) >>= fun t1 =>
   if (decide (i7 < t1.1.1)) = true then
     if (!(by1 == (0 : Int))) = true then
       (span (⟨#[48, 49, 50, 51, 52, 53, 54, 55, 56, 57, 97, 98, 99, 100, 101, 102]⟩ : ByteArray).size (Int.tmod n6 by1) (IntKind.wrap .i64 ((Int.tmod n6 by1) + (1 : Int)))) >>= fun t2 =>
       if (Nat.ble (((⟨#[48, 49, 50, 51, 52, 53, 54, 55, 56, 57, 97, 98, 99, 100, 101, 102]⟩ : ByteArray).extract t2.1 t2.2).size + s5.size) 9223372036854775807) = true then
         if (!(by1 == (0 : Int))) = true then
           run_ratchetref01_Format (.p500 by1 (((⟨#[48, 49, 50, 51, 52, 53, 54, 55, 56, 57, 97, 98, 99, 100, 101, 102]⟩ : ByteArray).extract t2.1 t2.2) ++ s5) (IntKind.wrap .i64 (Int.tdiv n6 by1)) (IntKind.wrap .i64 (i7 + (1 : Int))) B0_0 B0_1)
         else none
       else none
     else none
   else
     if (by1 == (2 : Int)) = true then
       (run_ratchetbase_Decimal (.start B0_0)) >>= fun t3 =>
       if (Nat.ble (t3.1.1.size + (⟨#[39, 98]⟩ : ByteArray).size) 9223372036854775807) = true then
         if (Nat.ble ((t3.1.1 ++ (⟨#[39, 98]⟩ : ByteArray)).size + s5.size) 9223372036854775807) = true then
           some (((t3.1.1 ++ (⟨#[39, 98]⟩ : ByteArray)) ++ s5, ()), ())
         else none
       else none
     else
       (run_ratchetbase_Decimal (.start B0_0)) >>= fun t4 =>
       if (Nat.ble (t4.1.1.size + (⟨#[39, 104]⟩ : ByteArray).size) 9223372036854775807) = true then
         if (Nat.ble ((t4.1.1 ++ (⟨#[39, 104]⟩ : ByteArray)).size + s5.size) 9223372036854775807) = true then
           some (((t4.1.1 ++ (⟨#[39, 104]⟩ : ByteArray)) ++ s5, ()), ())
         else none
       else none
  partial_fixpoint
noncomputable def tab_ratchetref01_Format : List (Plc E P_ratchetref01_Format) := [⟨500, [false, false, true, false, true, true, true, true], { slots := [1, 2, 5, 6, 7], rows := [], flat := [], keep := 0 }, (Int × (Unit × (ByteArray × (Int × (Int × Unit))))), ((Int × (Int × Unit)) × Unit), (RdL.cons (Rd.int .i64) (RdL.cons (Rd.bp 0 0) (RdL.cons Rd.str (RdL.cons (Rd.int .i64) (RdL.cons (Rd.int .i64) RdL.nil))))), (RdBL.cons (RdB.var 23 (RdL.cons (Rd.int .i64) (RdL.cons (Rd.int .i64) RdL.nil))) RdBL.nil), fun a b => .p500 a.1 a.2.2.1 a.2.2.2.1 a.2.2.2.2.1 b.1.1 b.1.2.1⟩]
theorem tab_ratchetref01_Format_ok : All (PlcOk 55 0 place_ratchetref01_Format st_ratchetref01_Format) tab_ratchetref01_Format := ⟨⟨rfl, rfl, fun _ _ => rfl, fun _ _ => rfl⟩, trivial⟩
noncomputable def code_ratchetref01_Format : Code := Tryz.f9.body.getD .skip
noncomputable def spec_ratchetref01_Format : Spec E.S := (Con.add con_ratchetref01_digits (Con.add con_ratchetbase_Decimal noSpec))
theorem spec_ratchetref01_Format_ok : SpecOk E spec_ratchetref01_Format := (Con.add_ok con_ratchetref01_digits_ok (Con.add_ok con_ratchetbase_Decimal_ok noSpec_ok))
theorem good_ratchetref01_Format : ∀ pt r, run_ratchetref01_Format pt = some r → Good E Tryz.f9 code_ratchetref01_Format 0 (res_ratchetref01_Format.av r) (res_ratchetref01_Format.bx r) (place_ratchetref01_Format pt) (st_ratchetref01_Format pt) := by
  refine run_ratchetref01_Format.partial_correctness (fun pt r => Good E Tryz.f9 code_ratchetref01_Format 0 (res_ratchetref01_Format.av r) (res_ratchetref01_Format.bx r) (place_ratchetref01_Format pt) (st_ratchetref01_Format pt)) ?_
  intro run' ih pt r hr
  cases pt <;> exact fn_step (spec := spec_ratchetref01_Format) (wr := (fun i => mem i [])) (l := tab_ratchetref01_Format) (z := 55) (p := res_ratchetref01_Format) E_ok tab_ratchetref01_Format_ok.mem rfl spec_ratchetref01_Format_ok ih (Eq.trans (by kernel_rfl) hr)
noncomputable def con_ratchetref01_Format : Con E := ⟨9, ((Int × (Int × Unit)) × (Int × Unit)), Unit, (RwL.cons (Rw.agg (RwL.cons (Rd.int .i64).w (RwL.cons (Rd.int .i64).w RwL.nil))) (RwL.cons (Rd.int .i64).w RwL.nil)), RdBL.nil, 0, R_ratchetref01_Format, fun a b => run_ratchetref01_Format (.start a.1.1 a.1.2.1 a.2.1), res_ratchetref01_Format.av, res_ratchetref01_Format.bx⟩
theorem con_ratchetref01_Format_ok : con_ratchetref01_Format.Ok := fun a b r h => fn_ok (fn := Tryz.f9) (code := code_ratchetref01_Format) E_ok (by kernel_rfl) (by kernel_rfl) (by kernel_rfl) (Nat.le_of_ble_eq_true rfl) (good_ratchetref01_Format (.start a.1.1 a.1.2.1 a.2.1) r h)

/-! ### ratchet/ratchetlaw01.BitsStrings -/
inductive P_ratchetlaw01_BitsStrings where
 | start (a0_0 : Int) (a0_1 : Int) (by1 : Int) (s2 : ByteArray)
 | p255 (by1 : Int) (t7 : ByteArray) (e8 : Int) (B0_0 : Int) (B0_1 : Int)
 | p1023 (t7 : ByteArray) (B0_0 : Int) (B0_1 : Int)
noncomputable def place_ratchetlaw01_BitsStrings : P_ratchetlaw01_BitsStrings → List Bool
 | .start .. => []
 | .p255 .. => [true, true, true, true, true, true, true]
 | .p1023 .. => [true, true, true, true, true, true, true, true, true]
noncomputable def st_ratchetlaw01_BitsStrings : P_ratchetlaw01_BitsStrings → St E.S
 | .start a0_0 a0_1 by1 s2 => st0 77 [.agg [.v (.int .i64 a0_0), .v (.int .i64 a0_1)], .v (.int .i64 by1), .v (.string s2)] []
 | .p255 by1 t7 e8 B0_0 B0_1 => mkSt 77 [1, 3, 7, 8] [.v (.int .i64 by1), .bp 0 0, .v (.string t7), .v (.int .i64 e8)] [.var 23 [.v (.int .i64 B0_0), .v (.int .i64 B0_1)]]
 | .p1023 t7 B0_0 B0_1 => mkSt 77 [3, 7] [.bp 0 0, .v (.string t7)] [.var 23 [.v (.int .i64 B0_0), .v (.int .i64 B0_1)]]
abbrev R_ratchetlaw01_BitsStrings : Type := ((Bool × Unit) × Unit)
noncomputable def res_ratchetlaw01_BitsStrings : Res E (Bool × Unit) Unit := { rows := [], flat := [], keep := 0, rl := (RdL.cons Rd.bool RdL.nil), rb := RdBL.nil }
noncomputable def run_ratchetlaw01_BitsStrings : P_ratchetlaw01_BitsStrings → Option R_ratchetlaw01_BitsStrings
 | .start a0_0 a0_1 by1 s2 =>
   (some () : Option Unit) >>= fun t1 =>
   if (!true) = true then
     some ((false, ()), ())
   else
     if (decide ((s2.size : Int) > (60 : Int))) = true then
       some ((true, ()), ())
     else
       (run_bits_FormatBits (.start a0_0 a0_1 by1)) >>= fun t2 =>
       (run_bits_ParseBits (.start s2)) >>= fun t3 =>
       (run_ratchetref01_Parse (.start s2)) >>= fun t4 =>
       if (t3.1.2.1 != t4.1.2.1) = true then
         some ((false, ()), ())
       else
         if (!((t3.1.1.1 == t4.1.1.1) && ((t3.1.1.2.1 == t4.1.1.2.1) && true))) = true then
           some ((false, ()), ())
         else
           run_ratchetlaw01_BitsStrings (.p255 by1 t2.1.1 t2.1.2.1 a0_0 a0_1)
 | .p255 by1 t7 e8 B0_0 B0_1 =>
   (run_ratchetref01_FormatErr (.start B0_0 B0_1 by1)) >>= fun t1 =>
   if (t1.1.1 != (0 : Int)) = true then
     if (e8 == t1.1.1) = true then
       some ((seq t7 (⟨#[]⟩ : ByteArray), ()), ())
     else
       some ((false, ()), ())
   else
     if (e8 != (0 : Int)) = true then
       some ((false, ()), ())
     else
       (run_ratchetref01_Format (.start B0_0 B0_1 by1)) >>= fun t2 =>
       if (!(seq t7 t2.1.1)) = true then
         some ((false, ()), ())
       else
         run_ratchetlaw01_BitsStrings (.p1023 t7 B0_0 B0_1)
 | .p1023 t7 B0_0 B0_1 =>
   (run_bits_ParseBits (.start t7)) >>= fun t1 =>
   if (t1.1.2.1 == (0 : Int)) = true then
     some ((((t1.1.1.1 == B0_0) && ((t1.1.1.2.1 == B0_1) && true)), ()), ())
   else
     some ((false, ()), ())
  partial_fixpoint
noncomputable def tab_ratchetlaw01_BitsStrings : List (Plc E P_ratchetlaw01_BitsStrings) := [⟨255, [true, true, true, true, true, true, true], { slots := [1, 3, 7, 8], rows := [], flat := [], keep := 0 }, (Int × (Unit × (ByteArray × (Int × Unit)))), ((Int × (Int × Unit)) × Unit), (RdL.cons (Rd.int .i64) (RdL.cons (Rd.bp 0 0) (RdL.cons Rd.str (RdL.cons (Rd.int .i64) RdL.nil)))), (RdBL.cons (RdB.var 23 (RdL.cons (Rd.int .i64) (RdL.cons (Rd.int .i64) RdL.nil))) RdBL.nil), fun a b => .p255 a.1 a.2.2.1 a.2.2.2.1 b.1.1 b.1.2.1⟩,
  ⟨1023, [true, true, true, true, true, true, true, true, true], { slots := [3, 7], rows := [], flat := [], keep := 0 }, (Unit × (ByteArray × Unit)), ((Int × (Int × Unit)) × Unit), (RdL.cons (Rd.bp 0 0) (RdL.cons Rd.str RdL.nil)), (RdBL.cons (RdB.var 23 (RdL.cons (Rd.int .i64) (RdL.cons (Rd.int .i64) RdL.nil))) RdBL.nil), fun a b => .p1023 a.2.1 b.1.1 b.1.2.1⟩]
theorem tab_ratchetlaw01_BitsStrings_ok : All (PlcOk 77 0 place_ratchetlaw01_BitsStrings st_ratchetlaw01_BitsStrings) tab_ratchetlaw01_BitsStrings := ⟨⟨rfl, rfl, fun _ _ => rfl, fun _ _ => rfl⟩, ⟨⟨rfl, rfl, fun _ _ => rfl, fun _ _ => rfl⟩, trivial⟩⟩
noncomputable def code_ratchetlaw01_BitsStrings : Code := Tryz.f3.body.getD .skip
noncomputable def spec_ratchetlaw01_BitsStrings : Spec E.S := (Con.add con_ratchetref01_Format (Con.add con_ratchetref01_FormatErr (Con.add con_ratchetref01_Parse (Con.add con_bits_ParseBits (Con.add con_bits_FormatBits (Con.add con_ratchetlaw01_awake noSpec))))))
theorem spec_ratchetlaw01_BitsStrings_ok : SpecOk E spec_ratchetlaw01_BitsStrings := (Con.add_ok con_ratchetref01_Format_ok (Con.add_ok con_ratchetref01_FormatErr_ok (Con.add_ok con_ratchetref01_Parse_ok (Con.add_ok con_bits_ParseBits_ok (Con.add_ok con_bits_FormatBits_ok (Con.add_ok con_ratchetlaw01_awake_ok noSpec_ok))))))
theorem good_ratchetlaw01_BitsStrings : ∀ pt r, run_ratchetlaw01_BitsStrings pt = some r → Good E Tryz.f3 code_ratchetlaw01_BitsStrings 0 (res_ratchetlaw01_BitsStrings.av r) (res_ratchetlaw01_BitsStrings.bx r) (place_ratchetlaw01_BitsStrings pt) (st_ratchetlaw01_BitsStrings pt) := by
  refine run_ratchetlaw01_BitsStrings.partial_correctness (fun pt r => Good E Tryz.f3 code_ratchetlaw01_BitsStrings 0 (res_ratchetlaw01_BitsStrings.av r) (res_ratchetlaw01_BitsStrings.bx r) (place_ratchetlaw01_BitsStrings pt) (st_ratchetlaw01_BitsStrings pt)) ?_
  intro run' ih pt r hr
  cases pt <;> exact fn_step (spec := spec_ratchetlaw01_BitsStrings) (wr := (fun i => mem i [])) (l := tab_ratchetlaw01_BitsStrings) (z := 77) (p := res_ratchetlaw01_BitsStrings) E_ok tab_ratchetlaw01_BitsStrings_ok.mem rfl spec_ratchetlaw01_BitsStrings_ok ih (Eq.trans (by kernel_rfl) hr)
noncomputable def con_ratchetlaw01_BitsStrings : Con E := ⟨3, ((Int × (Int × Unit)) × (Int × (ByteArray × Unit))), Unit, (RwL.cons (Rw.agg (RwL.cons (Rd.int .i64).w (RwL.cons (Rd.int .i64).w RwL.nil))) (RwL.cons (Rd.int .i64).w (RwL.cons Rd.str.w RwL.nil))), RdBL.nil, 0, R_ratchetlaw01_BitsStrings, fun a b => run_ratchetlaw01_BitsStrings (.start a.1.1 a.1.2.1 a.2.1 a.2.2.1), res_ratchetlaw01_BitsStrings.av, res_ratchetlaw01_BitsStrings.bx⟩
theorem con_ratchetlaw01_BitsStrings_ok : con_ratchetlaw01_BitsStrings.Ok := fun a b r h => fn_ok (fn := Tryz.f3) (code := code_ratchetlaw01_BitsStrings) E_ok (by kernel_rfl) (by kernel_rfl) (by kernel_rfl) (Nat.le_of_ble_eq_true rfl) (good_ratchetlaw01_BitsStrings (.start a.1.1 a.1.2.1 a.2.1 a.2.2.1) r h)

end Go.Proofs.YtcgkjbglijganaaGreatDoor.Ev.F
