/- PRINTED by wip/gen/evp.py: what the functions come to. -/
import Derived.Test.YtjededkgblbamaaGreatDoorEvShelf
import Derived.Test.YtjededkgblbamaaGreatDoorEvSplit
import Derived.Test.YtjededkgblbamaaGreatDoorShelf
import Derived.Test.YtjededkgblbamaaGreatDoorEvLib
import Derived.Test.YtjededkgblbamaaGreatDoorEvRun
import Derived.Test.YtjededkgblbamaaGreatDoorProg
set_option linter.unusedVariables false
namespace Go.Proofs.YtjededkgblbamaaGreatDoor.Ev.F
open Go.Proofs Go.Proofs.YtjededkgblbamaaGreatDoor.Ev

/-- api.MachineCode -/
structure api_MachineCode where
  Op : Int
  A : Int
  B : Int
  N : Int
/-- machine.form -/
structure machine_form where
  name : ByteArray
  a : Bool
  b : Bool
  n : Bool
/-- api.MachineState -/
structure api_MachineState where
  Pc : Int
  Halted : Int
  Registers : (List Int)
  Memory : (List Int)
/-- machine.line -/
structure machine_line where
  code : api_MachineCode
  target : ByteArray
  label : ByteArray
  jumps : Bool
  labelled : Bool
/-- utf8.acceptRange -/
structure utf8_acceptRange where
  lo : Int
  hi : Int
noncomputable def S : Nat → Type
 | 3 => Int
 | 5 => Int
 | 9 => ByteArray
 | 27 => api_MachineState
 | 28 => Int
 | 40 => api_MachineCode
 | 157 => machine_line
 | 166 => machine_form
 | 230 => Bool
 | 255 => Int
 | 278 => utf8_acceptRange
 | _ => Unit
noncomputable def pk (e : Nat) : Pk S (S e) :=
  if h : e = 3 then h ▸ ((Pk.int .i64) : Pk S Int) else
  if h : e = 5 then h ▸ ((Pk.int .u8) : Pk S Int) else
  if h : e = 9 then h ▸ (Pk.str : Pk S ByteArray) else
  if h : e = 27 then h ▸ ((Pk.iso (Pk.cons (Pk.int .i64) (Pk.cons (Pk.int .i64) (Pk.cons (Pk.sl 3) (Pk.cons (Pk.sl 3) Pk.unit)))) (fun a => (⟨a.1, a.2.1, a.2.2.1, a.2.2.2.1⟩ : api_MachineState)) (fun x => (x.Pc, x.Halted, x.Registers, x.Memory, ())) (fun _ => rfl)) : Pk S api_MachineState) else
  if h : e = 28 then h ▸ ((Pk.int .i64) : Pk S Int) else
  if h : e = 40 then h ▸ ((Pk.iso (Pk.cons (Pk.int .i64) (Pk.cons (Pk.int .i64) (Pk.cons (Pk.int .i64) (Pk.cons (Pk.int .i64) Pk.unit)))) (fun a => (⟨a.1, a.2.1, a.2.2.1, a.2.2.2.1⟩ : api_MachineCode)) (fun x => (x.Op, x.A, x.B, x.N, ())) (fun _ => rfl)) : Pk S api_MachineCode) else
  if h : e = 157 then h ▸ ((Pk.iso (Pk.cons (Pk.iso (Pk.cons (Pk.int .i64) (Pk.cons (Pk.int .i64) (Pk.cons (Pk.int .i64) (Pk.cons (Pk.int .i64) Pk.unit)))) (fun a => (⟨a.1, a.2.1, a.2.2.1, a.2.2.2.1⟩ : api_MachineCode)) (fun x => (x.Op, x.A, x.B, x.N, ())) (fun _ => rfl)) (Pk.cons Pk.str (Pk.cons Pk.str (Pk.cons Pk.bool (Pk.cons Pk.bool Pk.unit))))) (fun a => (⟨a.1, a.2.1, a.2.2.1, a.2.2.2.1, a.2.2.2.2.1⟩ : machine_line)) (fun x => (x.code, x.target, x.label, x.jumps, x.labelled, ())) (fun _ => rfl)) : Pk S machine_line) else
  if h : e = 166 then h ▸ ((Pk.iso (Pk.cons Pk.str (Pk.cons Pk.bool (Pk.cons Pk.bool (Pk.cons Pk.bool Pk.unit)))) (fun a => (⟨a.1, a.2.1, a.2.2.1, a.2.2.2.1⟩ : machine_form)) (fun x => (x.name, x.a, x.b, x.n, ())) (fun _ => rfl)) : Pk S machine_form) else
  if h : e = 230 then h ▸ (Pk.err : Pk S Bool) else
  if h : e = 255 then h ▸ ((Pk.int .u64) : Pk S Int) else
  if h : e = 278 then h ▸ ((Pk.iso (Pk.cons (Pk.int .u8) (Pk.cons (Pk.int .u8) Pk.unit)) (fun a => (⟨a.1, a.2.1⟩ : utf8_acceptRange)) (fun x => (x.lo, x.hi, ())) (fun _ => rfl)) : Pk S utf8_acceptRange) else
  Pk.no (Tryz.prog.cellsOf e)
theorem pk_len (e : Nat) : (pk e).len = Tryz.prog.cellsOf e := by
  unfold pk
  by_cases h : e = 3
  · subst h; kernel_rfl
  refine (congrArg Pk.len (dif_neg h)).trans ?_; clear h
  by_cases h : e = 5
  · subst h; kernel_rfl
  refine (congrArg Pk.len (dif_neg h)).trans ?_; clear h
  by_cases h : e = 9
  · subst h; kernel_rfl
  refine (congrArg Pk.len (dif_neg h)).trans ?_; clear h
  by_cases h : e = 27
  · subst h; kernel_rfl
  refine (congrArg Pk.len (dif_neg h)).trans ?_; clear h
  by_cases h : e = 28
  · subst h; kernel_rfl
  refine (congrArg Pk.len (dif_neg h)).trans ?_; clear h
  by_cases h : e = 40
  · subst h; kernel_rfl
  refine (congrArg Pk.len (dif_neg h)).trans ?_; clear h
  by_cases h : e = 157
  · subst h; kernel_rfl
  refine (congrArg Pk.len (dif_neg h)).trans ?_; clear h
  by_cases h : e = 166
  · subst h; kernel_rfl
  refine (congrArg Pk.len (dif_neg h)).trans ?_; clear h
  by_cases h : e = 230
  · subst h; kernel_rfl
  refine (congrArg Pk.len (dif_neg h)).trans ?_; clear h
  by_cases h : e = 255
  · subst h; kernel_rfl
  refine (congrArg Pk.len (dif_neg h)).trans ?_; clear h
  by_cases h : e = 278
  · subst h; kernel_rfl
  refine (congrArg Pk.len (dif_neg h)).trans ?_; clear h
  exact Pk.no_len _
noncomputable def plain : Nat → Bool := fun t => mem t [40, 157]
noncomputable def byt (e : Nat) (s : ByteArray) : Option (List (S e)) := if h : e = 5 then some (h ▸ (strBytes s : List Int)) else none
theorem byt_ok : ∀ e s l, byt e s = some l → Tryz.prog.underlying e = some (.int .u8) ∧ Tryz.prog.cellsOf e = 1 ∧ l.length = s.size ∧ ∀ i x, l[i]? = some x → (pk e).wt x = [.v (.int .u8 ((s.data.toList.getD i 0).toNat : Int))] := by
  intro e s l h
  unfold byt at h
  split at h
  · rename_i he; subst he; obtain rfl := Option.some.inj h
    exact ⟨by kernel_rfl, by kernel_rfl, (strBytes_ok s).1, fun i x hx => by rw [(strBytes_ok s).2 i x hx]; kernel_rfl⟩
  cases h
def glob1 : List Int := [1, 10, 100, 1000, 10000, 100000, 1000000, 10000000, 100000000, 1000000000, 10000000000, 100000000000, 1000000000000, 10000000000000, 100000000000000, 1000000000000000, 10000000000000000, 100000000000000000, 1000000000000000000, 10000000000000000000]
def glob5 : List Int := [0, 1, 28, 2, 29, 14, 24, 3, 30, 22, 20, 15, 25, 17, 4, 8, 31, 27, 13, 23, 21, 19, 16, 7, 26, 12, 18, 6, 11, 5, 10, 9]
def glob6 : List Int := [0, 1, 56, 2, 57, 49, 28, 3, 61, 58, 42, 50, 38, 29, 17, 4, 62, 47, 59, 36, 45, 43, 51, 22, 53, 39, 33, 30, 24, 18, 12, 5, 63, 55, 48, 27, 60, 41, 37, 16, 46, 35, 44, 21, 52, 32, 23, 11, 54, 26, 40, 15, 34, 20, 31, 10, 25, 14, 19, 9, 13, 8, 7, 6]
def glob0 : List machine_form := [⟨⟨#[104, 97, 108, 116]⟩, false, false, false⟩, ⟨⟨#[115, 101, 116]⟩, true, false, true⟩, ⟨⟨#[109, 111, 118, 101]⟩, true, true, false⟩, ⟨⟨#[97, 100, 100]⟩, true, true, false⟩, ⟨⟨#[115, 117, 98]⟩, true, true, false⟩, ⟨⟨#[97, 110, 100]⟩, true, true, false⟩, ⟨⟨#[108, 111, 97, 100]⟩, true, true, false⟩, ⟨⟨#[115, 116, 111, 114, 101]⟩, true, true, false⟩, ⟨⟨#[106, 117, 109, 112]⟩, false, false, true⟩, ⟨⟨#[122, 101, 114, 111]⟩, true, false, true⟩]
def glob4 : List utf8_acceptRange := [⟨128, 191⟩, ⟨160, 191⟩, ⟨128, 159⟩, ⟨144, 191⟩, ⟨128, 143⟩, ⟨0, 0⟩, ⟨0, 0⟩, ⟨0, 0⟩, ⟨0, 0⟩, ⟨0, 0⟩, ⟨0, 0⟩, ⟨0, 0⟩, ⟨0, 0⟩, ⟨0, 0⟩, ⟨0, 0⟩, ⟨0, 0⟩]
noncomputable def globs : Nat → Option (AV S)
 | 0 => some (.ar 166 glob0)
 | 4 => some (.ar 278 glob4)
 | 1 => some (.ar 255 glob1)
 | 5 => some (.ar 5 glob5)
 | 6 => some (.ar 5 glob6)
 | 7 => some (.el 230 true 0)
 | 8 => some (.el 230 true 0)
 | _ => none
theorem globs_ok : ∀ g x, globs g = some x → idsV x = [] := by
  intro g x h
  unfold globs at h
  split at h <;> first | (cases h; done) | (obtain rfl := Option.some.inj h; rfl)
noncomputable def nums : (e : Nat) → List (S e) → Option (List Int)
 | 5, l => some l
 | _, _ => none
theorem nums_ok : ∀ e l xs, nums e l = some xs → Tryz.prog.underlying e = some (.int .u8) ∧ xs.length = l.length ∧ ∀ (i : Nat) x n, l[i]? = some x → xs[i]? = some n → (pk e).wt x = [.v (.int .u8 n)] := by
  intro e l xs h
  unfold nums at h
  split at h
  · obtain rfl := Option.some.inj h
    exact ⟨by kernel_rfl, rfl, fun i x n hx hn => by obtain rfl : x = n := Option.some.inj (hx.symm.trans hn); kernel_rfl⟩
  · cases h
noncomputable def held : Nat → Option (String × Array Value)
 | 1 => some ("internal/strconv.uint64pow10", (Go.Lib.pow10Tab.map fun z => Value.int .u64 z).toArray)
 | _ => none
noncomputable abbrev E : Env := mkEnv Tryz.prog S pk globs plain byt nums held
theorem E_ok : E.Ok := mkEnv_ok pk_len (by kernel_rfl) globs_ok (fun t h => mem_cases (Q := fun t => Tryz.prog.stoodInHeld t = false ∧ Tryz.prog.eqGuardType Tryz.prog.depth t = false) h ⟨⟨by kernel_rfl, by kernel_rfl⟩, ⟨⟨by kernel_rfl, by kernel_rfl⟩, trivial⟩⟩) byt_ok nums_ok
noncomputable def con_strconv_Itoa : Con E := conItoa E 84
theorem con_strconv_Itoa_ok : con_strconv_Itoa.Ok := conItoa_ok (fn := Tryz.f84) (by kernel_rfl) (by kernel_rfl) (by kernel_rfl) (g := 1) rfl (fun n w h0 h1 ht => Tryz.strconv_Itoa n h0 h1 w ht)
noncomputable def con_strings_Split : Con E := conSplit E 95 9 splitRun
theorem con_strings_Split_ok : con_strings_Split.Ok := conSplit_ok (ρ := Tryz.lays146_ren) Tryz.lays146 rfl (by kernel_rfl) (fn := Tryz.f95) (by kernel_rfl) (by kernel_rfl) (by kernel_rfl) (fun s => s) (fun _ => rfl) (by kernel_rfl) (fun p u r h => ⟨r.1.1, h, congrArg (fun l => ((l, ()), ())) (List.map_id' r.1.1).symm⟩)
noncomputable def con_internal_stringslite_Index : Con E := conOne E 197 Go.Lib.indexByte
theorem con_internal_stringslite_Index_ok : con_internal_stringslite_Index.Ok := conOne_ok (fn := Tryz.f197) (by kernel_rfl) (by kernel_rfl) (by kernel_rfl) Tryz.stringslite_Index_one
noncomputable def con_strconv_Atoi : Con E := conAtoi E 200
theorem con_strconv_Atoi_ok : con_strconv_Atoi.Ok := conAtoi_ok (ρ := Tryz.laysC172_ren) Tryz.laysC172 rfl rfl rfl (g15 := 7) (g16 := 8) (fn := Tryz.f200) (by kernel_rfl) (by kernel_rfl) (by kernel_rfl) (e := 230) (x15 := (true : Bool)) (x16 := (true : Bool)) rfl rfl (by kernel_rfl) (by kernel_rfl)
noncomputable def con_internal_bytealg_IndexByteString : Con E := conIndexByteString E 219
theorem con_internal_bytealg_IndexByteString_ok : con_internal_bytealg_IndexByteString.Ok := conIndexByteString_ok 219 (fn := Tryz.f219) (by kernel_rfl) (by kernel_rfl) (by kernel_rfl) (by kernel_rfl) (by kernel_rfl)
noncomputable def base : Spec E.S := (Con.add con_internal_bytealg_IndexByteString (Con.add con_strconv_Atoi (Con.add con_internal_stringslite_Index (Con.add con_strings_Split (Con.add con_strconv_Itoa noSpec)))))
theorem base_ok : SpecOk E base := (Con.add_ok con_internal_bytealg_IndexByteString_ok (Con.add_ok con_strconv_Atoi_ok (Con.add_ok con_internal_stringslite_Index_ok (Con.add_ok con_strings_Split_ok (Con.add_ok con_strconv_Itoa_ok noSpec_ok)))))
noncomputable def con_ratchetlaw31_awake : Con E := conConst E 11 (.v (.bool true))
noncomputable def wrs_ratchetlaw31_awake : Nat → Wr
 | 11 => mkWr [] [(6, [12]), (14, [18, 19])]
 | 13 => mkWr [6, 10, 22, 25, 31, 32, 33, 36, 40] [(12, [13, 15, 17]), (14, [1, 24]), (15666, [0, 10, 30, 31])]
 | 35 => mkWr [] [(28, [18, 19, 20])]
 | 49 => mkWr [2, 10, 58, 62, 64] [(14, [18]), (523571, [60])]
 | 64 => mkWr [0, 7] [(6, [1, 2, 3, 4, 5, 6])]
 | 69 => mkWr [2, 3, 5, 6] [(6, [0, 4])]
 | 70 => mkWr [1, 3, 4, 7, 9, 10, 11, 12, 13, 14, 15, 16, 17, 18, 21, 22, 28, 32, 36, 37, 40, 41, 42, 45, 47, 48, 51, 56, 58, 61, 64, 67, 69, 72, 73, 74, 79, 82, 83, 84, 89, 92, 93, 97, 100, 101, 102, 104, 107, 108, 109, 111, 118, 119, 125, 126] [(6, [3, 10, 11, 13, 14]), (65454, [63]), (261822, [68]), (1047294, [78]), (4189182, [88]), (16756734, [96]), (67026942, [103]), (268107774, [110])]
 | 72 => mkWr [] [(3378, [17, 18])]
 | 73 => mkWr [] [(62, [58, 61])]
 | 95 => mkWr [4, 7] [(6, [5, 6])]
 | 96 => mkWr [] [(3378, [17, 18])]
 | 120 => mkWr [] [(14, [12, 15])]
 | 121 => mkWr [2, 5, 7] []
 | 124 => mkWr [] [(3378, [17, 18])]
 | 146 => mkWr [8, 9, 18, 31, 42, 49, 58, 61, 62, 65] [(116, [16, 17]), (2046, [60]), (130838, [48])]
 | 177 => mkWr [4, 6, 21, 33, 38, 44, 48, 49] [(506, [47]), (16018, [37])]
 | 187 => mkWr [] [(3378, [15])]
 | _ => mkWr [] []
theorem con_ratchetlaw31_awake_ok : con_ratchetlaw31_awake.Ok := conConst_ok E_ok base_ok wrs_ratchetlaw31_awake 400 60 (ys := [.v (.bool true)]) rfl (by kernel_rfl)

/-! ### ratchet/ratchetbase.Within -/
inductive P_ratchetbase_Within where
 | start (n0 : Int) (lo1 : Int) (hi2 : Int)
noncomputable def place_ratchetbase_Within : P_ratchetbase_Within → List Bool
 | .start .. => []
noncomputable def st_ratchetbase_Within : P_ratchetbase_Within → St E.S
 | .start n0 lo1 hi2 => st0 15 [.v (.int .i64 n0), .v (.int .i64 lo1), .v (.int .i64 hi2)] []
abbrev R_ratchetbase_Within : Type := ((Bool × Unit) × Unit)
noncomputable def res_ratchetbase_Within : Res E (Bool × Unit) Unit := { rows := [], flat := [], keep := 0, done := [0], rl := (RdL.cons Rd.bool RdL.nil), rb := RdBL.nil }
noncomputable def run_ratchetbase_Within : P_ratchetbase_Within → Option R_ratchetbase_Within
 | .start n0 lo1 hi2 =>
   if (decide (lo1 ≤ n0)) = true then
     some ((decide (n0 ≤ hi2), ()), ())
   else
     some ((false, ()), ())
noncomputable def tab_ratchetbase_Within : List (Plc E P_ratchetbase_Within) := []
theorem tab_ratchetbase_Within_ok : All (PlcOk 15 0 place_ratchetbase_Within st_ratchetbase_Within) tab_ratchetbase_Within := trivial
noncomputable def code_ratchetbase_Within : Code := Tryz.f54.body.getD .skip
noncomputable def spec_ratchetbase_Within : Spec E.S := noSpec
theorem spec_ratchetbase_Within_ok : SpecOk E spec_ratchetbase_Within := noSpec_ok
theorem good_ratchetbase_Within : ∀ pt r, run_ratchetbase_Within pt = some r → Good E Tryz.f54 code_ratchetbase_Within 0 (res_ratchetbase_Within.av r) (res_ratchetbase_Within.bx r) (place_ratchetbase_Within pt) (st_ratchetbase_Within pt) := by
  intro pt r hr
  cases pt <;> exact fn_step (spec := spec_ratchetbase_Within) (wr := (mkWr [] [])) (l := tab_ratchetbase_Within) (z := 15) (p := res_ratchetbase_Within) (run' := fun _ => none) E_ok tab_ratchetbase_Within_ok.mem rfl spec_ratchetbase_Within_ok (fun _ _ h => by cases h) (Eq.trans (by kernel_rfl) hr)
noncomputable def con_ratchetbase_Within : Con E := ⟨54, (Int × (Int × (Int × Unit))), Unit, (RwL.cons (Rd.int .i64).w (RwL.cons (Rd.int .i64).w (RwL.cons (Rd.int .i64).w RwL.nil))), RdBL.nil, 0, R_ratchetbase_Within, fun a b => run_ratchetbase_Within (.start a.1 a.2.1 a.2.2.1), res_ratchetbase_Within.av, res_ratchetbase_Within.bx⟩
theorem con_ratchetbase_Within_ok : con_ratchetbase_Within.Ok := fun a b r h => fn_ok (fn := Tryz.f54) (code := code_ratchetbase_Within) E_ok (by kernel_rfl) (by kernel_rfl) (by kernel_rfl) (Nat.le_of_ble_eq_true rfl) (good_ratchetbase_Within (.start a.1 a.2.1 a.2.2.1) r h)

/-! ### ratchet/ratchetref31.StepsErr -/
inductive P_ratchetref31_StepsErr where
 | start (steps0 : Int)
noncomputable def place_ratchetref31_StepsErr : P_ratchetref31_StepsErr → List Bool
 | .start .. => []
noncomputable def st_ratchetref31_StepsErr : P_ratchetref31_StepsErr → St E.S
 | .start steps0 => st0 6 [.v (.int .i64 steps0)] []
abbrev R_ratchetref31_StepsErr : Type := ((Int × Unit) × Unit)
noncomputable def res_ratchetref31_StepsErr : Res E (Int × Unit) Unit := { rows := [], flat := [], keep := 0, done := [0], rl := (RdL.cons (Rd.int .i64) RdL.nil), rb := RdBL.nil }
noncomputable def run_ratchetref31_StepsErr : P_ratchetref31_StepsErr → Option R_ratchetref31_StepsErr
 | .start steps0 =>
   (run_ratchetbase_Within (.start steps0 (0 : Int) (2000 : Int))) >>= fun t1 =>
   if (!t1.1.1) = true then
     some (((2 : Int), ()), ())
   else
     some (((0 : Int), ()), ())
noncomputable def tab_ratchetref31_StepsErr : List (Plc E P_ratchetref31_StepsErr) := []
theorem tab_ratchetref31_StepsErr_ok : All (PlcOk 6 0 place_ratchetref31_StepsErr st_ratchetref31_StepsErr) tab_ratchetref31_StepsErr := trivial
noncomputable def code_ratchetref31_StepsErr : Code := Tryz.f12.body.getD .skip
noncomputable def spec_ratchetref31_StepsErr : Spec E.S := (Con.add con_ratchetbase_Within noSpec)
theorem spec_ratchetref31_StepsErr_ok : SpecOk E spec_ratchetref31_StepsErr := (Con.add_ok con_ratchetbase_Within_ok noSpec_ok)
theorem good_ratchetref31_StepsErr : ∀ pt r, run_ratchetref31_StepsErr pt = some r → Good E Tryz.f12 code_ratchetref31_StepsErr 0 (res_ratchetref31_StepsErr.av r) (res_ratchetref31_StepsErr.bx r) (place_ratchetref31_StepsErr pt) (st_ratchetref31_StepsErr pt) := by
  intro pt r hr
  cases pt <;> exact fn_step (spec := spec_ratchetref31_StepsErr) (wr := (mkWr [] [])) (l := tab_ratchetref31_StepsErr) (z := 6) (p := res_ratchetref31_StepsErr) (run' := fun _ => none) E_ok tab_ratchetref31_StepsErr_ok.mem rfl spec_ratchetref31_StepsErr_ok (fun _ _ h => by cases h) (Eq.trans (by kernel_rfl) hr)
noncomputable def con_ratchetref31_StepsErr : Con E := ⟨12, (Int × Unit), Unit, (RwL.cons (Rd.int .i64).w RwL.nil), RdBL.nil, 0, R_ratchetref31_StepsErr, fun a b => run_ratchetref31_StepsErr (.start a.1), res_ratchetref31_StepsErr.av, res_ratchetref31_StepsErr.bx⟩
theorem con_ratchetref31_StepsErr_ok : con_ratchetref31_StepsErr.Ok := fun a b r h => fn_ok (fn := Tryz.f12) (code := code_ratchetref31_StepsErr) E_ok (by kernel_rfl) (by kernel_rfl) (by kernel_rfl) (Nat.le_of_ble_eq_true rfl) (good_ratchetref31_StepsErr (.start a.1) r h)

/-! ### ratchet/ratchetref31.CopyProgram -/
inductive P_ratchetref31_CopyProgram where
 | start (l0 : (List api_MachineCode))
noncomputable def place_ratchetref31_CopyProgram : P_ratchetref31_CopyProgram → List Bool
 | .start .. => []
noncomputable def st_ratchetref31_CopyProgram : P_ratchetref31_CopyProgram → St E.S
 | .start l0 => st0 6 [.sl 40 l0 false] []
abbrev R_ratchetref31_CopyProgram : Type := ((Unit × Unit) × ((List api_MachineCode) × Unit))
noncomputable def res_ratchetref31_CopyProgram : Res E (Unit × Unit) ((List api_MachineCode) × Unit) := { rows := [], flat := [], keep := 0, done := [0], rl := (RdL.cons (Rd.rw 0) RdL.nil), rb := (RdBL.cons (RdB.row 40 true) RdBL.nil) }
noncomputable def run_ratchetref31_CopyProgram : P_ratchetref31_CopyProgram → Option R_ratchetref31_CopyProgram
 | .start l0 =>
   if (fits (List.length ([] : List api_MachineCode)) (List.length l0) 32) = true then
     some (((), ()), (([] : List api_MachineCode) ++ l0, ()))
   else none
noncomputable def tab_ratchetref31_CopyProgram : List (Plc E P_ratchetref31_CopyProgram) := []
theorem tab_ratchetref31_CopyProgram_ok : All (PlcOk 6 0 place_ratchetref31_CopyProgram st_ratchetref31_CopyProgram) tab_ratchetref31_CopyProgram := trivial
noncomputable def code_ratchetref31_CopyProgram : Code := Tryz.f14.body.getD .skip
noncomputable def spec_ratchetref31_CopyProgram : Spec E.S := noSpec
theorem spec_ratchetref31_CopyProgram_ok : SpecOk E spec_ratchetref31_CopyProgram := noSpec_ok
theorem good_ratchetref31_CopyProgram : ∀ pt r, run_ratchetref31_CopyProgram pt = some r → Good E Tryz.f14 code_ratchetref31_CopyProgram 0 (res_ratchetref31_CopyProgram.av r) (res_ratchetref31_CopyProgram.bx r) (place_ratchetref31_CopyProgram pt) (st_ratchetref31_CopyProgram pt) := by
  intro pt r hr
  cases pt <;> exact fn_step (spec := spec_ratchetref31_CopyProgram) (wr := (mkWr [] [])) (l := tab_ratchetref31_CopyProgram) (z := 6) (p := res_ratchetref31_CopyProgram) (run' := fun _ => none) E_ok tab_ratchetref31_CopyProgram_ok.mem rfl spec_ratchetref31_CopyProgram_ok (fun _ _ h => by cases h) (Eq.trans (by kernel_rfl) hr)
noncomputable def con_ratchetref31_CopyProgram : Con E := ⟨14, ((List api_MachineCode) × Unit), Unit, (RwL.cons (Rw.sl 40) RwL.nil), RdBL.nil, 0, R_ratchetref31_CopyProgram, fun a b => run_ratchetref31_CopyProgram (.start a.1), res_ratchetref31_CopyProgram.av, res_ratchetref31_CopyProgram.bx⟩
theorem con_ratchetref31_CopyProgram_ok : con_ratchetref31_CopyProgram.Ok := fun a b r h => fn_ok (fn := Tryz.f14) (code := code_ratchetref31_CopyProgram) E_ok (by kernel_rfl) (by kernel_rfl) (by kernel_rfl) (Nat.le_of_ble_eq_true rfl) (good_ratchetref31_CopyProgram (.start a.1) r h)

/-! ### ratchet/ratchetbase.CopyInts -/
inductive P_ratchetbase_CopyInts where
 | start (l0 : (List Int))
noncomputable def place_ratchetbase_CopyInts : P_ratchetbase_CopyInts → List Bool
 | .start .. => []
noncomputable def st_ratchetbase_CopyInts : P_ratchetbase_CopyInts → St E.S
 | .start l0 => st0 6 [.sl 3 l0 false] []
abbrev R_ratchetbase_CopyInts : Type := ((Unit × Unit) × ((List Int) × Unit))
noncomputable def res_ratchetbase_CopyInts : Res E (Unit × Unit) ((List Int) × Unit) := { rows := [], flat := [], keep := 0, done := [0], rl := (RdL.cons (Rd.rw 0) RdL.nil), rb := (RdBL.cons (RdB.row 3 true) RdBL.nil) }
noncomputable def run_ratchetbase_CopyInts : P_ratchetbase_CopyInts → Option R_ratchetbase_CopyInts
 | .start l0 =>
   if (fits (List.length ([] : List Int)) (List.length l0) 8) = true then
     some (((), ()), (([] : List Int) ++ l0, ()))
   else none
noncomputable def tab_ratchetbase_CopyInts : List (Plc E P_ratchetbase_CopyInts) := []
theorem tab_ratchetbase_CopyInts_ok : All (PlcOk 6 0 place_ratchetbase_CopyInts st_ratchetbase_CopyInts) tab_ratchetbase_CopyInts := trivial
noncomputable def code_ratchetbase_CopyInts : Code := Tryz.f15.body.getD .skip
noncomputable def spec_ratchetbase_CopyInts : Spec E.S := noSpec
theorem spec_ratchetbase_CopyInts_ok : SpecOk E spec_ratchetbase_CopyInts := noSpec_ok
theorem good_ratchetbase_CopyInts : ∀ pt r, run_ratchetbase_CopyInts pt = some r → Good E Tryz.f15 code_ratchetbase_CopyInts 0 (res_ratchetbase_CopyInts.av r) (res_ratchetbase_CopyInts.bx r) (place_ratchetbase_CopyInts pt) (st_ratchetbase_CopyInts pt) := by
  intro pt r hr
  cases pt <;> exact fn_step (spec := spec_ratchetbase_CopyInts) (wr := (mkWr [] [])) (l := tab_ratchetbase_CopyInts) (z := 6) (p := res_ratchetbase_CopyInts) (run' := fun _ => none) E_ok tab_ratchetbase_CopyInts_ok.mem rfl spec_ratchetbase_CopyInts_ok (fun _ _ h => by cases h) (Eq.trans (by kernel_rfl) hr)
noncomputable def con_ratchetbase_CopyInts : Con E := ⟨15, ((List Int) × Unit), Unit, (RwL.cons (Rw.sl 3) RwL.nil), RdBL.nil, 0, R_ratchetbase_CopyInts, fun a b => run_ratchetbase_CopyInts (.start a.1), res_ratchetbase_CopyInts.av, res_ratchetbase_CopyInts.bx⟩
theorem con_ratchetbase_CopyInts_ok : con_ratchetbase_CopyInts.Ok := fun a b r h => fn_ok (fn := Tryz.f15) (code := code_ratchetbase_CopyInts) E_ok (by kernel_rfl) (by kernel_rfl) (by kernel_rfl) (Nat.le_of_ble_eq_true rfl) (good_ratchetbase_CopyInts (.start a.1) r h)

/-! ### ratchet/machine.within -/
inductive P_machine_within where
 | start (n0 : Int) (lo1 : Int) (hi2 : Int)
noncomputable def place_machine_within : P_machine_within → List Bool
 | .start .. => []
noncomputable def st_machine_within : P_machine_within → St E.S
 | .start n0 lo1 hi2 => st0 15 [.v (.int .i64 n0), .v (.int .i64 lo1), .v (.int .i64 hi2)] []
abbrev R_machine_within : Type := ((Bool × Unit) × Unit)
noncomputable def res_machine_within : Res E (Bool × Unit) Unit := { rows := [], flat := [], keep := 0, done := [0], rl := (RdL.cons Rd.bool RdL.nil), rb := RdBL.nil }
noncomputable def run_machine_within : P_machine_within → Option R_machine_within
 | .start n0 lo1 hi2 =>
   if (decide (lo1 ≤ n0)) = true then
     some ((decide (n0 ≤ hi2), ()), ())
   else
     some ((false, ()), ())
noncomputable def tab_machine_within : List (Plc E P_machine_within) := []
theorem tab_machine_within_ok : All (PlcOk 15 0 place_machine_within st_machine_within) tab_machine_within := trivial
noncomputable def code_machine_within : Code := Tryz.f75.body.getD .skip
noncomputable def spec_machine_within : Spec E.S := noSpec
theorem spec_machine_within_ok : SpecOk E spec_machine_within := noSpec_ok
theorem good_machine_within : ∀ pt r, run_machine_within pt = some r → Good E Tryz.f75 code_machine_within 0 (res_machine_within.av r) (res_machine_within.bx r) (place_machine_within pt) (st_machine_within pt) := by
  intro pt r hr
  cases pt <;> exact fn_step (spec := spec_machine_within) (wr := (mkWr [] [])) (l := tab_machine_within) (z := 15) (p := res_machine_within) (run' := fun _ => none) E_ok tab_machine_within_ok.mem rfl spec_machine_within_ok (fun _ _ h => by cases h) (Eq.trans (by kernel_rfl) hr)
noncomputable def con_machine_within : Con E := ⟨75, (Int × (Int × (Int × Unit))), Unit, (RwL.cons (Rd.int .i64).w (RwL.cons (Rd.int .i64).w (RwL.cons (Rd.int .i64).w RwL.nil))), RdBL.nil, 0, R_machine_within, fun a b => run_machine_within (.start a.1 a.2.1 a.2.2.1), res_machine_within.av, res_machine_within.bx⟩
theorem con_machine_within_ok : con_machine_within.Ok := fun a b r h => fn_ok (fn := Tryz.f75) (code := code_machine_within) E_ok (by kernel_rfl) (by kernel_rfl) (by kernel_rfl) (Nat.le_of_ble_eq_true rfl) (good_machine_within (.start a.1 a.2.1 a.2.2.1) r h)

/-! ### ratchet/machine.isRegister -/
inductive P_machine_isRegister where
 | start (n0 : Int)
noncomputable def place_machine_isRegister : P_machine_isRegister → List Bool
 | .start .. => []
noncomputable def st_machine_isRegister : P_machine_isRegister → St E.S
 | .start n0 => st0 5 [.v (.int .i64 n0)] []
abbrev R_machine_isRegister : Type := ((Bool × Unit) × Unit)
noncomputable def res_machine_isRegister : Res E (Bool × Unit) Unit := { rows := [], flat := [], keep := 0, done := [0], rl := (RdL.cons Rd.bool RdL.nil), rb := RdBL.nil }
noncomputable def run_machine_isRegister : P_machine_isRegister → Option R_machine_isRegister
 | .start n0 =>
   (run_machine_within (.start n0 (0 : Int) (3 : Int))) >>= fun t1 =>
   some ((t1.1.1, ()), ())
noncomputable def tab_machine_isRegister : List (Plc E P_machine_isRegister) := []
theorem tab_machine_isRegister_ok : All (PlcOk 5 0 place_machine_isRegister st_machine_isRegister) tab_machine_isRegister := trivial
noncomputable def code_machine_isRegister : Code := Tryz.f122.body.getD .skip
noncomputable def spec_machine_isRegister : Spec E.S := (Con.add con_machine_within noSpec)
theorem spec_machine_isRegister_ok : SpecOk E spec_machine_isRegister := (Con.add_ok con_machine_within_ok noSpec_ok)
theorem good_machine_isRegister : ∀ pt r, run_machine_isRegister pt = some r → Good E Tryz.f122 code_machine_isRegister 0 (res_machine_isRegister.av r) (res_machine_isRegister.bx r) (place_machine_isRegister pt) (st_machine_isRegister pt) := by
  intro pt r hr
  cases pt <;> exact fn_step (spec := spec_machine_isRegister) (wr := (mkWr [] [])) (l := tab_machine_isRegister) (z := 5) (p := res_machine_isRegister) (run' := fun _ => none) E_ok tab_machine_isRegister_ok.mem rfl spec_machine_isRegister_ok (fun _ _ h => by cases h) (Eq.trans (by kernel_rfl) hr)
noncomputable def con_machine_isRegister : Con E := ⟨122, (Int × Unit), Unit, (RwL.cons (Rd.int .i64).w RwL.nil), RdBL.nil, 0, R_machine_isRegister, fun a b => run_machine_isRegister (.start a.1), res_machine_isRegister.av, res_machine_isRegister.bx⟩
theorem con_machine_isRegister_ok : con_machine_isRegister.Ok := fun a b r h => fn_ok (fn := Tryz.f122) (code := code_machine_isRegister) E_ok (by kernel_rfl) (by kernel_rfl) (by kernel_rfl) (Nat.le_of_ble_eq_true rfl) (good_machine_isRegister (.start a.1) r h)

/-! ### ratchet/machine.jumps -/
inductive P_machine_jumps where
 | start (op0 : Int)
noncomputable def place_machine_jumps : P_machine_jumps → List Bool
 | .start .. => []
noncomputable def st_machine_jumps : P_machine_jumps → St E.S
 | .start op0 => st0 9 [.v (.int .i64 op0)] []
abbrev R_machine_jumps : Type := ((Bool × Unit) × Unit)
noncomputable def res_machine_jumps : Res E (Bool × Unit) Unit := { rows := [], flat := [], keep := 0, done := [0], rl := (RdL.cons Rd.bool RdL.nil), rb := RdBL.nil }
noncomputable def run_machine_jumps : P_machine_jumps → Option R_machine_jumps
 | .start op0 =>
   if (op0 == (8 : Int)) = true then
     some ((true, ()), ())
   else
     some ((op0 == (9 : Int), ()), ())
noncomputable def tab_machine_jumps : List (Plc E P_machine_jumps) := []
theorem tab_machine_jumps_ok : All (PlcOk 9 0 place_machine_jumps st_machine_jumps) tab_machine_jumps := trivial
noncomputable def code_machine_jumps : Code := Tryz.f151.body.getD .skip
noncomputable def spec_machine_jumps : Spec E.S := noSpec
theorem spec_machine_jumps_ok : SpecOk E spec_machine_jumps := noSpec_ok
theorem good_machine_jumps : ∀ pt r, run_machine_jumps pt = some r → Good E Tryz.f151 code_machine_jumps 0 (res_machine_jumps.av r) (res_machine_jumps.bx r) (place_machine_jumps pt) (st_machine_jumps pt) := by
  intro pt r hr
  cases pt <;> exact fn_step (spec := spec_machine_jumps) (wr := (mkWr [] [])) (l := tab_machine_jumps) (z := 9) (p := res_machine_jumps) (run' := fun _ => none) E_ok tab_machine_jumps_ok.mem rfl spec_machine_jumps_ok (fun _ _ h => by cases h) (Eq.trans (by kernel_rfl) hr)
noncomputable def con_machine_jumps : Con E := ⟨151, (Int × Unit), Unit, (RwL.cons (Rd.int .i64).w RwL.nil), RdBL.nil, 0, R_machine_jumps, fun a b => run_machine_jumps (.start a.1), res_machine_jumps.av, res_machine_jumps.bx⟩
theorem con_machine_jumps_ok : con_machine_jumps.Ok := fun a b r h => fn_ok (fn := Tryz.f151) (code := code_machine_jumps) E_ok (by kernel_rfl) (by kernel_rfl) (by kernel_rfl) (Nat.le_of_ble_eq_true rfl) (good_machine_jumps (.start a.1) r h)

/-! ### ratchet/machine.isPlace -/
inductive P_machine_isPlace where
 | start (n0 : Int)
noncomputable def place_machine_isPlace : P_machine_isPlace → List Bool
 | .start .. => []
noncomputable def st_machine_isPlace : P_machine_isPlace → St E.S
 | .start n0 => st0 5 [.v (.int .i64 n0)] []
abbrev R_machine_isPlace : Type := ((Bool × Unit) × Unit)
noncomputable def res_machine_isPlace : Res E (Bool × Unit) Unit := { rows := [], flat := [], keep := 0, done := [0], rl := (RdL.cons Rd.bool RdL.nil), rb := RdBL.nil }
noncomputable def run_machine_isPlace : P_machine_isPlace → Option R_machine_isPlace
 | .start n0 =>
   (run_machine_within (.start n0 (0 : Int) (15 : Int))) >>= fun t1 =>
   some ((t1.1.1, ()), ())
noncomputable def tab_machine_isPlace : List (Plc E P_machine_isPlace) := []
theorem tab_machine_isPlace_ok : All (PlcOk 5 0 place_machine_isPlace st_machine_isPlace) tab_machine_isPlace := trivial
noncomputable def code_machine_isPlace : Code := Tryz.f123.body.getD .skip
noncomputable def spec_machine_isPlace : Spec E.S := (Con.add con_machine_within noSpec)
theorem spec_machine_isPlace_ok : SpecOk E spec_machine_isPlace := (Con.add_ok con_machine_within_ok noSpec_ok)
theorem good_machine_isPlace : ∀ pt r, run_machine_isPlace pt = some r → Good E Tryz.f123 code_machine_isPlace 0 (res_machine_isPlace.av r) (res_machine_isPlace.bx r) (place_machine_isPlace pt) (st_machine_isPlace pt) := by
  intro pt r hr
  cases pt <;> exact fn_step (spec := spec_machine_isPlace) (wr := (mkWr [] [])) (l := tab_machine_isPlace) (z := 5) (p := res_machine_isPlace) (run' := fun _ => none) E_ok tab_machine_isPlace_ok.mem rfl spec_machine_isPlace_ok (fun _ _ h => by cases h) (Eq.trans (by kernel_rfl) hr)
noncomputable def con_machine_isPlace : Con E := ⟨123, (Int × Unit), Unit, (RwL.cons (Rd.int .i64).w RwL.nil), RdBL.nil, 0, R_machine_isPlace, fun a b => run_machine_isPlace (.start a.1), res_machine_isPlace.av, res_machine_isPlace.bx⟩
theorem con_machine_isPlace_ok : con_machine_isPlace.Ok := fun a b r h => fn_ok (fn := Tryz.f123) (code := code_machine_isPlace) E_ok (by kernel_rfl) (by kernel_rfl) (by kernel_rfl) (Nat.le_of_ble_eq_true rfl) (good_machine_isPlace (.start a.1) r h)

/-! ### ratchet/machine.isByte -/
inductive P_machine_isByte where
 | start (n0 : Int)
noncomputable def place_machine_isByte : P_machine_isByte → List Bool
 | .start .. => []
noncomputable def st_machine_isByte : P_machine_isByte → St E.S
 | .start n0 => st0 5 [.v (.int .i64 n0)] []
abbrev R_machine_isByte : Type := ((Bool × Unit) × Unit)
noncomputable def res_machine_isByte : Res E (Bool × Unit) Unit := { rows := [], flat := [], keep := 0, done := [0], rl := (RdL.cons Rd.bool RdL.nil), rb := RdBL.nil }
noncomputable def run_machine_isByte : P_machine_isByte → Option R_machine_isByte
 | .start n0 =>
   (run_machine_within (.start n0 (0 : Int) (255 : Int))) >>= fun t1 =>
   some ((t1.1.1, ()), ())
noncomputable def tab_machine_isByte : List (Plc E P_machine_isByte) := []
theorem tab_machine_isByte_ok : All (PlcOk 5 0 place_machine_isByte st_machine_isByte) tab_machine_isByte := trivial
noncomputable def code_machine_isByte : Code := Tryz.f152.body.getD .skip
noncomputable def spec_machine_isByte : Spec E.S := (Con.add con_machine_within noSpec)
theorem spec_machine_isByte_ok : SpecOk E spec_machine_isByte := (Con.add_ok con_machine_within_ok noSpec_ok)
theorem good_machine_isByte : ∀ pt r, run_machine_isByte pt = some r → Good E Tryz.f152 code_machine_isByte 0 (res_machine_isByte.av r) (res_machine_isByte.bx r) (place_machine_isByte pt) (st_machine_isByte pt) := by
  intro pt r hr
  cases pt <;> exact fn_step (spec := spec_machine_isByte) (wr := (mkWr [] [])) (l := tab_machine_isByte) (z := 5) (p := res_machine_isByte) (run' := fun _ => none) E_ok tab_machine_isByte_ok.mem rfl spec_machine_isByte_ok (fun _ _ h => by cases h) (Eq.trans (by kernel_rfl) hr)
noncomputable def con_machine_isByte : Con E := ⟨152, (Int × Unit), Unit, (RwL.cons (Rd.int .i64).w RwL.nil), RdBL.nil, 0, R_machine_isByte, fun a b => run_machine_isByte (.start a.1), res_machine_isByte.av, res_machine_isByte.bx⟩
theorem con_machine_isByte_ok : con_machine_isByte.Ok := fun a b r h => fn_ok (fn := Tryz.f152) (code := code_machine_isByte) E_ok (by kernel_rfl) (by kernel_rfl) (by kernel_rfl) (Nat.le_of_ble_eq_true rfl) (good_machine_isByte (.start a.1) r h)

/-! ### ratchet/machine.isNumber -/
inductive P_machine_isNumber where
 | start (op0 : Int) (n1 : Int)
noncomputable def place_machine_isNumber : P_machine_isNumber → List Bool
 | .start .. => []
noncomputable def st_machine_isNumber : P_machine_isNumber → St E.S
 | .start op0 n1 => st0 11 [.v (.int .i64 op0), .v (.int .i64 n1)] []
abbrev R_machine_isNumber : Type := ((Bool × Unit) × Unit)
noncomputable def res_machine_isNumber : Res E (Bool × Unit) Unit := { rows := [], flat := [], keep := 0, done := [0], rl := (RdL.cons Rd.bool RdL.nil), rb := RdBL.nil }
noncomputable def run_machine_isNumber : P_machine_isNumber → Option R_machine_isNumber
 | .start op0 n1 =>
   (run_machine_jumps (.start op0)) >>= fun t1 =>
   if t1.1.1 = true then
     (run_machine_isPlace (.start n1)) >>= fun t2 =>
     some ((t2.1.1, ()), ())
   else
     (run_machine_isByte (.start n1)) >>= fun t3 =>
     some ((t3.1.1, ()), ())
noncomputable def tab_machine_isNumber : List (Plc E P_machine_isNumber) := []
theorem tab_machine_isNumber_ok : All (PlcOk 11 0 place_machine_isNumber st_machine_isNumber) tab_machine_isNumber := trivial
noncomputable def code_machine_isNumber : Code := Tryz.f101.body.getD .skip
noncomputable def spec_machine_isNumber : Spec E.S := (Con.add con_machine_isByte (Con.add con_machine_isPlace (Con.add con_machine_jumps noSpec)))
theorem spec_machine_isNumber_ok : SpecOk E spec_machine_isNumber := (Con.add_ok con_machine_isByte_ok (Con.add_ok con_machine_isPlace_ok (Con.add_ok con_machine_jumps_ok noSpec_ok)))
theorem good_machine_isNumber : ∀ pt r, run_machine_isNumber pt = some r → Good E Tryz.f101 code_machine_isNumber 0 (res_machine_isNumber.av r) (res_machine_isNumber.bx r) (place_machine_isNumber pt) (st_machine_isNumber pt) := by
  intro pt r hr
  cases pt <;> exact fn_step (spec := spec_machine_isNumber) (wr := (mkWr [] [])) (l := tab_machine_isNumber) (z := 11) (p := res_machine_isNumber) (run' := fun _ => none) E_ok tab_machine_isNumber_ok.mem rfl spec_machine_isNumber_ok (fun _ _ h => by cases h) (Eq.trans (by kernel_rfl) hr)
noncomputable def con_machine_isNumber : Con E := ⟨101, (Int × (Int × Unit)), Unit, (RwL.cons (Rd.int .i64).w (RwL.cons (Rd.int .i64).w RwL.nil)), RdBL.nil, 0, R_machine_isNumber, fun a b => run_machine_isNumber (.start a.1 a.2.1), res_machine_isNumber.av, res_machine_isNumber.bx⟩
theorem con_machine_isNumber_ok : con_machine_isNumber.Ok := fun a b r h => fn_ok (fn := Tryz.f101) (code := code_machine_isNumber) E_ok (by kernel_rfl) (by kernel_rfl) (by kernel_rfl) (Nat.le_of_ble_eq_true rfl) (good_machine_isNumber (.start a.1 a.2.1) r h)

/-! ### ratchet/machine.unless -/
inductive P_machine_unless where
 | start (right0 : Bool) (e1 : Int)
noncomputable def place_machine_unless : P_machine_unless → List Bool
 | .start .. => []
noncomputable def st_machine_unless : P_machine_unless → St E.S
 | .start right0 e1 => st0 7 [.v (.bool right0), .v (.int .i64 e1)] []
abbrev R_machine_unless : Type := ((Int × Unit) × Unit)
noncomputable def res_machine_unless : Res E (Int × Unit) Unit := { rows := [], flat := [], keep := 0, done := [0], rl := (RdL.cons (Rd.int .i64) RdL.nil), rb := RdBL.nil }
noncomputable def run_machine_unless : P_machine_unless → Option R_machine_unless
 | .start right0 e1 =>
   if right0 = true then
     some (((0 : Int), ()), ())
   else
     some ((e1, ()), ())
noncomputable def tab_machine_unless : List (Plc E P_machine_unless) := []
theorem tab_machine_unless_ok : All (PlcOk 7 0 place_machine_unless st_machine_unless) tab_machine_unless := trivial
noncomputable def code_machine_unless : Code := Tryz.f99.body.getD .skip
noncomputable def spec_machine_unless : Spec E.S := noSpec
theorem spec_machine_unless_ok : SpecOk E spec_machine_unless := noSpec_ok
theorem good_machine_unless : ∀ pt r, run_machine_unless pt = some r → Good E Tryz.f99 code_machine_unless 0 (res_machine_unless.av r) (res_machine_unless.bx r) (place_machine_unless pt) (st_machine_unless pt) := by
  intro pt r hr
  cases pt <;> exact fn_step (spec := spec_machine_unless) (wr := (mkWr [] [])) (l := tab_machine_unless) (z := 7) (p := res_machine_unless) (run' := fun _ => none) E_ok tab_machine_unless_ok.mem rfl spec_machine_unless_ok (fun _ _ h => by cases h) (Eq.trans (by kernel_rfl) hr)
noncomputable def con_machine_unless : Con E := ⟨99, (Bool × (Int × Unit)), Unit, (RwL.cons Rd.bool.w (RwL.cons (Rd.int .i64).w RwL.nil)), RdBL.nil, 0, R_machine_unless, fun a b => run_machine_unless (.start a.1 a.2.1), res_machine_unless.av, res_machine_unless.bx⟩
theorem con_machine_unless_ok : con_machine_unless.Ok := fun a b r h => fn_ok (fn := Tryz.f99) (code := code_machine_unless) E_ok (by kernel_rfl) (by kernel_rfl) (by kernel_rfl) (Nat.le_of_ble_eq_true rfl) (good_machine_unless (.start a.1 a.2.1) r h)

/-! ### ratchet/machine.first -/
inductive P_machine_first where
 | start (l0 : (List Int))
 | p52 (s5 : (List Int)) (s6 : Int) (s7 : Int)
noncomputable def place_machine_first : P_machine_first → List Bool
 | .start .. => []
 | .p52 .. => [false, false, true, false, true]
noncomputable def st_machine_first : P_machine_first → St E.S
 | .start l0 => st0 15 [.sl 28 l0 false] []
 | .p52 s5 s6 s7 => mkSt 15 [5, 6, 7] [.sl 28 s5 false, .v (.int .i64 s6), .v (.int .i64 s7)] []
abbrev R_machine_first : Type := ((Int × Unit) × Unit)
noncomputable def res_machine_first : Res E (Int × Unit) Unit := { rows := [], flat := [], keep := 0, done := [0], rl := (RdL.cons (Rd.int .i64) RdL.nil), rb := RdBL.nil }
noncomputable def run_machine_first : P_machine_first → Option R_machine_first
 | .start l0 =>
   run_machine_first (.p52 l0 (List.length l0 : Int) (0 : Int))
 | .p52 s5 s6 s7 =>
   if (decide (s7 < s6)) = true then
     (idx s5 s7) >>= fun t1 =>
     if (t1 != (0 : Int)) = true then
       some ((t1, ()), ())
     else
       run_machine_first (.p52 s5 s6 (IntKind.wrap .i64 (s7 + (1 : Int))))
   else
     some (((0 : Int), ()), ())
  partial_fixpoint
noncomputable def tab_machine_first : List (Plc E P_machine_first) := [⟨52, [false, false, true, false, true], { slots := [5, 6, 7], rows := [], flat := [], keep := 0 }, ((List Int) × (Int × (Int × Unit))), Unit, (RdL.cons (Rd.sl 28 false) (RdL.cons (Rd.int .i64) (RdL.cons (Rd.int .i64) RdL.nil))), RdBL.nil, fun a b => .p52 a.1 a.2.1 a.2.2.1⟩]
theorem tab_machine_first_ok : All (PlcOk 15 0 place_machine_first st_machine_first) tab_machine_first := ⟨⟨rfl, rfl, fun _ _ => rfl, fun _ _ => rfl⟩, trivial⟩
noncomputable def code_machine_first : Code := Tryz.f65.body.getD .skip
noncomputable def spec_machine_first : Spec E.S := noSpec
theorem spec_machine_first_ok : SpecOk E spec_machine_first := noSpec_ok
theorem good_machine_first : ∀ pt r, run_machine_first pt = some r → Good E Tryz.f65 code_machine_first 0 (res_machine_first.av r) (res_machine_first.bx r) (place_machine_first pt) (st_machine_first pt) := by
  refine run_machine_first.partial_correctness (fun pt r => Good E Tryz.f65 code_machine_first 0 (res_machine_first.av r) (res_machine_first.bx r) (place_machine_first pt) (st_machine_first pt)) ?_
  intro run' ih pt r hr
  cases pt <;> exact fn_step (spec := spec_machine_first) (wr := (mkWr [] [])) (l := tab_machine_first) (z := 15) (p := res_machine_first) E_ok tab_machine_first_ok.mem rfl spec_machine_first_ok ih (Eq.trans (by kernel_rfl) hr)
noncomputable def con_machine_first : Con E := ⟨65, ((List Int) × Unit), Unit, (RwL.cons (Rw.sl 28) RwL.nil), RdBL.nil, 0, R_machine_first, fun a b => run_machine_first (.start a.1), res_machine_first.av, res_machine_first.bx⟩
theorem con_machine_first_ok : con_machine_first.Ok := fun a b r h => fn_ok (fn := Tryz.f65) (code := code_machine_first) E_ok (by kernel_rfl) (by kernel_rfl) (by kernel_rfl) (Nat.le_of_ble_eq_true rfl) (good_machine_first (.start a.1) r h)

/-! ### ratchet/machine.codeErr -/
inductive P_machine_codeErr where
 | start (s0 : Int) (c1_0 : Int) (c1_1 : Int) (c1_2 : Int) (c1_3 : Int)
 | p31 (strange6 : Bool) (B0_0 : Int) (B0_1 : Int) (B0_2 : Int) (B0_3 : Int)
noncomputable def place_machine_codeErr : P_machine_codeErr → List Bool
 | .start .. => []
 | .p31 .. => [true, true, true, true]
noncomputable def st_machine_codeErr : P_machine_codeErr → St E.S
 | .start s0 c1_0 c1_1 c1_2 c1_3 => st0 64 [.v (.int .i64 s0), .agg [.v (.int .i64 c1_0), .v (.int .i64 c1_1), .v (.int .i64 c1_2), .v (.int .i64 c1_3)]] []
 | .p31 strange6 B0_0 B0_1 B0_2 B0_3 => mkSt 64 [3, 6] [.bp 0 0, .v (.bool strange6)] [.var 40 [.v (.int .i64 B0_0), .v (.int .i64 B0_1), .v (.int .i64 B0_2), .v (.int .i64 B0_3)]]
abbrev R_machine_codeErr : Type := ((Int × Unit) × Unit)
noncomputable def res_machine_codeErr : Res E (Int × Unit) Unit := { rows := [], flat := [], keep := 0, done := [0], rl := (RdL.cons (Rd.int .i64) RdL.nil), rb := RdBL.nil }
noncomputable def run_machine_codeErr : P_machine_codeErr → Option R_machine_codeErr
 | .start s0 c1_0 c1_1 c1_2 c1_3 =>
   (run_machine_within (.start c1_0 (0 : Int) (9 : Int))) >>= fun t1 =>
   if (!t1.1.1) = true then
     some (((15 : Int), ()), ())
   else
     (idx glob0 c1_0) >>= fun t2 =>
     if (!t2.a) = true then
       if (c1_1 != (0 : Int)) = true then
         run_machine_codeErr (.p31 true c1_0 c1_1 c1_2 c1_3)
       else
         if (!t2.b) = true then
           if (c1_2 != (0 : Int)) = true then
             run_machine_codeErr (.p31 true c1_0 c1_1 c1_2 c1_3)
           else
             if (!t2.n) = true then
               run_machine_codeErr (.p31 (c1_3 != (0 : Int)) c1_0 c1_1 c1_2 c1_3)
             else
               run_machine_codeErr (.p31 false c1_0 c1_1 c1_2 c1_3)
         else
           if (!t2.n) = true then
             run_machine_codeErr (.p31 (c1_3 != (0 : Int)) c1_0 c1_1 c1_2 c1_3)
           else
             run_machine_codeErr (.p31 false c1_0 c1_1 c1_2 c1_3)
     else
       if (!t2.b) = true then
         if (c1_2 != (0 : Int)) = true then
           run_machine_codeErr (.p31 true c1_0 c1_1 c1_2 c1_3)
         else
           if (!t2.n) = true then
             run_machine_codeErr (.p31 (c1_3 != (0 : Int)) c1_0 c1_1 c1_2 c1_3)
           else
             run_machine_codeErr (.p31 false c1_0 c1_1 c1_2 c1_3)
       else
         if (!t2.n) = true then
           run_machine_codeErr (.p31 (c1_3 != (0 : Int)) c1_0 c1_1 c1_2 c1_3)
         else
           run_machine_codeErr (.p31 false c1_0 c1_1 c1_2 c1_3)
 | .p31 strange6 B0_0 B0_1 B0_2 B0_3 =>
   (run_machine_isRegister (.start B0_1)) >>= fun t1 =>
   if t1.1.1 = true then
     (run_machine_isRegister (.start B0_2)) >>= fun t2 =>
     if t2.1.1 = true then
       (run_machine_isNumber (.start B0_0 B0_3)) >>= fun t3 =>
       (run_machine_unless (.start t3.1.1 (2 : Int))) >>= fun t4 =>
       (run_machine_unless (.start (!strange6) (3 : Int))) >>= fun t5 =>
       (run_machine_first (.start ([t4.1.1, t5.1.1] : List Int))) >>= fun t6 =>
       some ((t6.1.1, ()), ())
     else
       (run_machine_unless (.start false (2 : Int))) >>= fun t7 =>
       (run_machine_unless (.start (!strange6) (3 : Int))) >>= fun t8 =>
       (run_machine_first (.start ([t7.1.1, t8.1.1] : List Int))) >>= fun t9 =>
       some ((t9.1.1, ()), ())
   else
     (run_machine_unless (.start false (2 : Int))) >>= fun t10 =>
     (run_machine_unless (.start (!strange6) (3 : Int))) >>= fun t11 =>
     (run_machine_first (.start ([t10.1.1, t11.1.1] : List Int))) >>= fun t12 =>
     some ((t12.1.1, ()), ())
  partial_fixpoint
noncomputable def tab_machine_codeErr : List (Plc E P_machine_codeErr) := [⟨31, [true, true, true, true], { slots := [3, 6], rows := [], flat := [], keep := 0 }, (Unit × (Bool × Unit)), ((Int × (Int × (Int × (Int × Unit)))) × Unit), (RdL.cons (Rd.bp 0 0) (RdL.cons Rd.bool RdL.nil)), (RdBL.cons (RdB.var 40 (RdL.cons (Rd.int .i64) (RdL.cons (Rd.int .i64) (RdL.cons (Rd.int .i64) (RdL.cons (Rd.int .i64) RdL.nil))))) RdBL.nil), fun a b => .p31 a.2.1 b.1.1 b.1.2.1 b.1.2.2.1 b.1.2.2.2.1⟩]
theorem tab_machine_codeErr_ok : All (PlcOk 64 0 place_machine_codeErr st_machine_codeErr) tab_machine_codeErr := ⟨⟨rfl, rfl, fun _ _ => rfl, fun _ _ => rfl⟩, trivial⟩
noncomputable def code_machine_codeErr : Code := Tryz.f73.body.getD .skip
noncomputable def spec_machine_codeErr : Spec E.S := (Con.add con_machine_first (Con.add con_machine_unless (Con.add con_machine_isNumber (Con.add con_machine_isRegister (Con.add con_machine_within noSpec)))))
theorem spec_machine_codeErr_ok : SpecOk E spec_machine_codeErr := (Con.add_ok con_machine_first_ok (Con.add_ok con_machine_unless_ok (Con.add_ok con_machine_isNumber_ok (Con.add_ok con_machine_isRegister_ok (Con.add_ok con_machine_within_ok noSpec_ok)))))
theorem good_machine_codeErr : ∀ pt r, run_machine_codeErr pt = some r → Good E Tryz.f73 code_machine_codeErr 0 (res_machine_codeErr.av r) (res_machine_codeErr.bx r) (place_machine_codeErr pt) (st_machine_codeErr pt) := by
  refine run_machine_codeErr.partial_correctness (fun pt r => Good E Tryz.f73 code_machine_codeErr 0 (res_machine_codeErr.av r) (res_machine_codeErr.bx r) (place_machine_codeErr pt) (st_machine_codeErr pt)) ?_
  intro run' ih pt r hr
  cases pt <;> exact fn_step (spec := spec_machine_codeErr) (wr := (mkWr [] [])) (l := tab_machine_codeErr) (z := 64) (p := res_machine_codeErr) E_ok tab_machine_codeErr_ok.mem rfl spec_machine_codeErr_ok ih (Eq.trans (by kernel_rfl) hr)
noncomputable def con_machine_codeErr : Con E := ⟨73, (Int × ((Int × (Int × (Int × (Int × Unit)))) × Unit)), Unit, (RwL.cons (Rd.int .i64).w (RwL.cons (Rw.agg (RwL.cons (Rd.int .i64).w (RwL.cons (Rd.int .i64).w (RwL.cons (Rd.int .i64).w (RwL.cons (Rd.int .i64).w RwL.nil))))) RwL.nil)), RdBL.nil, 0, R_machine_codeErr, fun a b => run_machine_codeErr (.start a.1 a.2.1.1 a.2.1.2.1 a.2.1.2.2.1 a.2.1.2.2.2.1), res_machine_codeErr.av, res_machine_codeErr.bx⟩
theorem con_machine_codeErr_ok : con_machine_codeErr.Ok := fun a b r h => fn_ok (fn := Tryz.f73) (code := code_machine_codeErr) E_ok (by kernel_rfl) (by kernel_rfl) (by kernel_rfl) (Nat.le_of_ble_eq_true rfl) (good_machine_codeErr (.start a.1 a.2.1.1 a.2.1.2.1 a.2.1.2.2.1 a.2.1.2.2.2.1) r h)

/-! ### ratchet/machine.each[ratchet/api.MachineCode] -/
inductive P_machine_each_api_MachineCode where
 | start (l0 : (List api_MachineCode))
 | p52 (s9 : (List api_MachineCode)) (s10 : Int) (s11 : Int)
noncomputable def place_machine_each_api_MachineCode : P_machine_each_api_MachineCode → List Bool
 | .start .. => []
 | .p52 .. => [false, false, true, false, true]
noncomputable def st_machine_each_api_MachineCode : P_machine_each_api_MachineCode → St E.S
 | .start l0 => st0 25 [.sl 40 l0 false, .fn 73 []] []
 | .p52 s9 s10 s11 => mkSt 25 [1, 9, 10, 11] [.fn 73 [], .sl 40 s9 false, .v (.int .i64 s10), .v (.int .i64 s11)] []
abbrev R_machine_each_api_MachineCode : Type := ((Int × (Int × Unit)) × Unit)
noncomputable def res_machine_each_api_MachineCode : Res E (Int × (Int × Unit)) Unit := { rows := [], flat := [], keep := 0, done := [0, 1], rl := (RdL.cons (Rd.int .i64) (RdL.cons (Rd.int .i64) RdL.nil)), rb := RdBL.nil }
noncomputable def run_machine_each_api_MachineCode : P_machine_each_api_MachineCode → Option R_machine_each_api_MachineCode
 | .start l0 =>
   run_machine_each_api_MachineCode (.p52 l0 (List.length l0 : Int) (0 : Int))
 | .p52 s9 s10 s11 =>
   if (decide (s11 < s10)) = true then
     (idx s9 s11) >>= fun t1 =>
     (run_machine_codeErr (.start s11 t1.Op t1.A t1.B t1.N)) >>= fun t2 =>
     if (t2.1.1 != (0 : Int)) = true then
       some ((s11, (t2.1.1, ())), ())
     else
       run_machine_each_api_MachineCode (.p52 s9 s10 (IntKind.wrap .i64 (s11 + (1 : Int))))
   else
     some (((0 : Int), ((0 : Int), ())), ())
  partial_fixpoint
noncomputable def tab_machine_each_api_MachineCode : List (Plc E P_machine_each_api_MachineCode) := [⟨52, [false, false, true, false, true], { slots := [1, 9, 10, 11], rows := [], flat := [], keep := 0 }, (Unit × ((List api_MachineCode) × (Int × (Int × Unit)))), Unit, (RdL.cons (Rd.fn 73 RdL.nil) (RdL.cons (Rd.sl 40 false) (RdL.cons (Rd.int .i64) (RdL.cons (Rd.int .i64) RdL.nil)))), RdBL.nil, fun a b => .p52 a.2.1 a.2.2.1 a.2.2.2.1⟩]
theorem tab_machine_each_api_MachineCode_ok : All (PlcOk 25 0 place_machine_each_api_MachineCode st_machine_each_api_MachineCode) tab_machine_each_api_MachineCode := ⟨⟨rfl, rfl, fun _ _ => rfl, fun _ _ => rfl⟩, trivial⟩
noncomputable def code_machine_each_api_MachineCode : Code := Tryz.f72.body.getD .skip
noncomputable def spec_machine_each_api_MachineCode : Spec E.S := (Con.add con_machine_codeErr noSpec)
theorem spec_machine_each_api_MachineCode_ok : SpecOk E spec_machine_each_api_MachineCode := (Con.add_ok con_machine_codeErr_ok noSpec_ok)
theorem good_machine_each_api_MachineCode : ∀ pt r, run_machine_each_api_MachineCode pt = some r → Good E Tryz.f72 code_machine_each_api_MachineCode 0 (res_machine_each_api_MachineCode.av r) (res_machine_each_api_MachineCode.bx r) (place_machine_each_api_MachineCode pt) (st_machine_each_api_MachineCode pt) := by
  refine run_machine_each_api_MachineCode.partial_correctness (fun pt r => Good E Tryz.f72 code_machine_each_api_MachineCode 0 (res_machine_each_api_MachineCode.av r) (res_machine_each_api_MachineCode.bx r) (place_machine_each_api_MachineCode pt) (st_machine_each_api_MachineCode pt)) ?_
  intro run' ih pt r hr
  cases pt <;> exact fn_step (spec := spec_machine_each_api_MachineCode) (wr := (mkWr [] [])) (l := tab_machine_each_api_MachineCode) (z := 25) (p := res_machine_each_api_MachineCode) E_ok tab_machine_each_api_MachineCode_ok.mem rfl spec_machine_each_api_MachineCode_ok ih (Eq.trans (by kernel_rfl) hr)
noncomputable def con_machine_each_api_MachineCode : Con E := ⟨72, ((List api_MachineCode) × (Unit × Unit)), Unit, (RwL.cons (Rw.sl 40) (RwL.cons (Rd.fn 73 RdL.nil).w RwL.nil)), RdBL.nil, 0, R_machine_each_api_MachineCode, fun a b => run_machine_each_api_MachineCode (.start a.1), res_machine_each_api_MachineCode.av, res_machine_each_api_MachineCode.bx⟩
theorem con_machine_each_api_MachineCode_ok : con_machine_each_api_MachineCode.Ok := fun a b r h => fn_ok (fn := Tryz.f72) (code := code_machine_each_api_MachineCode) E_ok (by kernel_rfl) (by kernel_rfl) (by kernel_rfl) (Nat.le_of_ble_eq_true rfl) (good_machine_each_api_MachineCode (.start a.1) r h)

/-! ### ratchet/machine.CheckProgram -/
inductive P_machine_CheckProgram where
 | start (l0 : (List api_MachineCode))
noncomputable def place_machine_CheckProgram : P_machine_CheckProgram → List Bool
 | .start .. => []
noncomputable def st_machine_CheckProgram : P_machine_CheckProgram → St E.S
 | .start l0 => st0 11 [.sl 40 l0 false] []
abbrev R_machine_CheckProgram : Type := ((Int × (Int × Unit)) × Unit)
noncomputable def res_machine_CheckProgram : Res E (Int × (Int × Unit)) Unit := { rows := [], flat := [], keep := 0, done := [0, 1], rl := (RdL.cons (Rd.int .i64) (RdL.cons (Rd.int .i64) RdL.nil)), rb := RdBL.nil }
noncomputable def run_machine_CheckProgram : P_machine_CheckProgram → Option R_machine_CheckProgram
 | .start l0 =>
   if (decide ((List.length l0 : Int) > (16 : Int))) = true then
     some (((0 : Int), ((8 : Int), ())), ())
   else
     (run_machine_each_api_MachineCode (.start l0)) >>= fun t1 =>
     some ((t1.1.1, (t1.1.2.1, ())), ())
noncomputable def tab_machine_CheckProgram : List (Plc E P_machine_CheckProgram) := []
theorem tab_machine_CheckProgram_ok : All (PlcOk 11 0 place_machine_CheckProgram st_machine_CheckProgram) tab_machine_CheckProgram := trivial
noncomputable def code_machine_CheckProgram : Code := Tryz.f20.body.getD .skip
noncomputable def spec_machine_CheckProgram : Spec E.S := (Con.add con_machine_each_api_MachineCode noSpec)
theorem spec_machine_CheckProgram_ok : SpecOk E spec_machine_CheckProgram := (Con.add_ok con_machine_each_api_MachineCode_ok noSpec_ok)
theorem good_machine_CheckProgram : ∀ pt r, run_machine_CheckProgram pt = some r → Good E Tryz.f20 code_machine_CheckProgram 0 (res_machine_CheckProgram.av r) (res_machine_CheckProgram.bx r) (place_machine_CheckProgram pt) (st_machine_CheckProgram pt) := by
  intro pt r hr
  cases pt <;> exact fn_step (spec := spec_machine_CheckProgram) (wr := (mkWr [] [])) (l := tab_machine_CheckProgram) (z := 11) (p := res_machine_CheckProgram) (run' := fun _ => none) E_ok tab_machine_CheckProgram_ok.mem rfl spec_machine_CheckProgram_ok (fun _ _ h => by cases h) (Eq.trans (by kernel_rfl) hr)
noncomputable def con_machine_CheckProgram : Con E := ⟨20, ((List api_MachineCode) × Unit), Unit, (RwL.cons (Rw.sl 40) RwL.nil), RdBL.nil, 0, R_machine_CheckProgram, fun a b => run_machine_CheckProgram (.start a.1), res_machine_CheckProgram.av, res_machine_CheckProgram.bx⟩
theorem con_machine_CheckProgram_ok : con_machine_CheckProgram.Ok := fun a b r h => fn_ok (fn := Tryz.f20) (code := code_machine_CheckProgram) E_ok (by kernel_rfl) (by kernel_rfl) (by kernel_rfl) (Nat.le_of_ble_eq_true rfl) (good_machine_CheckProgram (.start a.1) r h)

/-! ### ratchet/machine.programErr -/
inductive P_machine_programErr where
 | start (l0 : (List api_MachineCode))
noncomputable def place_machine_programErr : P_machine_programErr → List Bool
 | .start .. => []
noncomputable def st_machine_programErr : P_machine_programErr → St E.S
 | .start l0 => st0 11 [.sl 40 l0 false] []
abbrev R_machine_programErr : Type := ((Int × Unit) × Unit)
noncomputable def res_machine_programErr : Res E (Int × Unit) Unit := { rows := [], flat := [], keep := 0, done := [0], rl := (RdL.cons (Rd.int .i64) RdL.nil), rb := RdBL.nil }
noncomputable def run_machine_programErr : P_machine_programErr → Option R_machine_programErr
 | .start l0 =>
   (run_machine_CheckProgram (.start l0)) >>= fun t1 =>
   some ((t1.1.2.1, ()), ())
noncomputable def tab_machine_programErr : List (Plc E P_machine_programErr) := []
theorem tab_machine_programErr_ok : All (PlcOk 11 0 place_machine_programErr st_machine_programErr) tab_machine_programErr := trivial
noncomputable def code_machine_programErr : Code := Tryz.f66.body.getD .skip
noncomputable def spec_machine_programErr : Spec E.S := (Con.add con_machine_CheckProgram noSpec)
theorem spec_machine_programErr_ok : SpecOk E spec_machine_programErr := (Con.add_ok con_machine_CheckProgram_ok noSpec_ok)
theorem good_machine_programErr : ∀ pt r, run_machine_programErr pt = some r → Good E Tryz.f66 code_machine_programErr 0 (res_machine_programErr.av r) (res_machine_programErr.bx r) (place_machine_programErr pt) (st_machine_programErr pt) := by
  intro pt r hr
  cases pt <;> exact fn_step (spec := spec_machine_programErr) (wr := (mkWr [] [])) (l := tab_machine_programErr) (z := 11) (p := res_machine_programErr) (run' := fun _ => none) E_ok tab_machine_programErr_ok.mem rfl spec_machine_programErr_ok (fun _ _ h => by cases h) (Eq.trans (by kernel_rfl) hr)
noncomputable def con_machine_programErr : Con E := ⟨66, ((List api_MachineCode) × Unit), Unit, (RwL.cons (Rw.sl 40) RwL.nil), RdBL.nil, 0, R_machine_programErr, fun a b => run_machine_programErr (.start a.1), res_machine_programErr.av, res_machine_programErr.bx⟩
theorem con_machine_programErr_ok : con_machine_programErr.Ok := fun a b r h => fn_ok (fn := Tryz.f66) (code := code_machine_programErr) E_ok (by kernel_rfl) (by kernel_rfl) (by kernel_rfl) (Nat.le_of_ble_eq_true rfl) (good_machine_programErr (.start a.1) r h)

/-! ### ratchet/machine.bytesErr$1 -/
inductive P_machine_bytesErr_1 where
 | start (n0 : Int)
noncomputable def place_machine_bytesErr_1 : P_machine_bytesErr_1 → List Bool
 | .start .. => []
noncomputable def st_machine_bytesErr_1 : P_machine_bytesErr_1 → St E.S
 | .start n0 => st0 6 [.v (.int .i64 n0)] []
abbrev R_machine_bytesErr_1 : Type := ((Bool × Unit) × Unit)
noncomputable def res_machine_bytesErr_1 : Res E (Bool × Unit) Unit := { rows := [], flat := [], keep := 0, done := [0], rl := (RdL.cons Rd.bool RdL.nil), rb := RdBL.nil }
noncomputable def run_machine_bytesErr_1 : P_machine_bytesErr_1 → Option R_machine_bytesErr_1
 | .start n0 =>
   (run_machine_isByte (.start n0)) >>= fun t1 =>
   some ((!t1.1.1, ()), ())
noncomputable def tab_machine_bytesErr_1 : List (Plc E P_machine_bytesErr_1) := []
theorem tab_machine_bytesErr_1_ok : All (PlcOk 6 0 place_machine_bytesErr_1 st_machine_bytesErr_1) tab_machine_bytesErr_1 := trivial
noncomputable def code_machine_bytesErr_1 : Code := Tryz.f170.body.getD .skip
noncomputable def spec_machine_bytesErr_1 : Spec E.S := (Con.add con_machine_isByte noSpec)
theorem spec_machine_bytesErr_1_ok : SpecOk E spec_machine_bytesErr_1 := (Con.add_ok con_machine_isByte_ok noSpec_ok)
theorem good_machine_bytesErr_1 : ∀ pt r, run_machine_bytesErr_1 pt = some r → Good E Tryz.f170 code_machine_bytesErr_1 0 (res_machine_bytesErr_1.av r) (res_machine_bytesErr_1.bx r) (place_machine_bytesErr_1 pt) (st_machine_bytesErr_1 pt) := by
  intro pt r hr
  cases pt <;> exact fn_step (spec := spec_machine_bytesErr_1) (wr := (mkWr [] [])) (l := tab_machine_bytesErr_1) (z := 6) (p := res_machine_bytesErr_1) (run' := fun _ => none) E_ok tab_machine_bytesErr_1_ok.mem rfl spec_machine_bytesErr_1_ok (fun _ _ h => by cases h) (Eq.trans (by kernel_rfl) hr)
noncomputable def con_machine_bytesErr_1 : Con E := ⟨170, (Int × Unit), Unit, (RwL.cons (Rd.int .i64).w RwL.nil), RdBL.nil, 0, R_machine_bytesErr_1, fun a b => run_machine_bytesErr_1 (.start a.1), res_machine_bytesErr_1.av, res_machine_bytesErr_1.bx⟩
theorem con_machine_bytesErr_1_ok : con_machine_bytesErr_1.Ok := fun a b r h => fn_ok (fn := Tryz.f170) (code := code_machine_bytesErr_1) E_ok (by kernel_rfl) (by kernel_rfl) (by kernel_rfl) (Nat.le_of_ble_eq_true rfl) (good_machine_bytesErr_1 (.start a.1) r h)

/-! ### slices.IndexFunc[[]int,int] -/
inductive P_slices_IndexFunc_int_int where
 | start (s0 : (List Int))
 | p52 (s0 : (List Int)) (s7 : Int) (s8 : Int)
noncomputable def place_slices_IndexFunc_int_int : P_slices_IndexFunc_int_int → List Bool
 | .start .. => []
 | .p52 .. => [false, false, true, false, true]
noncomputable def st_slices_IndexFunc_int_int : P_slices_IndexFunc_int_int → St E.S
 | .start s0 => st0 19 [.sl 3 s0 false, .fn 170 []] []
 | .p52 s0 s7 s8 => mkSt 19 [0, 1, 7, 8] [.sl 3 s0 false, .fn 170 [], .v (.int .i64 s7), .v (.int .i64 s8)] []
abbrev R_slices_IndexFunc_int_int : Type := ((Int × Unit) × Unit)
noncomputable def res_slices_IndexFunc_int_int : Res E (Int × Unit) Unit := { rows := [], flat := [], keep := 0, done := [0], rl := (RdL.cons (Rd.int .i64) RdL.nil), rb := RdBL.nil }
noncomputable def run_slices_IndexFunc_int_int : P_slices_IndexFunc_int_int → Option R_slices_IndexFunc_int_int
 | .start s0 =>
   run_slices_IndexFunc_int_int (.p52 s0 (List.length s0 : Int) (0 : Int))
 | .p52 s0 s7 s8 =>
   if (decide (s8 < s7)) = true then
     (idx s0 s8) >>= fun t1 =>
     (run_machine_bytesErr_1 (.start t1)) >>= fun t2 =>
     if t2.1.1 = true then
       some ((s8, ()), ())
     else
       run_slices_IndexFunc_int_int (.p52 s0 s7 (IntKind.wrap .i64 (s8 + (1 : Int))))
   else
     some (((-1 : Int), ()), ())
  partial_fixpoint
noncomputable def tab_slices_IndexFunc_int_int : List (Plc E P_slices_IndexFunc_int_int) := [⟨52, [false, false, true, false, true], { slots := [0, 1, 7, 8], rows := [], flat := [], keep := 0 }, ((List Int) × (Unit × (Int × (Int × Unit)))), Unit, (RdL.cons (Rd.sl 3 false) (RdL.cons (Rd.fn 170 RdL.nil) (RdL.cons (Rd.int .i64) (RdL.cons (Rd.int .i64) RdL.nil)))), RdBL.nil, fun a b => .p52 a.1 a.2.2.1 a.2.2.2.1⟩]
theorem tab_slices_IndexFunc_int_int_ok : All (PlcOk 19 0 place_slices_IndexFunc_int_int st_slices_IndexFunc_int_int) tab_slices_IndexFunc_int_int := ⟨⟨rfl, rfl, fun _ _ => rfl, fun _ _ => rfl⟩, trivial⟩
noncomputable def code_slices_IndexFunc_int_int : Code := Tryz.f187.body.getD .skip
noncomputable def spec_slices_IndexFunc_int_int : Spec E.S := (Con.add con_machine_bytesErr_1 noSpec)
theorem spec_slices_IndexFunc_int_int_ok : SpecOk E spec_slices_IndexFunc_int_int := (Con.add_ok con_machine_bytesErr_1_ok noSpec_ok)
theorem good_slices_IndexFunc_int_int : ∀ pt r, run_slices_IndexFunc_int_int pt = some r → Good E Tryz.f187 code_slices_IndexFunc_int_int 0 (res_slices_IndexFunc_int_int.av r) (res_slices_IndexFunc_int_int.bx r) (place_slices_IndexFunc_int_int pt) (st_slices_IndexFunc_int_int pt) := by
  refine run_slices_IndexFunc_int_int.partial_correctness (fun pt r => Good E Tryz.f187 code_slices_IndexFunc_int_int 0 (res_slices_IndexFunc_int_int.av r) (res_slices_IndexFunc_int_int.bx r) (place_slices_IndexFunc_int_int pt) (st_slices_IndexFunc_int_int pt)) ?_
  intro run' ih pt r hr
  cases pt <;> exact fn_step (spec := spec_slices_IndexFunc_int_int) (wr := (mkWr [] [])) (l := tab_slices_IndexFunc_int_int) (z := 19) (p := res_slices_IndexFunc_int_int) E_ok tab_slices_IndexFunc_int_int_ok.mem rfl spec_slices_IndexFunc_int_int_ok ih (Eq.trans (by kernel_rfl) hr)
noncomputable def con_slices_IndexFunc_int_int : Con E := ⟨187, ((List Int) × (Unit × Unit)), Unit, (RwL.cons (Rw.sl 3) (RwL.cons (Rd.fn 170 RdL.nil).w RwL.nil)), RdBL.nil, 0, R_slices_IndexFunc_int_int, fun a b => run_slices_IndexFunc_int_int (.start a.1), res_slices_IndexFunc_int_int.av, res_slices_IndexFunc_int_int.bx⟩
theorem con_slices_IndexFunc_int_int_ok : con_slices_IndexFunc_int_int.Ok := fun a b r h => fn_ok (fn := Tryz.f187) (code := code_slices_IndexFunc_int_int) E_ok (by kernel_rfl) (by kernel_rfl) (by kernel_rfl) (Nat.le_of_ble_eq_true rfl) (good_slices_IndexFunc_int_int (.start a.1) r h)

/-! ### slices.ContainsFunc[[]int,int] -/
inductive P_slices_ContainsFunc_int_int where
 | start (s0 : (List Int))
noncomputable def place_slices_ContainsFunc_int_int : P_slices_ContainsFunc_int_int → List Bool
 | .start .. => []
noncomputable def st_slices_ContainsFunc_int_int : P_slices_ContainsFunc_int_int → St E.S
 | .start s0 => st0 9 [.sl 3 s0 false, .fn 170 []] []
abbrev R_slices_ContainsFunc_int_int : Type := ((Bool × Unit) × Unit)
noncomputable def res_slices_ContainsFunc_int_int : Res E (Bool × Unit) Unit := { rows := [], flat := [], keep := 0, done := [0], rl := (RdL.cons Rd.bool RdL.nil), rb := RdBL.nil }
noncomputable def run_slices_ContainsFunc_int_int : P_slices_ContainsFunc_int_int → Option R_slices_ContainsFunc_int_int
 | .start s0 =>
   (run_slices_IndexFunc_int_int (.start s0)) >>= fun t1 =>
   some ((decide (t1.1.1 ≥ (0 : Int)), ()), ())
noncomputable def tab_slices_ContainsFunc_int_int : List (Plc E P_slices_ContainsFunc_int_int) := []
theorem tab_slices_ContainsFunc_int_int_ok : All (PlcOk 9 0 place_slices_ContainsFunc_int_int st_slices_ContainsFunc_int_int) tab_slices_ContainsFunc_int_int := trivial
noncomputable def code_slices_ContainsFunc_int_int : Code := Tryz.f169.body.getD .skip
noncomputable def spec_slices_ContainsFunc_int_int : Spec E.S := (Con.add con_slices_IndexFunc_int_int noSpec)
theorem spec_slices_ContainsFunc_int_int_ok : SpecOk E spec_slices_ContainsFunc_int_int := (Con.add_ok con_slices_IndexFunc_int_int_ok noSpec_ok)
theorem good_slices_ContainsFunc_int_int : ∀ pt r, run_slices_ContainsFunc_int_int pt = some r → Good E Tryz.f169 code_slices_ContainsFunc_int_int 0 (res_slices_ContainsFunc_int_int.av r) (res_slices_ContainsFunc_int_int.bx r) (place_slices_ContainsFunc_int_int pt) (st_slices_ContainsFunc_int_int pt) := by
  intro pt r hr
  cases pt <;> exact fn_step (spec := spec_slices_ContainsFunc_int_int) (wr := (mkWr [] [])) (l := tab_slices_ContainsFunc_int_int) (z := 9) (p := res_slices_ContainsFunc_int_int) (run' := fun _ => none) E_ok tab_slices_ContainsFunc_int_int_ok.mem rfl spec_slices_ContainsFunc_int_int_ok (fun _ _ h => by cases h) (Eq.trans (by kernel_rfl) hr)
noncomputable def con_slices_ContainsFunc_int_int : Con E := ⟨169, ((List Int) × (Unit × Unit)), Unit, (RwL.cons (Rw.sl 3) (RwL.cons (Rd.fn 170 RdL.nil).w RwL.nil)), RdBL.nil, 0, R_slices_ContainsFunc_int_int, fun a b => run_slices_ContainsFunc_int_int (.start a.1), res_slices_ContainsFunc_int_int.av, res_slices_ContainsFunc_int_int.bx⟩
theorem con_slices_ContainsFunc_int_int_ok : con_slices_ContainsFunc_int_int.Ok := fun a b r h => fn_ok (fn := Tryz.f169) (code := code_slices_ContainsFunc_int_int) E_ok (by kernel_rfl) (by kernel_rfl) (by kernel_rfl) (Nat.le_of_ble_eq_true rfl) (good_slices_ContainsFunc_int_int (.start a.1) r h)

/-! ### ratchet/machine.bytesErr -/
inductive P_machine_bytesErr where
 | start (l0 : (List Int)) (count1 : Int)
noncomputable def place_machine_bytesErr : P_machine_bytesErr → List Bool
 | .start .. => []
noncomputable def st_machine_bytesErr : P_machine_bytesErr → St E.S
 | .start l0 count1 => st0 18 [.sl 3 l0 false, .v (.int .i64 count1)] []
abbrev R_machine_bytesErr : Type := ((Int × Unit) × Unit)
noncomputable def res_machine_bytesErr : Res E (Int × Unit) Unit := { rows := [], flat := [], keep := 0, done := [0], rl := (RdL.cons (Rd.int .i64) RdL.nil), rb := RdBL.nil }
noncomputable def run_machine_bytesErr : P_machine_bytesErr → Option R_machine_bytesErr
 | .start l0 count1 =>
   (run_slices_ContainsFunc_int_int (.start l0)) >>= fun t1 =>
   (run_machine_unless (.start ((List.length l0 : Int) == count1) (10 : Int))) >>= fun t2 =>
   (run_machine_unless (.start (!t1.1.1) (2 : Int))) >>= fun t3 =>
   (run_machine_first (.start ([t2.1.1, t3.1.1] : List Int))) >>= fun t4 =>
   some ((t4.1.1, ()), ())
noncomputable def tab_machine_bytesErr : List (Plc E P_machine_bytesErr) := []
theorem tab_machine_bytesErr_ok : All (PlcOk 18 0 place_machine_bytesErr st_machine_bytesErr) tab_machine_bytesErr := trivial
noncomputable def code_machine_bytesErr : Code := Tryz.f120.body.getD .skip
noncomputable def spec_machine_bytesErr : Spec E.S := (Con.add con_machine_first (Con.add con_machine_unless (Con.add con_slices_ContainsFunc_int_int noSpec)))
theorem spec_machine_bytesErr_ok : SpecOk E spec_machine_bytesErr := (Con.add_ok con_machine_first_ok (Con.add_ok con_machine_unless_ok (Con.add_ok con_slices_ContainsFunc_int_int_ok noSpec_ok)))
theorem good_machine_bytesErr : ∀ pt r, run_machine_bytesErr pt = some r → Good E Tryz.f120 code_machine_bytesErr 0 (res_machine_bytesErr.av r) (res_machine_bytesErr.bx r) (place_machine_bytesErr pt) (st_machine_bytesErr pt) := by
  intro pt r hr
  cases pt <;> exact fn_step (spec := spec_machine_bytesErr) (wr := (mkWr [] [])) (l := tab_machine_bytesErr) (z := 18) (p := res_machine_bytesErr) (run' := fun _ => none) E_ok tab_machine_bytesErr_ok.mem rfl spec_machine_bytesErr_ok (fun _ _ h => by cases h) (Eq.trans (by kernel_rfl) hr)
noncomputable def con_machine_bytesErr : Con E := ⟨120, ((List Int) × (Int × Unit)), Unit, (RwL.cons (Rw.sl 3) (RwL.cons (Rd.int .i64).w RwL.nil)), RdBL.nil, 0, R_machine_bytesErr, fun a b => run_machine_bytesErr (.start a.1 a.2.1), res_machine_bytesErr.av, res_machine_bytesErr.bx⟩
theorem con_machine_bytesErr_ok : con_machine_bytesErr.Ok := fun a b r h => fn_ok (fn := Tryz.f120) (code := code_machine_bytesErr) E_ok (by kernel_rfl) (by kernel_rfl) (by kernel_rfl) (Nat.le_of_ble_eq_true rfl) (good_machine_bytesErr (.start a.1 a.2.1) r h)

/-! ### ratchet/machine.memoryErr -/
inductive P_machine_memoryErr where
 | start (l0 : (List Int))
noncomputable def place_machine_memoryErr : P_machine_memoryErr → List Bool
 | .start .. => []
noncomputable def st_machine_memoryErr : P_machine_memoryErr → St E.S
 | .start l0 => st0 5 [.sl 3 l0 false] []
abbrev R_machine_memoryErr : Type := ((Int × Unit) × Unit)
noncomputable def res_machine_memoryErr : Res E (Int × Unit) Unit := { rows := [], flat := [], keep := 0, done := [0], rl := (RdL.cons (Rd.int .i64) RdL.nil), rb := RdBL.nil }
noncomputable def run_machine_memoryErr : P_machine_memoryErr → Option R_machine_memoryErr
 | .start l0 =>
   (run_machine_bytesErr (.start l0 (8 : Int))) >>= fun t1 =>
   some ((t1.1.1, ()), ())
noncomputable def tab_machine_memoryErr : List (Plc E P_machine_memoryErr) := []
theorem tab_machine_memoryErr_ok : All (PlcOk 5 0 place_machine_memoryErr st_machine_memoryErr) tab_machine_memoryErr := trivial
noncomputable def code_machine_memoryErr : Code := Tryz.f67.body.getD .skip
noncomputable def spec_machine_memoryErr : Spec E.S := (Con.add con_machine_bytesErr noSpec)
theorem spec_machine_memoryErr_ok : SpecOk E spec_machine_memoryErr := (Con.add_ok con_machine_bytesErr_ok noSpec_ok)
theorem good_machine_memoryErr : ∀ pt r, run_machine_memoryErr pt = some r → Good E Tryz.f67 code_machine_memoryErr 0 (res_machine_memoryErr.av r) (res_machine_memoryErr.bx r) (place_machine_memoryErr pt) (st_machine_memoryErr pt) := by
  intro pt r hr
  cases pt <;> exact fn_step (spec := spec_machine_memoryErr) (wr := (mkWr [] [])) (l := tab_machine_memoryErr) (z := 5) (p := res_machine_memoryErr) (run' := fun _ => none) E_ok tab_machine_memoryErr_ok.mem rfl spec_machine_memoryErr_ok (fun _ _ h => by cases h) (Eq.trans (by kernel_rfl) hr)
noncomputable def con_machine_memoryErr : Con E := ⟨67, ((List Int) × Unit), Unit, (RwL.cons (Rw.sl 3) RwL.nil), RdBL.nil, 0, R_machine_memoryErr, fun a b => run_machine_memoryErr (.start a.1), res_machine_memoryErr.av, res_machine_memoryErr.bx⟩
theorem con_machine_memoryErr_ok : con_machine_memoryErr.Ok := fun a b r h => fn_ok (fn := Tryz.f67) (code := code_machine_memoryErr) E_ok (by kernel_rfl) (by kernel_rfl) (by kernel_rfl) (Nat.le_of_ble_eq_true rfl) (good_machine_memoryErr (.start a.1) r h)

/-! ### ratchet/machine.stepsErr -/
inductive P_machine_stepsErr where
 | start (steps0 : Int)
noncomputable def place_machine_stepsErr : P_machine_stepsErr → List Bool
 | .start .. => []
noncomputable def st_machine_stepsErr : P_machine_stepsErr → St E.S
 | .start steps0 => st0 6 [.v (.int .i64 steps0)] []
abbrev R_machine_stepsErr : Type := ((Int × Unit) × Unit)
noncomputable def res_machine_stepsErr : Res E (Int × Unit) Unit := { rows := [], flat := [], keep := 0, done := [0], rl := (RdL.cons (Rd.int .i64) RdL.nil), rb := RdBL.nil }
noncomputable def run_machine_stepsErr : P_machine_stepsErr → Option R_machine_stepsErr
 | .start steps0 =>
   (run_machine_within (.start steps0 (0 : Int) (2000 : Int))) >>= fun t1 =>
   (run_machine_unless (.start t1.1.1 (2 : Int))) >>= fun t2 =>
   some ((t2.1.1, ()), ())
noncomputable def tab_machine_stepsErr : List (Plc E P_machine_stepsErr) := []
theorem tab_machine_stepsErr_ok : All (PlcOk 6 0 place_machine_stepsErr st_machine_stepsErr) tab_machine_stepsErr := trivial
noncomputable def code_machine_stepsErr : Code := Tryz.f68.body.getD .skip
noncomputable def spec_machine_stepsErr : Spec E.S := (Con.add con_machine_unless (Con.add con_machine_within noSpec))
theorem spec_machine_stepsErr_ok : SpecOk E spec_machine_stepsErr := (Con.add_ok con_machine_unless_ok (Con.add_ok con_machine_within_ok noSpec_ok))
theorem good_machine_stepsErr : ∀ pt r, run_machine_stepsErr pt = some r → Good E Tryz.f68 code_machine_stepsErr 0 (res_machine_stepsErr.av r) (res_machine_stepsErr.bx r) (place_machine_stepsErr pt) (st_machine_stepsErr pt) := by
  intro pt r hr
  cases pt <;> exact fn_step (spec := spec_machine_stepsErr) (wr := (mkWr [] [])) (l := tab_machine_stepsErr) (z := 6) (p := res_machine_stepsErr) (run' := fun _ => none) E_ok tab_machine_stepsErr_ok.mem rfl spec_machine_stepsErr_ok (fun _ _ h => by cases h) (Eq.trans (by kernel_rfl) hr)
noncomputable def con_machine_stepsErr : Con E := ⟨68, (Int × Unit), Unit, (RwL.cons (Rd.int .i64).w RwL.nil), RdBL.nil, 0, R_machine_stepsErr, fun a b => run_machine_stepsErr (.start a.1), res_machine_stepsErr.av, res_machine_stepsErr.bx⟩
theorem con_machine_stepsErr_ok : con_machine_stepsErr.Ok := fun a b r h => fn_ok (fn := Tryz.f68) (code := code_machine_stepsErr) E_ok (by kernel_rfl) (by kernel_rfl) (by kernel_rfl) (Nat.le_of_ble_eq_true rfl) (good_machine_stepsErr (.start a.1) r h)

/-! ### slices.Clone[[]int,int] -/
inductive P_slices_Clone_int_int where
 | start (s0 : (List Int))
noncomputable def place_slices_Clone_int_int : P_slices_Clone_int_int → List Bool
 | .start .. => []
noncomputable def st_slices_Clone_int_int : P_slices_Clone_int_int → St E.S
 | .start s0 => st0 8 [.sl 3 s0 false] []
abbrev R_slices_Clone_int_int : Type := ((Unit × Unit) × ((List Int) × Unit))
noncomputable def res_slices_Clone_int_int : Res E (Unit × Unit) ((List Int) × Unit) := { rows := [], flat := [], keep := 0, done := [0], rl := (RdL.cons (Rd.rw 0) RdL.nil), rb := (RdBL.cons (RdB.row 3 true) RdBL.nil) }
noncomputable def run_slices_Clone_int_int : P_slices_Clone_int_int → Option R_slices_Clone_int_int
 | .start s0 =>
   if (!(List.isEmpty s0)) = true then
     if (fits (List.length ([] : List Int)) (List.length s0) 8) = true then
       some (((), ()), (([] : List Int) ++ s0, ()))
     else none
   else none
noncomputable def tab_slices_Clone_int_int : List (Plc E P_slices_Clone_int_int) := []
theorem tab_slices_Clone_int_int_ok : All (PlcOk 8 0 place_slices_Clone_int_int st_slices_Clone_int_int) tab_slices_Clone_int_int := trivial
noncomputable def code_slices_Clone_int_int : Code := Tryz.f121.body.getD .skip
noncomputable def spec_slices_Clone_int_int : Spec E.S := noSpec
theorem spec_slices_Clone_int_int_ok : SpecOk E spec_slices_Clone_int_int := noSpec_ok
theorem good_slices_Clone_int_int : ∀ pt r, run_slices_Clone_int_int pt = some r → Good E Tryz.f121 code_slices_Clone_int_int 0 (res_slices_Clone_int_int.av r) (res_slices_Clone_int_int.bx r) (place_slices_Clone_int_int pt) (st_slices_Clone_int_int pt) := by
  intro pt r hr
  cases pt <;> exact fn_step (spec := spec_slices_Clone_int_int) (wr := (mkWr [] [])) (l := tab_slices_Clone_int_int) (z := 8) (p := res_slices_Clone_int_int) (run' := fun _ => none) E_ok tab_slices_Clone_int_int_ok.mem rfl spec_slices_Clone_int_int_ok (fun _ _ h => by cases h) (Eq.trans (by kernel_rfl) hr)
noncomputable def con_slices_Clone_int_int : Con E := ⟨121, ((List Int) × Unit), Unit, (RwL.cons (Rw.sl 3) RwL.nil), RdBL.nil, 0, R_slices_Clone_int_int, fun a b => run_slices_Clone_int_int (.start a.1), res_slices_Clone_int_int.av, res_slices_Clone_int_int.bx⟩
theorem con_slices_Clone_int_int_ok : con_slices_Clone_int_int.Ok := fun a b r h => fn_ok (fn := Tryz.f121) (code := code_slices_Clone_int_int) E_ok (by kernel_rfl) (by kernel_rfl) (by kernel_rfl) (Nat.le_of_ble_eq_true rfl) (good_slices_Clone_int_int (.start a.1) r h)

/-! ### ratchet/machine.beginning -/
inductive P_machine_beginning where
 | start (memory0 : (List Int))
noncomputable def place_machine_beginning : P_machine_beginning → List Bool
 | .start .. => []
noncomputable def st_machine_beginning : P_machine_beginning → St E.S
 | .start memory0 => st0 7 [.sl 3 memory0 false] []
abbrev R_machine_beginning : Type := (((Int × (Int × (Unit × (Unit × Unit)))) × Unit) × ((List Int) × ((List Int) × Unit)))
noncomputable def res_machine_beginning : Res E ((Int × (Int × (Unit × (Unit × Unit)))) × Unit) ((List Int) × ((List Int) × Unit)) := { rows := [], flat := [], keep := 0, done := [0], rl := (RdL.cons (Rd.agg (RdL.cons (Rd.int .i64) (RdL.cons (Rd.int .i64) (RdL.cons (Rd.rw 0) (RdL.cons (Rd.rw 1) RdL.nil))))) RdL.nil), rb := (RdBL.cons (RdB.row 3 true) (RdBL.cons (RdB.row 3 true) RdBL.nil)) }
noncomputable def run_machine_beginning : P_machine_beginning → Option R_machine_beginning
 | .start memory0 =>
   if (fitsM (4 : Int) (4 : Int) 8) = true then
     (run_slices_Clone_int_int (.start memory0)) >>= fun t1 =>
     some ((((0 : Int), ((0 : Int), ((), ((), ())))), ()), (List.replicate (Int.toNat (4 : Int)) (0 : Int), (t1.2.1, ())))
   else none
noncomputable def tab_machine_beginning : List (Plc E P_machine_beginning) := []
theorem tab_machine_beginning_ok : All (PlcOk 7 0 place_machine_beginning st_machine_beginning) tab_machine_beginning := trivial
noncomputable def code_machine_beginning : Code := Tryz.f69.body.getD .skip
noncomputable def spec_machine_beginning : Spec E.S := (Con.add con_slices_Clone_int_int noSpec)
theorem spec_machine_beginning_ok : SpecOk E spec_machine_beginning := (Con.add_ok con_slices_Clone_int_int_ok noSpec_ok)
theorem good_machine_beginning : ∀ pt r, run_machine_beginning pt = some r → Good E Tryz.f69 code_machine_beginning 0 (res_machine_beginning.av r) (res_machine_beginning.bx r) (place_machine_beginning pt) (st_machine_beginning pt) := by
  intro pt r hr
  cases pt <;> exact fn_step (spec := spec_machine_beginning) (wr := (mkWr [] [])) (l := tab_machine_beginning) (z := 7) (p := res_machine_beginning) (run' := fun _ => none) E_ok tab_machine_beginning_ok.mem rfl spec_machine_beginning_ok (fun _ _ h => by cases h) (Eq.trans (by kernel_rfl) hr)
noncomputable def con_machine_beginning : Con E := ⟨69, ((List Int) × Unit), Unit, (RwL.cons (Rw.sl 3) RwL.nil), RdBL.nil, 0, R_machine_beginning, fun a b => run_machine_beginning (.start a.1), res_machine_beginning.av, res_machine_beginning.bx⟩
theorem con_machine_beginning_ok : con_machine_beginning.Ok := fun a b r h => fn_ok (fn := Tryz.f69) (code := code_machine_beginning) E_ok (by kernel_rfl) (by kernel_rfl) (by kernel_rfl) (Nat.le_of_ble_eq_true rfl) (good_machine_beginning (.start a.1) r h)

/-! ### slices.Clone[[]int,int] -/
inductive P_slices_Clone_int_int_v1 where
 | start (s0 : (List Int))
noncomputable def place_slices_Clone_int_int_v1 : P_slices_Clone_int_int_v1 → List Bool
 | .start .. => []
noncomputable def st_slices_Clone_int_int_v1 : P_slices_Clone_int_int_v1 → St E.S
 | .start s0 => st0 8 [.sl 3 s0 false] []
abbrev R_slices_Clone_int_int_v1 : Type := ((Unit × Unit) × ((List Int) × Unit))
noncomputable def res_slices_Clone_int_int_v1 : Res E (Unit × Unit) ((List Int) × Unit) := { rows := [], flat := [], keep := 0, rl := (RdL.cons (Rd.rw 0) RdL.nil), rb := (RdBL.cons (RdB.row 3 false) RdBL.nil) }
noncomputable def run_slices_Clone_int_int_v1 : P_slices_Clone_int_int_v1 → Option R_slices_Clone_int_int_v1
 | .start s0 =>
   if (!(List.isEmpty s0)) = true then
     if (fits (List.length ([] : List Int)) (List.length s0) 8) = true then
       some (((), ()), (([] : List Int) ++ s0, ()))
     else none
   else none
noncomputable def tab_slices_Clone_int_int_v1 : List (Plc E P_slices_Clone_int_int_v1) := []
theorem tab_slices_Clone_int_int_v1_ok : All (PlcOk 8 0 place_slices_Clone_int_int_v1 st_slices_Clone_int_int_v1) tab_slices_Clone_int_int_v1 := trivial
noncomputable def code_slices_Clone_int_int_v1 : Code := Tryz.f121.body.getD .skip
noncomputable def spec_slices_Clone_int_int_v1 : Spec E.S := noSpec
theorem spec_slices_Clone_int_int_v1_ok : SpecOk E spec_slices_Clone_int_int_v1 := noSpec_ok
theorem good_slices_Clone_int_int_v1 : ∀ pt r, run_slices_Clone_int_int_v1 pt = some r → Good E Tryz.f121 code_slices_Clone_int_int_v1 0 (res_slices_Clone_int_int_v1.av r) (res_slices_Clone_int_int_v1.bx r) (place_slices_Clone_int_int_v1 pt) (st_slices_Clone_int_int_v1 pt) := by
  intro pt r hr
  cases pt <;> exact fn_step (spec := spec_slices_Clone_int_int_v1) (wr := (mkWr [2, 5, 7] [])) (l := tab_slices_Clone_int_int_v1) (z := 8) (p := res_slices_Clone_int_int_v1) (run' := fun _ => none) E_ok tab_slices_Clone_int_int_v1_ok.mem rfl spec_slices_Clone_int_int_v1_ok (fun _ _ h => by cases h) (Eq.trans (by kernel_rfl) hr)
noncomputable def con_slices_Clone_int_int_v1 : Con E := ⟨121, ((List Int) × Unit), Unit, (RwL.cons (Rw.sl 3) RwL.nil), RdBL.nil, 0, R_slices_Clone_int_int_v1, fun a b => run_slices_Clone_int_int_v1 (.start a.1), res_slices_Clone_int_int_v1.av, res_slices_Clone_int_int_v1.bx⟩
theorem con_slices_Clone_int_int_v1_ok : con_slices_Clone_int_int_v1.Ok := fun a b r h => fn_ok (fn := Tryz.f121) (code := code_slices_Clone_int_int_v1) E_ok (by kernel_rfl) (by kernel_rfl) (by kernel_rfl) (Nat.le_of_ble_eq_true rfl) (good_slices_Clone_int_int_v1 (.start a.1) r h)

/-! ### ratchet/machine.step -/
inductive P_machine_step where
 | start (l0 : (List api_MachineCode)) (s1_0 : Int) (s1_1 : Int) (s1_2 : (List Int)) (s1_3 : (List Int))
 | p63 (B0_0 : Int) (B0_1 : Int) (B1_0 : Int) (B1_1 : Int) (B2_0 : Int) (B2_1 : Int) (B2_2 : Int) (B2_3 : Int) (B3 : (List Int)) (B4 : (List Int))
noncomputable def place_machine_step : P_machine_step → List Bool
 | .start .. => []
 | .p63 .. => [true, true, true, true, true]
noncomputable def st_machine_step : P_machine_step → St E.S
 | .start l0 s1_0 s1_1 s1_2 s1_3 => st0 127 [.sl 40 l0 false, .agg [.v (.int .i64 s1_0), .v (.int .i64 s1_1), .sl 3 s1_2 false, .sl 3 s1_3 false]] []
 | .p63 B0_0 B0_1 B1_0 B1_1 B2_0 B2_1 B2_2 B2_3 B3 B4 => mkSt 127 [3, 4, 5] [.bp 0 0, .bp 1 0, .bp 2 0] [.var 27 [.v (.int .i64 B0_0), .v (.int .i64 B0_1), .rw 3, .rw 4], .var 27 [.v (.int .i64 B1_0), .v (.int .i64 B1_1), .nl, .nl], .var 40 [.v (.int .i64 B2_0), .v (.int .i64 B2_1), .v (.int .i64 B2_2), .v (.int .i64 B2_3)], .row 3 B3 false, .row 3 B4 false]
abbrev R_machine_step : Type := (((Int × (Int × (Unit × (Unit × Unit)))) × Unit) × ((List Int) × ((List Int) × Unit)))
noncomputable def res_machine_step : Res E ((Int × (Int × (Unit × (Unit × Unit)))) × Unit) ((List Int) × ((List Int) × Unit)) := { rows := [], flat := [], keep := 0, done := [0], rl := (RdL.cons (Rd.agg (RdL.cons (Rd.int .i64) (RdL.cons (Rd.int .i64) (RdL.cons (Rd.rw 0) (RdL.cons (Rd.rw 1) RdL.nil))))) RdL.nil), rb := (RdBL.cons (RdB.row 3 true) (RdBL.cons (RdB.row 3 true) RdBL.nil)) }
noncomputable def run_machine_step : P_machine_step → Option R_machine_step
 | .start l0 s1_0 s1_1 s1_2 s1_3 =>
   (run_slices_Clone_int_int_v1 (.start s1_2)) >>= fun t1 =>
   (run_slices_Clone_int_int_v1 (.start s1_3)) >>= fun t2 =>
   if (s1_1 == (1 : Int)) = true then
     some (((s1_0, (s1_1, ((), ((), ())))), ()), (t1.2.1, (t2.2.1, ())))
   else
     if (decide (s1_0 < (List.length l0 : Int))) = true then
       (idx l0 s1_0) >>= fun t3 =>
       run_machine_step (.p63 s1_0 s1_1 (0 : Int) (0 : Int) t3.Op t3.A t3.B t3.N t1.2.1 t2.2.1)
     else
       run_machine_step (.p63 s1_0 s1_1 (0 : Int) (0 : Int) (0 : Int) (0 : Int) (0 : Int) (0 : Int) t1.2.1 t2.2.1)
 | .p63 B0_0 B0_1 B1_0 B1_1 B2_0 B2_1 B2_2 B2_3 B3 B4 =>
   if (!((16 : Int) == (0 : Int))) = true then
     if (decide ((0 : Int) ≤ B2_1) && decide (B2_1 < (List.length B3 : Int))) = true then
       if (decide ((0 : Int) ≤ B2_2) && decide (B2_2 < (List.length B3 : Int))) = true then
         (idx B3 B2_2) >>= fun t1 =>
         if (!((8 : Int) == (0 : Int))) = true then
           if (decide ((0 : Int) ≤ (Int.tmod t1 (8 : Int))) && decide ((Int.tmod t1 (8 : Int)) < (List.length B4 : Int))) = true then
             if (B2_0 == (0 : Int)) = true then
               some (((B0_0, ((1 : Int), ((), ((), ())))), ()), (B3, (B4, ())))
             else
               if (B2_0 == (1 : Int)) = true then
                 (idx B3 B2_1) >>= fun t2 =>
                 some (((Int.tmod (IntKind.wrap .i64 (B0_0 + (1 : Int))) (16 : Int), (B0_1, ((), ((), ())))), ()), (List.set B3 (Int.toNat B2_1) B2_3, (B4, ())))
               else
                 if (B2_0 == (2 : Int)) = true then
                   (idx B3 B2_1) >>= fun t3 =>
                   some (((Int.tmod (IntKind.wrap .i64 (B0_0 + (1 : Int))) (16 : Int), (B0_1, ((), ((), ())))), ()), (List.set B3 (Int.toNat B2_1) t1, (B4, ())))
                 else
                   if (B2_0 == (3 : Int)) = true then
                     (idx B3 B2_1) >>= fun t4 =>
                     (idx B3 B2_1) >>= fun t5 =>
                     some (((Int.tmod (IntKind.wrap .i64 (B0_0 + (1 : Int))) (16 : Int), (B0_1, ((), ((), ())))), ()), (List.set B3 (Int.toNat B2_1) (bits .and .i64 (IntKind.wrap .i64 (t4 + t1)) (255 : Int)), (B4, ())))
                   else
                     if (B2_0 == (4 : Int)) = true then
                       (idx B3 B2_1) >>= fun t6 =>
                       (idx B3 B2_1) >>= fun t7 =>
                       some (((Int.tmod (IntKind.wrap .i64 (B0_0 + (1 : Int))) (16 : Int), (B0_1, ((), ((), ())))), ()), (List.set B3 (Int.toNat B2_1) (bits .and .i64 (IntKind.wrap .i64 (t6 - t1)) (255 : Int)), (B4, ())))
                     else
                       if (B2_0 == (5 : Int)) = true then
                         (idx B3 B2_1) >>= fun t8 =>
                         (idx B3 B2_1) >>= fun t9 =>
                         some (((Int.tmod (IntKind.wrap .i64 (B0_0 + (1 : Int))) (16 : Int), (B0_1, ((), ((), ())))), ()), (List.set B3 (Int.toNat B2_1) (bits .and .i64 t8 t1), (B4, ())))
                       else
                         if (B2_0 == (6 : Int)) = true then
                           (idx B4 (Int.tmod t1 (8 : Int))) >>= fun t10 =>
                           (idx B3 B2_1) >>= fun t11 =>
                           some (((Int.tmod (IntKind.wrap .i64 (B0_0 + (1 : Int))) (16 : Int), (B0_1, ((), ((), ())))), ()), (List.set B3 (Int.toNat B2_1) t10, (B4, ())))
                         else
                           if (B2_0 == (7 : Int)) = true then
                             (idx B3 B2_1) >>= fun t12 =>
                             (idx B4 (Int.tmod t1 (8 : Int))) >>= fun t13 =>
                             some (((Int.tmod (IntKind.wrap .i64 (B0_0 + (1 : Int))) (16 : Int), (B0_1, ((), ((), ())))), ()), (B3, (List.set B4 (Int.toNat (Int.tmod t1 (8 : Int))) t12, ())))
                           else
                             if (B2_0 == (8 : Int)) = true then
                               some (((B2_3, (B0_1, ((), ((), ())))), ()), (B3, (B4, ())))
                             else
                               if (B2_0 == (9 : Int)) = true then
                                 (idx B3 B2_1) >>= fun t14 =>
                                 if (t14 == (0 : Int)) = true then
                                   some (((B2_3, (B0_1, ((), ((), ())))), ()), (B3, (B4, ())))
                                 else
                                   some (((Int.tmod (IntKind.wrap .i64 (B0_0 + (1 : Int))) (16 : Int), (B0_1, ((), ((), ())))), ()), (B3, (B4, ())))
                               else
                                 some (((Int.tmod (IntKind.wrap .i64 (B0_0 + (1 : Int))) (16 : Int), (B0_1, ((), ((), ())))), ()), (B3, (B4, ())))
           else none
         else none
       else none
     else none
   else none
  partial_fixpoint
noncomputable def tab_machine_step : List (Plc E P_machine_step) := [⟨63, [true, true, true, true, true], { slots := [3, 4, 5], rows := [], flat := [], keep := 0 }, (Unit × (Unit × (Unit × Unit))), ((Int × (Int × (Unit × (Unit × Unit)))) × ((Int × (Int × (Unit × (Unit × Unit)))) × ((Int × (Int × (Int × (Int × Unit)))) × ((List Int) × ((List Int) × Unit))))), (RdL.cons (Rd.bp 0 0) (RdL.cons (Rd.bp 1 0) (RdL.cons (Rd.bp 2 0) RdL.nil))), (RdBL.cons (RdB.var 27 (RdL.cons (Rd.int .i64) (RdL.cons (Rd.int .i64) (RdL.cons (Rd.rw 3) (RdL.cons (Rd.rw 4) RdL.nil))))) (RdBL.cons (RdB.var 27 (RdL.cons (Rd.int .i64) (RdL.cons (Rd.int .i64) (RdL.cons Rd.nl (RdL.cons Rd.nl RdL.nil))))) (RdBL.cons (RdB.var 40 (RdL.cons (Rd.int .i64) (RdL.cons (Rd.int .i64) (RdL.cons (Rd.int .i64) (RdL.cons (Rd.int .i64) RdL.nil))))) (RdBL.cons (RdB.row 3 false) (RdBL.cons (RdB.row 3 false) RdBL.nil))))), fun a b => .p63 b.1.1 b.1.2.1 b.2.1.1 b.2.1.2.1 b.2.2.1.1 b.2.2.1.2.1 b.2.2.1.2.2.1 b.2.2.1.2.2.2.1 b.2.2.2.1 b.2.2.2.2.1⟩]
theorem tab_machine_step_ok : All (PlcOk 127 0 place_machine_step st_machine_step) tab_machine_step := ⟨⟨rfl, rfl, fun _ _ => rfl, fun _ _ => rfl⟩, trivial⟩
noncomputable def code_machine_step : Code := Tryz.f70.body.getD .skip
noncomputable def spec_machine_step : Spec E.S := (Con.add con_slices_Clone_int_int_v1 noSpec)
theorem spec_machine_step_ok : SpecOk E spec_machine_step := (Con.add_ok con_slices_Clone_int_int_v1_ok noSpec_ok)
theorem good_machine_step : ∀ pt r, run_machine_step pt = some r → Good E Tryz.f70 code_machine_step 0 (res_machine_step.av r) (res_machine_step.bx r) (place_machine_step pt) (st_machine_step pt) := by
  refine run_machine_step.partial_correctness (fun pt r => Good E Tryz.f70 code_machine_step 0 (res_machine_step.av r) (res_machine_step.bx r) (place_machine_step pt) (st_machine_step pt)) ?_
  intro run' ih pt r hr
  cases pt <;> exact fn_step (spec := spec_machine_step) (wr := (mkWr [1, 3, 4, 7, 9, 10, 11, 12, 13, 14, 15, 16, 17, 18, 21, 22, 28, 32, 36, 37, 40, 41, 42, 45, 47, 48, 51, 56, 58, 61, 64, 67, 69, 72, 73, 74, 79, 82, 83, 84, 89, 92, 93, 97, 100, 101, 102, 104, 107, 108, 109, 111, 118, 119, 125, 126] [])) (l := tab_machine_step) (z := 127) (p := res_machine_step) E_ok tab_machine_step_ok.mem rfl spec_machine_step_ok ih (Eq.trans (by kernel_rfl) hr)
noncomputable def con_machine_step : Con E := ⟨70, ((List api_MachineCode) × ((Int × (Int × ((List Int) × ((List Int) × Unit)))) × Unit)), Unit, (RwL.cons (Rw.sl 40) (RwL.cons (Rw.agg (RwL.cons (Rd.int .i64).w (RwL.cons (Rd.int .i64).w (RwL.cons (Rw.sl 3) (RwL.cons (Rw.sl 3) RwL.nil))))) RwL.nil)), RdBL.nil, 0, R_machine_step, fun a b => run_machine_step (.start a.1 a.2.1.1 a.2.1.2.1 a.2.1.2.2.1 a.2.1.2.2.2.1), res_machine_step.av, res_machine_step.bx⟩
theorem con_machine_step_ok : con_machine_step.Ok := fun a b r h => fn_ok (fn := Tryz.f70) (code := code_machine_step) E_ok (by kernel_rfl) (by kernel_rfl) (by kernel_rfl) (Nat.le_of_ble_eq_true rfl) (good_machine_step (.start a.1 a.2.1.1 a.2.1.2.1 a.2.1.2.2.1 a.2.1.2.2.2.1) r h)

/-! ### ratchet/machine.HaltOf -/
inductive P_machine_HaltOf where
 | start (l0 : (List api_MachineCode)) (memory1 : (List Int)) (steps2 : Int)
 | p244 (l0 : (List api_MachineCode)) (s26 : Int) (s27 : Int) (B0_0 : Int) (B0_1 : Int) (B1_0 : Int) (B1_1 : Int) (B2 : (List Int)) (B3 : (List Int))
noncomputable def place_machine_HaltOf : P_machine_HaltOf → List Bool
 | .start .. => []
 | .p244 .. => [false, false, true, false, true, true, true]
noncomputable def st_machine_HaltOf : P_machine_HaltOf → St E.S
 | .start l0 memory1 steps2 => st0 41 [.sl 40 l0 false, .sl 3 memory1 false, .v (.int .i64 steps2)] []
 | .p244 l0 s26 s27 B0_0 B0_1 B1_0 B1_1 B2 B3 => mkSt 41 [0, 6, 10, 26, 27] [.sl 40 l0 false, .bp 0 0, .bp 1 0, .v (.int .i64 s26), .v (.int .i64 s27)] [.var 27 [.v (.int .i64 B0_0), .v (.int .i64 B0_1), .nl, .nl], .var 27 [.v (.int .i64 B1_0), .v (.int .i64 B1_1), .rw 2, .rw 3], .row 3 B2 true, .row 3 B3 true]
abbrev R_machine_HaltOf : Type := (((Int × (Int × ((List Int) × ((List Int) × Unit)))) × (Int × (Int × Unit))) × Unit)
noncomputable def res_machine_HaltOf : Res E ((Int × (Int × ((List Int) × ((List Int) × Unit)))) × (Int × (Int × Unit))) Unit := { rows := [], flat := [], keep := 0, deep := [(false, 0, 2, 3), (false, 0, 3, 3)], done := [0, 1, 2], rl := (RdL.cons (Rd.agg (RdL.cons (Rd.int .i64) (RdL.cons (Rd.int .i64) (RdL.cons (Rd.sl 3 false) (RdL.cons (Rd.sl 3 false) RdL.nil))))) (RdL.cons (Rd.int .i64) (RdL.cons (Rd.int .i64) RdL.nil))), rb := RdBL.nil }
noncomputable def run_machine_HaltOf : P_machine_HaltOf → Option R_machine_HaltOf
 | .start l0 memory1 steps2 =>
   (run_machine_programErr (.start l0)) >>= fun t1 =>
   (run_machine_memoryErr (.start memory1)) >>= fun t2 =>
   (run_machine_stepsErr (.start steps2)) >>= fun t3 =>
   (run_machine_first (.start ([t1.1.1, t2.1.1, t3.1.1] : List Int))) >>= fun t4 =>
   if (t4.1.1 != (0 : Int)) = true then
     some ((((0 : Int), ((0 : Int), ([], ([], ())))), ((0 : Int), (t4.1.1, ()))), ())
   else
     (run_machine_beginning (.start memory1)) >>= fun t5 =>
     run_machine_HaltOf (.p244 l0 steps2 (0 : Int) (0 : Int) (0 : Int) t5.1.1.1 t5.1.1.2.1 t5.2.1 t5.2.2.1)
 | .p244 l0 s26 s27 B0_0 B0_1 B1_0 B1_1 B2 B3 =>
   if (decide (s27 < s26)) = true then
     (run_machine_step (.start l0 B1_0 B1_1 B2 B3)) >>= fun t1 =>
     if (t1.1.1.2.1 == (1 : Int)) = true then
       some (((t1.1.1.1, (t1.1.1.2.1, (t1.2.1, (t1.2.2.1, ())))), (IntKind.wrap .i64 (s27 + (1 : Int)), ((0 : Int), ()))), ())
     else
       run_machine_HaltOf (.p244 l0 s26 (IntKind.wrap .i64 (s27 + (1 : Int))) B0_0 B0_1 t1.1.1.1 t1.1.1.2.1 t1.2.1 t1.2.2.1)
   else
     some ((((0 : Int), ((0 : Int), ([], ([], ())))), ((0 : Int), ((28 : Int), ()))), ())
  partial_fixpoint
noncomputable def tab_machine_HaltOf : List (Plc E P_machine_HaltOf) := [⟨244, [false, false, true, false, true, true, true], { slots := [0, 6, 10, 26, 27], rows := [], flat := [], keep := 0 }, ((List api_MachineCode) × (Unit × (Unit × (Int × (Int × Unit))))), ((Int × (Int × (Unit × (Unit × Unit)))) × ((Int × (Int × (Unit × (Unit × Unit)))) × ((List Int) × ((List Int) × Unit)))), (RdL.cons (Rd.sl 40 false) (RdL.cons (Rd.bp 0 0) (RdL.cons (Rd.bp 1 0) (RdL.cons (Rd.int .i64) (RdL.cons (Rd.int .i64) RdL.nil))))), (RdBL.cons (RdB.var 27 (RdL.cons (Rd.int .i64) (RdL.cons (Rd.int .i64) (RdL.cons Rd.nl (RdL.cons Rd.nl RdL.nil))))) (RdBL.cons (RdB.var 27 (RdL.cons (Rd.int .i64) (RdL.cons (Rd.int .i64) (RdL.cons (Rd.rw 2) (RdL.cons (Rd.rw 3) RdL.nil))))) (RdBL.cons (RdB.row 3 true) (RdBL.cons (RdB.row 3 true) RdBL.nil)))), fun a b => .p244 a.1 a.2.2.2.1 a.2.2.2.2.1 b.1.1 b.1.2.1 b.2.1.1 b.2.1.2.1 b.2.2.1 b.2.2.2.1⟩]
theorem tab_machine_HaltOf_ok : All (PlcOk 41 0 place_machine_HaltOf st_machine_HaltOf) tab_machine_HaltOf := ⟨⟨rfl, rfl, fun _ _ => rfl, fun _ _ => rfl⟩, trivial⟩
noncomputable def code_machine_HaltOf : Code := Tryz.f13.body.getD .skip
noncomputable def spec_machine_HaltOf : Spec E.S := (Con.add con_machine_step (Con.add con_machine_beginning (Con.add con_machine_first (Con.add con_machine_stepsErr (Con.add con_machine_memoryErr (Con.add con_machine_programErr noSpec))))))
theorem spec_machine_HaltOf_ok : SpecOk E spec_machine_HaltOf := (Con.add_ok con_machine_step_ok (Con.add_ok con_machine_beginning_ok (Con.add_ok con_machine_first_ok (Con.add_ok con_machine_stepsErr_ok (Con.add_ok con_machine_memoryErr_ok (Con.add_ok con_machine_programErr_ok noSpec_ok))))))
theorem good_machine_HaltOf : ∀ pt r, run_machine_HaltOf pt = some r → Good E Tryz.f13 code_machine_HaltOf 0 (res_machine_HaltOf.av r) (res_machine_HaltOf.bx r) (place_machine_HaltOf pt) (st_machine_HaltOf pt) := by
  refine run_machine_HaltOf.partial_correctness (fun pt r => Good E Tryz.f13 code_machine_HaltOf 0 (res_machine_HaltOf.av r) (res_machine_HaltOf.bx r) (place_machine_HaltOf pt) (st_machine_HaltOf pt)) ?_
  intro run' ih pt r hr
  cases pt <;> exact fn_step (spec := spec_machine_HaltOf) (wr := (mkWr [] [])) (l := tab_machine_HaltOf) (z := 41) (p := res_machine_HaltOf) E_ok tab_machine_HaltOf_ok.mem rfl spec_machine_HaltOf_ok ih (Eq.trans (by kernel_rfl) hr)
noncomputable def con_machine_HaltOf : Con E := ⟨13, ((List api_MachineCode) × ((List Int) × (Int × Unit))), Unit, (RwL.cons (Rw.sl 40) (RwL.cons (Rw.sl 3) (RwL.cons (Rd.int .i64).w RwL.nil))), RdBL.nil, 0, R_machine_HaltOf, fun a b => run_machine_HaltOf (.start a.1 a.2.1 a.2.2.1), res_machine_HaltOf.av, res_machine_HaltOf.bx⟩
theorem con_machine_HaltOf_ok : con_machine_HaltOf.Ok := fun a b r h => fn_ok (fn := Tryz.f13) (code := code_machine_HaltOf) E_ok (by kernel_rfl) (by kernel_rfl) (by kernel_rfl) (Nat.le_of_ble_eq_true rfl) (good_machine_HaltOf (.start a.1 a.2.1 a.2.2.1) r h)

/-! ### ratchet/ratchetref31.shape -/
inductive P_ratchetref31_shape where
 | start (op0 : Int)
noncomputable def place_ratchetref31_shape : P_ratchetref31_shape → List Bool
 | .start .. => []
noncomputable def st_ratchetref31_shape : P_ratchetref31_shape → St E.S
 | .start op0 => st0 7 [.v (.int .i64 op0)] []
abbrev R_ratchetref31_shape : Type := ((ByteArray × Unit) × Unit)
noncomputable def res_ratchetref31_shape : Res E (ByteArray × Unit) Unit := { rows := [], flat := [], keep := 0, done := [0], rl := (RdL.cons Rd.str RdL.nil), rb := RdBL.nil }
noncomputable def run_ratchetref31_shape : P_ratchetref31_shape → Option R_ratchetref31_shape
 | .start op0 =>
   (idx ([(⟨#[]⟩ : ByteArray), (⟨#[97, 110]⟩ : ByteArray), (⟨#[97, 98]⟩ : ByteArray), (⟨#[97, 98]⟩ : ByteArray), (⟨#[97, 98]⟩ : ByteArray), (⟨#[97, 98]⟩ : ByteArray), (⟨#[97, 98]⟩ : ByteArray), (⟨#[97, 98]⟩ : ByteArray), (⟨#[112]⟩ : ByteArray), (⟨#[97, 112]⟩ : ByteArray)] : List ByteArray) op0) >>= fun t1 =>
   some ((t1, ()), ())
noncomputable def tab_ratchetref31_shape : List (Plc E P_ratchetref31_shape) := []
theorem tab_ratchetref31_shape_ok : All (PlcOk 7 0 place_ratchetref31_shape st_ratchetref31_shape) tab_ratchetref31_shape := trivial
noncomputable def code_ratchetref31_shape : Code := Tryz.f106.body.getD .skip
noncomputable def spec_ratchetref31_shape : Spec E.S := noSpec
theorem spec_ratchetref31_shape_ok : SpecOk E spec_ratchetref31_shape := noSpec_ok
theorem good_ratchetref31_shape : ∀ pt r, run_ratchetref31_shape pt = some r → Good E Tryz.f106 code_ratchetref31_shape 0 (res_ratchetref31_shape.av r) (res_ratchetref31_shape.bx r) (place_ratchetref31_shape pt) (st_ratchetref31_shape pt) := by
  intro pt r hr
  cases pt <;> exact fn_step (spec := spec_ratchetref31_shape) (wr := (mkWr [] [])) (l := tab_ratchetref31_shape) (z := 7) (p := res_ratchetref31_shape) (run' := fun _ => none) E_ok tab_ratchetref31_shape_ok.mem rfl spec_ratchetref31_shape_ok (fun _ _ h => by cases h) (Eq.trans (by kernel_rfl) hr)
noncomputable def con_ratchetref31_shape : Con E := ⟨106, (Int × Unit), Unit, (RwL.cons (Rd.int .i64).w RwL.nil), RdBL.nil, 0, R_ratchetref31_shape, fun a b => run_ratchetref31_shape (.start a.1), res_ratchetref31_shape.av, res_ratchetref31_shape.bx⟩
theorem con_ratchetref31_shape_ok : con_ratchetref31_shape.Ok := fun a b r h => fn_ok (fn := Tryz.f106) (code := code_ratchetref31_shape) E_ok (by kernel_rfl) (by kernel_rfl) (by kernel_rfl) (Nat.le_of_ble_eq_true rfl) (good_ratchetref31_shape (.start a.1) r h)

/-! ### ratchet/ratchetref31.uses -/
inductive P_ratchetref31_uses where
 | start (op0 : Int) (kind1 : Int)
 | p116 (kind1 : Int) (s5 : ByteArray) (i6 : Int)
noncomputable def place_ratchetref31_uses : P_ratchetref31_uses → List Bool
 | .start .. => []
 | .p116 .. => [false, false, true, false, true, true]
noncomputable def st_ratchetref31_uses : P_ratchetref31_uses → St E.S
 | .start op0 kind1 => st0 20 [.v (.int .i64 op0), .v (.int .u8 kind1)] []
 | .p116 kind1 s5 i6 => mkSt 20 [1, 5, 6] [.v (.int .u8 kind1), .v (.string s5), .v (.int .i64 i6)] []
abbrev R_ratchetref31_uses : Type := ((Bool × Unit) × Unit)
noncomputable def res_ratchetref31_uses : Res E (Bool × Unit) Unit := { rows := [], flat := [], keep := 0, done := [0], rl := (RdL.cons Rd.bool RdL.nil), rb := RdBL.nil }
noncomputable def run_ratchetref31_uses : P_ratchetref31_uses → Option R_ratchetref31_uses
 | .start op0 kind1 =>
   (run_ratchetref31_shape (.start op0)) >>= fun t1 =>
   run_ratchetref31_uses (.p116 kind1 t1.1.1 (0 : Int))
 | .p116 kind1 s5 i6 =>
   if (decide (i6 < (s5.size : Int))) = true then
     (sidx s5 i6) >>= fun t1 =>
     if (t1 == kind1) = true then
       some ((true, ()), ())
     else
       run_ratchetref31_uses (.p116 kind1 s5 (IntKind.wrap .i64 (i6 + (1 : Int))))
   else
     some ((false, ()), ())
  partial_fixpoint
noncomputable def tab_ratchetref31_uses : List (Plc E P_ratchetref31_uses) := [⟨116, [false, false, true, false, true, true], { slots := [1, 5, 6], rows := [], flat := [], keep := 0 }, (Int × (ByteArray × (Int × Unit))), Unit, (RdL.cons (Rd.int .u8) (RdL.cons Rd.str (RdL.cons (Rd.int .i64) RdL.nil))), RdBL.nil, fun a b => .p116 a.1 a.2.1 a.2.2.1⟩]
theorem tab_ratchetref31_uses_ok : All (PlcOk 20 0 place_ratchetref31_uses st_ratchetref31_uses) tab_ratchetref31_uses := ⟨⟨rfl, rfl, fun _ _ => rfl, fun _ _ => rfl⟩, trivial⟩
noncomputable def code_ratchetref31_uses : Code := Tryz.f76.body.getD .skip
noncomputable def spec_ratchetref31_uses : Spec E.S := (Con.add con_ratchetref31_shape noSpec)
theorem spec_ratchetref31_uses_ok : SpecOk E spec_ratchetref31_uses := (Con.add_ok con_ratchetref31_shape_ok noSpec_ok)
theorem good_ratchetref31_uses : ∀ pt r, run_ratchetref31_uses pt = some r → Good E Tryz.f76 code_ratchetref31_uses 0 (res_ratchetref31_uses.av r) (res_ratchetref31_uses.bx r) (place_ratchetref31_uses pt) (st_ratchetref31_uses pt) := by
  refine run_ratchetref31_uses.partial_correctness (fun pt r => Good E Tryz.f76 code_ratchetref31_uses 0 (res_ratchetref31_uses.av r) (res_ratchetref31_uses.bx r) (place_ratchetref31_uses pt) (st_ratchetref31_uses pt)) ?_
  intro run' ih pt r hr
  cases pt <;> exact fn_step (spec := spec_ratchetref31_uses) (wr := (mkWr [] [])) (l := tab_ratchetref31_uses) (z := 20) (p := res_ratchetref31_uses) E_ok tab_ratchetref31_uses_ok.mem rfl spec_ratchetref31_uses_ok ih (Eq.trans (by kernel_rfl) hr)
noncomputable def con_ratchetref31_uses : Con E := ⟨76, (Int × (Int × Unit)), Unit, (RwL.cons (Rd.int .i64).w (RwL.cons (Rd.int .u8).w RwL.nil)), RdBL.nil, 0, R_ratchetref31_uses, fun a b => run_ratchetref31_uses (.start a.1 a.2.1), res_ratchetref31_uses.av, res_ratchetref31_uses.bx⟩
theorem con_ratchetref31_uses_ok : con_ratchetref31_uses.Ok := fun a b r h => fn_ok (fn := Tryz.f76) (code := code_ratchetref31_uses) E_ok (by kernel_rfl) (by kernel_rfl) (by kernel_rfl) (Nat.le_of_ble_eq_true rfl) (good_ratchetref31_uses (.start a.1 a.2.1) r h)

/-! ### ratchet/ratchetref31.CodeErr -/
inductive P_ratchetref31_CodeErr where
 | start (c0_0 : Int) (c0_1 : Int) (c0_2 : Int) (c0_3 : Int)
 | p31 (most3 : Int) (B0_0 : Int) (B0_1 : Int) (B0_2 : Int) (B0_3 : Int)
 | p63 (B0_0 : Int) (B0_1 : Int) (B0_2 : Int) (B0_3 : Int)
noncomputable def place_ratchetref31_CodeErr : P_ratchetref31_CodeErr → List Bool
 | .start .. => []
 | .p31 .. => [true, true, true, true]
 | .p63 .. => [true, true, true, true, true]
noncomputable def st_ratchetref31_CodeErr : P_ratchetref31_CodeErr → St E.S
 | .start c0_0 c0_1 c0_2 c0_3 => st0 65 [.agg [.v (.int .i64 c0_0), .v (.int .i64 c0_1), .v (.int .i64 c0_2), .v (.int .i64 c0_3)]] []
 | .p31 most3 B0_0 B0_1 B0_2 B0_3 => mkSt 65 [1, 3] [.bp 0 0, .v (.int .i64 most3)] [.var 40 [.v (.int .i64 B0_0), .v (.int .i64 B0_1), .v (.int .i64 B0_2), .v (.int .i64 B0_3)]]
 | .p63 B0_0 B0_1 B0_2 B0_3 => mkSt 65 [1] [.bp 0 0] [.var 40 [.v (.int .i64 B0_0), .v (.int .i64 B0_1), .v (.int .i64 B0_2), .v (.int .i64 B0_3)]]
abbrev R_ratchetref31_CodeErr : Type := ((Int × Unit) × Unit)
noncomputable def res_ratchetref31_CodeErr : Res E (Int × Unit) Unit := { rows := [], flat := [], keep := 0, done := [0], rl := (RdL.cons (Rd.int .i64) RdL.nil), rb := RdBL.nil }
noncomputable def run_ratchetref31_CodeErr : P_ratchetref31_CodeErr → Option R_ratchetref31_CodeErr
 | .start c0_0 c0_1 c0_2 c0_3 =>
   (run_ratchetbase_Within (.start c0_0 (0 : Int) (9 : Int))) >>= fun t1 =>
   if (!t1.1.1) = true then
     some (((15 : Int), ()), ())
   else
     (run_ratchetref31_uses (.start c0_0 (112 : Int))) >>= fun t2 =>
     if t2.1.1 = true then
       run_ratchetref31_CodeErr (.p31 (15 : Int) c0_0 c0_1 c0_2 c0_3)
     else
       run_ratchetref31_CodeErr (.p31 (255 : Int) c0_0 c0_1 c0_2 c0_3)
 | .p31 most3 B0_0 B0_1 B0_2 B0_3 =>
   (run_ratchetbase_Within (.start B0_1 (0 : Int) (3 : Int))) >>= fun t1 =>
   if (!t1.1.1) = true then
     some (((2 : Int), ()), ())
   else
     (run_ratchetbase_Within (.start B0_2 (0 : Int) (3 : Int))) >>= fun t2 =>
     if (!t2.1.1) = true then
       some (((2 : Int), ()), ())
     else
       (run_ratchetbase_Within (.start B0_3 (0 : Int) most3)) >>= fun t3 =>
       if (!t3.1.1) = true then
         some (((2 : Int), ()), ())
       else
         run_ratchetref31_CodeErr (.p63 B0_0 B0_1 B0_2 B0_3)
 | .p63 B0_0 B0_1 B0_2 B0_3 =>
   if (B0_1 != (0 : Int)) = true then
     (run_ratchetref31_uses (.start B0_0 (97 : Int))) >>= fun t1 =>
     if (!t1.1.1) = true then
       some (((3 : Int), ()), ())
     else
       if (B0_2 != (0 : Int)) = true then
         (run_ratchetref31_uses (.start B0_0 (98 : Int))) >>= fun t2 =>
         if (!t2.1.1) = true then
           some (((3 : Int), ()), ())
         else
           if (B0_3 != (0 : Int)) = true then
             (run_ratchetref31_uses (.start B0_0 (110 : Int))) >>= fun t3 =>
             if (!t3.1.1) = true then
               (run_ratchetref31_uses (.start B0_0 (112 : Int))) >>= fun t4 =>
               if (!t4.1.1) = true then
                 some (((3 : Int), ()), ())
               else
                 some (((0 : Int), ()), ())
             else
               some (((0 : Int), ()), ())
           else
             some (((0 : Int), ()), ())
       else
         if (B0_3 != (0 : Int)) = true then
           (run_ratchetref31_uses (.start B0_0 (110 : Int))) >>= fun t5 =>
           if (!t5.1.1) = true then
             (run_ratchetref31_uses (.start B0_0 (112 : Int))) >>= fun t6 =>
             if (!t6.1.1) = true then
               some (((3 : Int), ()), ())
             else
               some (((0 : Int), ()), ())
           else
             some (((0 : Int), ()), ())
         else
           some (((0 : Int), ()), ())
   else
     if (B0_2 != (0 : Int)) = true then
       (run_ratchetref31_uses (.start B0_0 (98 : Int))) >>= fun t7 =>
       if (!t7.1.1) = true then
         some (((3 : Int), ()), ())
       else
         if (B0_3 != (0 : Int)) = true then
           (run_ratchetref31_uses (.start B0_0 (110 : Int))) >>= fun t8 =>
           if (!t8.1.1) = true then
             (run_ratchetref31_uses (.start B0_0 (112 : Int))) >>= fun t9 =>
             if (!t9.1.1) = true then
               some (((3 : Int), ()), ())
             else
               some (((0 : Int), ()), ())
           else
             some (((0 : Int), ()), ())
         else
           some (((0 : Int), ()), ())
     else
       if (B0_3 != (0 : Int)) = true then
         (run_ratchetref31_uses (.start B0_0 (110 : Int))) >>= fun t10 =>
         if (!t10.1.1) = true then
           (run_ratchetref31_uses (.start B0_0 (112 : Int))) >>= fun t11 =>
           if (!t11.1.1) = true then
             some (((3 : Int), ()), ())
           else
             some (((0 : Int), ()), ())
         else
           some (((0 : Int), ()), ())
       else
         some (((0 : Int), ()), ())
  partial_fixpoint
noncomputable def tab_ratchetref31_CodeErr : List (Plc E P_ratchetref31_CodeErr) := [⟨31, [true, true, true, true], { slots := [1, 3], rows := [], flat := [], keep := 0 }, (Unit × (Int × Unit)), ((Int × (Int × (Int × (Int × Unit)))) × Unit), (RdL.cons (Rd.bp 0 0) (RdL.cons (Rd.int .i64) RdL.nil)), (RdBL.cons (RdB.var 40 (RdL.cons (Rd.int .i64) (RdL.cons (Rd.int .i64) (RdL.cons (Rd.int .i64) (RdL.cons (Rd.int .i64) RdL.nil))))) RdBL.nil), fun a b => .p31 a.2.1 b.1.1 b.1.2.1 b.1.2.2.1 b.1.2.2.2.1⟩,
  ⟨63, [true, true, true, true, true], { slots := [1], rows := [], flat := [], keep := 0 }, (Unit × Unit), ((Int × (Int × (Int × (Int × Unit)))) × Unit), (RdL.cons (Rd.bp 0 0) RdL.nil), (RdBL.cons (RdB.var 40 (RdL.cons (Rd.int .i64) (RdL.cons (Rd.int .i64) (RdL.cons (Rd.int .i64) (RdL.cons (Rd.int .i64) RdL.nil))))) RdBL.nil), fun a b => .p63 b.1.1 b.1.2.1 b.1.2.2.1 b.1.2.2.2.1⟩]
theorem tab_ratchetref31_CodeErr_ok : All (PlcOk 65 0 place_ratchetref31_CodeErr st_ratchetref31_CodeErr) tab_ratchetref31_CodeErr := ⟨⟨rfl, rfl, fun _ _ => rfl, fun _ _ => rfl⟩, ⟨⟨rfl, rfl, fun _ _ => rfl, fun _ _ => rfl⟩, trivial⟩⟩
noncomputable def code_ratchetref31_CodeErr : Code := Tryz.f25.body.getD .skip
noncomputable def spec_ratchetref31_CodeErr : Spec E.S := (Con.add con_ratchetref31_uses (Con.add con_ratchetbase_Within noSpec))
theorem spec_ratchetref31_CodeErr_ok : SpecOk E spec_ratchetref31_CodeErr := (Con.add_ok con_ratchetref31_uses_ok (Con.add_ok con_ratchetbase_Within_ok noSpec_ok))
theorem good_ratchetref31_CodeErr : ∀ pt r, run_ratchetref31_CodeErr pt = some r → Good E Tryz.f25 code_ratchetref31_CodeErr 0 (res_ratchetref31_CodeErr.av r) (res_ratchetref31_CodeErr.bx r) (place_ratchetref31_CodeErr pt) (st_ratchetref31_CodeErr pt) := by
  refine run_ratchetref31_CodeErr.partial_correctness (fun pt r => Good E Tryz.f25 code_ratchetref31_CodeErr 0 (res_ratchetref31_CodeErr.av r) (res_ratchetref31_CodeErr.bx r) (place_ratchetref31_CodeErr pt) (st_ratchetref31_CodeErr pt)) ?_
  intro run' ih pt r hr
  cases pt <;> exact fn_step (spec := spec_ratchetref31_CodeErr) (wr := (mkWr [] [])) (l := tab_ratchetref31_CodeErr) (z := 65) (p := res_ratchetref31_CodeErr) E_ok tab_ratchetref31_CodeErr_ok.mem rfl spec_ratchetref31_CodeErr_ok ih (Eq.trans (by kernel_rfl) hr)
noncomputable def con_ratchetref31_CodeErr : Con E := ⟨25, ((Int × (Int × (Int × (Int × Unit)))) × Unit), Unit, (RwL.cons (Rw.agg (RwL.cons (Rd.int .i64).w (RwL.cons (Rd.int .i64).w (RwL.cons (Rd.int .i64).w (RwL.cons (Rd.int .i64).w RwL.nil))))) RwL.nil), RdBL.nil, 0, R_ratchetref31_CodeErr, fun a b => run_ratchetref31_CodeErr (.start a.1.1 a.1.2.1 a.1.2.2.1 a.1.2.2.2.1), res_ratchetref31_CodeErr.av, res_ratchetref31_CodeErr.bx⟩
theorem con_ratchetref31_CodeErr_ok : con_ratchetref31_CodeErr.Ok := fun a b r h => fn_ok (fn := Tryz.f25) (code := code_ratchetref31_CodeErr) E_ok (by kernel_rfl) (by kernel_rfl) (by kernel_rfl) (Nat.le_of_ble_eq_true rfl) (good_ratchetref31_CodeErr (.start a.1.1 a.1.2.1 a.1.2.2.1 a.1.2.2.2.1) r h)

/-! ### ratchet/ratchetref31.CheckProgram -/
inductive P_ratchetref31_CheckProgram where
 | start (l0 : (List api_MachineCode))
 | p116 (l0 : (List api_MachineCode)) (i4 : Int)
noncomputable def place_ratchetref31_CheckProgram : P_ratchetref31_CheckProgram → List Bool
 | .start .. => []
 | .p116 .. => [false, false, true, false, true, true]
noncomputable def st_ratchetref31_CheckProgram : P_ratchetref31_CheckProgram → St E.S
 | .start l0 => st0 24 [.sl 40 l0 false] []
 | .p116 l0 i4 => mkSt 24 [0, 4] [.sl 40 l0 false, .v (.int .i64 i4)] []
abbrev R_ratchetref31_CheckProgram : Type := ((Int × (Int × Unit)) × Unit)
noncomputable def res_ratchetref31_CheckProgram : Res E (Int × (Int × Unit)) Unit := { rows := [], flat := [], keep := 0, done := [0, 1], rl := (RdL.cons (Rd.int .i64) (RdL.cons (Rd.int .i64) RdL.nil)), rb := RdBL.nil }
noncomputable def run_ratchetref31_CheckProgram : P_ratchetref31_CheckProgram → Option R_ratchetref31_CheckProgram
 | .start l0 =>
   if (decide ((List.length l0 : Int) > (16 : Int))) = true then
     some (((0 : Int), ((8 : Int), ())), ())
   else
     run_ratchetref31_CheckProgram (.p116 l0 (0 : Int))
 | .p116 l0 i4 =>
   if (decide (i4 < (List.length l0 : Int))) = true then
     (idx l0 i4) >>= fun t1 =>
     (run_ratchetref31_CodeErr (.start t1.Op t1.A t1.B t1.N)) >>= fun t2 =>
     if (t2.1.1 != (0 : Int)) = true then
       some ((i4, (t2.1.1, ())), ())
     else
       run_ratchetref31_CheckProgram (.p116 l0 (IntKind.wrap .i64 (i4 + (1 : Int))))
   else
     some (((0 : Int), ((0 : Int), ())), ())
  partial_fixpoint
noncomputable def tab_ratchetref31_CheckProgram : List (Plc E P_ratchetref31_CheckProgram) := [⟨116, [false, false, true, false, true, true], { slots := [0, 4], rows := [], flat := [], keep := 0 }, ((List api_MachineCode) × (Int × Unit)), Unit, (RdL.cons (Rd.sl 40 false) (RdL.cons (Rd.int .i64) RdL.nil)), RdBL.nil, fun a b => .p116 a.1 a.2.1⟩]
theorem tab_ratchetref31_CheckProgram_ok : All (PlcOk 24 0 place_ratchetref31_CheckProgram st_ratchetref31_CheckProgram) tab_ratchetref31_CheckProgram := ⟨⟨rfl, rfl, fun _ _ => rfl, fun _ _ => rfl⟩, trivial⟩
noncomputable def code_ratchetref31_CheckProgram : Code := Tryz.f23.body.getD .skip
noncomputable def spec_ratchetref31_CheckProgram : Spec E.S := (Con.add con_ratchetref31_CodeErr noSpec)
theorem spec_ratchetref31_CheckProgram_ok : SpecOk E spec_ratchetref31_CheckProgram := (Con.add_ok con_ratchetref31_CodeErr_ok noSpec_ok)
theorem good_ratchetref31_CheckProgram : ∀ pt r, run_ratchetref31_CheckProgram pt = some r → Good E Tryz.f23 code_ratchetref31_CheckProgram 0 (res_ratchetref31_CheckProgram.av r) (res_ratchetref31_CheckProgram.bx r) (place_ratchetref31_CheckProgram pt) (st_ratchetref31_CheckProgram pt) := by
  refine run_ratchetref31_CheckProgram.partial_correctness (fun pt r => Good E Tryz.f23 code_ratchetref31_CheckProgram 0 (res_ratchetref31_CheckProgram.av r) (res_ratchetref31_CheckProgram.bx r) (place_ratchetref31_CheckProgram pt) (st_ratchetref31_CheckProgram pt)) ?_
  intro run' ih pt r hr
  cases pt <;> exact fn_step (spec := spec_ratchetref31_CheckProgram) (wr := (mkWr [] [])) (l := tab_ratchetref31_CheckProgram) (z := 24) (p := res_ratchetref31_CheckProgram) E_ok tab_ratchetref31_CheckProgram_ok.mem rfl spec_ratchetref31_CheckProgram_ok ih (Eq.trans (by kernel_rfl) hr)
noncomputable def con_ratchetref31_CheckProgram : Con E := ⟨23, ((List api_MachineCode) × Unit), Unit, (RwL.cons (Rw.sl 40) RwL.nil), RdBL.nil, 0, R_ratchetref31_CheckProgram, fun a b => run_ratchetref31_CheckProgram (.start a.1), res_ratchetref31_CheckProgram.av, res_ratchetref31_CheckProgram.bx⟩
theorem con_ratchetref31_CheckProgram_ok : con_ratchetref31_CheckProgram.Ok := fun a b r h => fn_ok (fn := Tryz.f23) (code := code_ratchetref31_CheckProgram) E_ok (by kernel_rfl) (by kernel_rfl) (by kernel_rfl) (Nat.le_of_ble_eq_true rfl) (good_ratchetref31_CheckProgram (.start a.1) r h)

/-! ### ratchet/ratchetref31.ProgramErr -/
inductive P_ratchetref31_ProgramErr where
 | start (l0 : (List api_MachineCode))
noncomputable def place_ratchetref31_ProgramErr : P_ratchetref31_ProgramErr → List Bool
 | .start .. => []
noncomputable def st_ratchetref31_ProgramErr : P_ratchetref31_ProgramErr → St E.S
 | .start l0 => st0 11 [.sl 40 l0 false] []
abbrev R_ratchetref31_ProgramErr : Type := ((Int × Unit) × Unit)
noncomputable def res_ratchetref31_ProgramErr : Res E (Int × Unit) Unit := { rows := [], flat := [], keep := 0, done := [0], rl := (RdL.cons (Rd.int .i64) RdL.nil), rb := RdBL.nil }
noncomputable def run_ratchetref31_ProgramErr : P_ratchetref31_ProgramErr → Option R_ratchetref31_ProgramErr
 | .start l0 =>
   (run_ratchetref31_CheckProgram (.start l0)) >>= fun t1 =>
   some ((t1.1.2.1, ()), ())
noncomputable def tab_ratchetref31_ProgramErr : List (Plc E P_ratchetref31_ProgramErr) := []
theorem tab_ratchetref31_ProgramErr_ok : All (PlcOk 11 0 place_ratchetref31_ProgramErr st_ratchetref31_ProgramErr) tab_ratchetref31_ProgramErr := trivial
noncomputable def code_ratchetref31_ProgramErr : Code := Tryz.f16.body.getD .skip
noncomputable def spec_ratchetref31_ProgramErr : Spec E.S := (Con.add con_ratchetref31_CheckProgram noSpec)
theorem spec_ratchetref31_ProgramErr_ok : SpecOk E spec_ratchetref31_ProgramErr := (Con.add_ok con_ratchetref31_CheckProgram_ok noSpec_ok)
theorem good_ratchetref31_ProgramErr : ∀ pt r, run_ratchetref31_ProgramErr pt = some r → Good E Tryz.f16 code_ratchetref31_ProgramErr 0 (res_ratchetref31_ProgramErr.av r) (res_ratchetref31_ProgramErr.bx r) (place_ratchetref31_ProgramErr pt) (st_ratchetref31_ProgramErr pt) := by
  intro pt r hr
  cases pt <;> exact fn_step (spec := spec_ratchetref31_ProgramErr) (wr := (mkWr [] [])) (l := tab_ratchetref31_ProgramErr) (z := 11) (p := res_ratchetref31_ProgramErr) (run' := fun _ => none) E_ok tab_ratchetref31_ProgramErr_ok.mem rfl spec_ratchetref31_ProgramErr_ok (fun _ _ h => by cases h) (Eq.trans (by kernel_rfl) hr)
noncomputable def con_ratchetref31_ProgramErr : Con E := ⟨16, ((List api_MachineCode) × Unit), Unit, (RwL.cons (Rw.sl 40) RwL.nil), RdBL.nil, 0, R_ratchetref31_ProgramErr, fun a b => run_ratchetref31_ProgramErr (.start a.1), res_ratchetref31_ProgramErr.av, res_ratchetref31_ProgramErr.bx⟩
theorem con_ratchetref31_ProgramErr_ok : con_ratchetref31_ProgramErr.Ok := fun a b r h => fn_ok (fn := Tryz.f16) (code := code_ratchetref31_ProgramErr) E_ok (by kernel_rfl) (by kernel_rfl) (by kernel_rfl) (Nat.le_of_ble_eq_true rfl) (good_ratchetref31_ProgramErr (.start a.1) r h)

/-! ### ratchet/ratchetref31.bytesErr -/
inductive P_ratchetref31_bytesErr where
 | start (l0 : (List Int)) (count1 : Int)
 | p116 (l0 : (List Int)) (i5 : Int)
noncomputable def place_ratchetref31_bytesErr : P_ratchetref31_bytesErr → List Bool
 | .start .. => []
 | .p116 .. => [false, false, true, false, true, true]
noncomputable def st_ratchetref31_bytesErr : P_ratchetref31_bytesErr → St E.S
 | .start l0 count1 => st0 22 [.sl 3 l0 false, .v (.int .i64 count1)] []
 | .p116 l0 i5 => mkSt 22 [0, 5] [.sl 3 l0 false, .v (.int .i64 i5)] []
abbrev R_ratchetref31_bytesErr : Type := ((Int × Unit) × Unit)
noncomputable def res_ratchetref31_bytesErr : Res E (Int × Unit) Unit := { rows := [], flat := [], keep := 0, done := [0], rl := (RdL.cons (Rd.int .i64) RdL.nil), rb := RdBL.nil }
noncomputable def run_ratchetref31_bytesErr : P_ratchetref31_bytesErr → Option R_ratchetref31_bytesErr
 | .start l0 count1 =>
   if ((List.length l0 : Int) != count1) = true then
     some (((10 : Int), ()), ())
   else
     run_ratchetref31_bytesErr (.p116 l0 (0 : Int))
 | .p116 l0 i5 =>
   if (decide (i5 < (List.length l0 : Int))) = true then
     (idx l0 i5) >>= fun t1 =>
     (run_ratchetbase_Within (.start t1 (0 : Int) (255 : Int))) >>= fun t2 =>
     if (!t2.1.1) = true then
       some (((2 : Int), ()), ())
     else
       run_ratchetref31_bytesErr (.p116 l0 (IntKind.wrap .i64 (i5 + (1 : Int))))
   else
     some (((0 : Int), ()), ())
  partial_fixpoint
noncomputable def tab_ratchetref31_bytesErr : List (Plc E P_ratchetref31_bytesErr) := [⟨116, [false, false, true, false, true, true], { slots := [0, 5], rows := [], flat := [], keep := 0 }, ((List Int) × (Int × Unit)), Unit, (RdL.cons (Rd.sl 3 false) (RdL.cons (Rd.int .i64) RdL.nil)), RdBL.nil, fun a b => .p116 a.1 a.2.1⟩]
theorem tab_ratchetref31_bytesErr_ok : All (PlcOk 22 0 place_ratchetref31_bytesErr st_ratchetref31_bytesErr) tab_ratchetref31_bytesErr := ⟨⟨rfl, rfl, fun _ _ => rfl, fun _ _ => rfl⟩, trivial⟩
noncomputable def code_ratchetref31_bytesErr : Code := Tryz.f71.body.getD .skip
noncomputable def spec_ratchetref31_bytesErr : Spec E.S := (Con.add con_ratchetbase_Within noSpec)
theorem spec_ratchetref31_bytesErr_ok : SpecOk E spec_ratchetref31_bytesErr := (Con.add_ok con_ratchetbase_Within_ok noSpec_ok)
theorem good_ratchetref31_bytesErr : ∀ pt r, run_ratchetref31_bytesErr pt = some r → Good E Tryz.f71 code_ratchetref31_bytesErr 0 (res_ratchetref31_bytesErr.av r) (res_ratchetref31_bytesErr.bx r) (place_ratchetref31_bytesErr pt) (st_ratchetref31_bytesErr pt) := by
  refine run_ratchetref31_bytesErr.partial_correctness (fun pt r => Good E Tryz.f71 code_ratchetref31_bytesErr 0 (res_ratchetref31_bytesErr.av r) (res_ratchetref31_bytesErr.bx r) (place_ratchetref31_bytesErr pt) (st_ratchetref31_bytesErr pt)) ?_
  intro run' ih pt r hr
  cases pt <;> exact fn_step (spec := spec_ratchetref31_bytesErr) (wr := (mkWr [] [])) (l := tab_ratchetref31_bytesErr) (z := 22) (p := res_ratchetref31_bytesErr) E_ok tab_ratchetref31_bytesErr_ok.mem rfl spec_ratchetref31_bytesErr_ok ih (Eq.trans (by kernel_rfl) hr)
noncomputable def con_ratchetref31_bytesErr : Con E := ⟨71, ((List Int) × (Int × Unit)), Unit, (RwL.cons (Rw.sl 3) (RwL.cons (Rd.int .i64).w RwL.nil)), RdBL.nil, 0, R_ratchetref31_bytesErr, fun a b => run_ratchetref31_bytesErr (.start a.1 a.2.1), res_ratchetref31_bytesErr.av, res_ratchetref31_bytesErr.bx⟩
theorem con_ratchetref31_bytesErr_ok : con_ratchetref31_bytesErr.Ok := fun a b r h => fn_ok (fn := Tryz.f71) (code := code_ratchetref31_bytesErr) E_ok (by kernel_rfl) (by kernel_rfl) (by kernel_rfl) (Nat.le_of_ble_eq_true rfl) (good_ratchetref31_bytesErr (.start a.1 a.2.1) r h)

/-! ### ratchet/ratchetref31.MemoryErr -/
inductive P_ratchetref31_MemoryErr where
 | start (memory0 : (List Int))
noncomputable def place_ratchetref31_MemoryErr : P_ratchetref31_MemoryErr → List Bool
 | .start .. => []
noncomputable def st_ratchetref31_MemoryErr : P_ratchetref31_MemoryErr → St E.S
 | .start memory0 => st0 5 [.sl 3 memory0 false] []
abbrev R_ratchetref31_MemoryErr : Type := ((Int × Unit) × Unit)
noncomputable def res_ratchetref31_MemoryErr : Res E (Int × Unit) Unit := { rows := [], flat := [], keep := 0, done := [0], rl := (RdL.cons (Rd.int .i64) RdL.nil), rb := RdBL.nil }
noncomputable def run_ratchetref31_MemoryErr : P_ratchetref31_MemoryErr → Option R_ratchetref31_MemoryErr
 | .start memory0 =>
   (run_ratchetref31_bytesErr (.start memory0 (8 : Int))) >>= fun t1 =>
   some ((t1.1.1, ()), ())
noncomputable def tab_ratchetref31_MemoryErr : List (Plc E P_ratchetref31_MemoryErr) := []
theorem tab_ratchetref31_MemoryErr_ok : All (PlcOk 5 0 place_ratchetref31_MemoryErr st_ratchetref31_MemoryErr) tab_ratchetref31_MemoryErr := trivial
noncomputable def code_ratchetref31_MemoryErr : Code := Tryz.f17.body.getD .skip
noncomputable def spec_ratchetref31_MemoryErr : Spec E.S := (Con.add con_ratchetref31_bytesErr noSpec)
theorem spec_ratchetref31_MemoryErr_ok : SpecOk E spec_ratchetref31_MemoryErr := (Con.add_ok con_ratchetref31_bytesErr_ok noSpec_ok)
theorem good_ratchetref31_MemoryErr : ∀ pt r, run_ratchetref31_MemoryErr pt = some r → Good E Tryz.f17 code_ratchetref31_MemoryErr 0 (res_ratchetref31_MemoryErr.av r) (res_ratchetref31_MemoryErr.bx r) (place_ratchetref31_MemoryErr pt) (st_ratchetref31_MemoryErr pt) := by
  intro pt r hr
  cases pt <;> exact fn_step (spec := spec_ratchetref31_MemoryErr) (wr := (mkWr [] [])) (l := tab_ratchetref31_MemoryErr) (z := 5) (p := res_ratchetref31_MemoryErr) (run' := fun _ => none) E_ok tab_ratchetref31_MemoryErr_ok.mem rfl spec_ratchetref31_MemoryErr_ok (fun _ _ h => by cases h) (Eq.trans (by kernel_rfl) hr)
noncomputable def con_ratchetref31_MemoryErr : Con E := ⟨17, ((List Int) × Unit), Unit, (RwL.cons (Rw.sl 3) RwL.nil), RdBL.nil, 0, R_ratchetref31_MemoryErr, fun a b => run_ratchetref31_MemoryErr (.start a.1), res_ratchetref31_MemoryErr.av, res_ratchetref31_MemoryErr.bx⟩
theorem con_ratchetref31_MemoryErr_ok : con_ratchetref31_MemoryErr.Ok := fun a b r h => fn_ok (fn := Tryz.f17) (code := code_ratchetref31_MemoryErr) E_ok (by kernel_rfl) (by kernel_rfl) (by kernel_rfl) (Nat.le_of_ble_eq_true rfl) (good_ratchetref31_MemoryErr (.start a.1) r h)

/-! ### ratchet/ratchetbase.Ints -/
inductive P_ratchetbase_Ints where
 | start (a0 : (List Int)) (b1 : (List Int))
 | p116 (a0 : (List Int)) (b1 : (List Int)) (i5 : Int)
noncomputable def place_ratchetbase_Ints : P_ratchetbase_Ints → List Bool
 | .start .. => []
 | .p116 .. => [false, false, true, false, true, true]
noncomputable def st_ratchetbase_Ints : P_ratchetbase_Ints → St E.S
 | .start a0 b1 => st0 26 [.sl 3 a0 false, .sl 3 b1 false] []
 | .p116 a0 b1 i5 => mkSt 26 [0, 1, 5] [.sl 3 a0 false, .sl 3 b1 false, .v (.int .i64 i5)] []
abbrev R_ratchetbase_Ints : Type := ((Bool × Unit) × Unit)
noncomputable def res_ratchetbase_Ints : Res E (Bool × Unit) Unit := { rows := [], flat := [], keep := 0, done := [0], rl := (RdL.cons Rd.bool RdL.nil), rb := RdBL.nil }
noncomputable def run_ratchetbase_Ints : P_ratchetbase_Ints → Option R_ratchetbase_Ints
 | .start a0 b1 =>
   if ((List.length a0 : Int) != (List.length b1 : Int)) = true then
     some ((false, ()), ())
   else
     run_ratchetbase_Ints (.p116 a0 b1 (0 : Int))
 | .p116 a0 b1 i5 =>
   if (decide (i5 < (List.length a0 : Int))) = true then
     (idx a0 i5) >>= fun t1 =>
     (idx b1 i5) >>= fun t2 =>
     if (t1 != t2) = true then
       some ((false, ()), ())
     else
       run_ratchetbase_Ints (.p116 a0 b1 (IntKind.wrap .i64 (i5 + (1 : Int))))
   else
     some ((true, ()), ())
  partial_fixpoint
noncomputable def tab_ratchetbase_Ints : List (Plc E P_ratchetbase_Ints) := [⟨116, [false, false, true, false, true, true], { slots := [0, 1, 5], rows := [], flat := [], keep := 0 }, ((List Int) × ((List Int) × (Int × Unit))), Unit, (RdL.cons (Rd.sl 3 false) (RdL.cons (Rd.sl 3 false) (RdL.cons (Rd.int .i64) RdL.nil))), RdBL.nil, fun a b => .p116 a.1 a.2.1 a.2.2.1⟩]
theorem tab_ratchetbase_Ints_ok : All (PlcOk 26 0 place_ratchetbase_Ints st_ratchetbase_Ints) tab_ratchetbase_Ints := ⟨⟨rfl, rfl, fun _ _ => rfl, fun _ _ => rfl⟩, trivial⟩
noncomputable def code_ratchetbase_Ints : Code := Tryz.f46.body.getD .skip
noncomputable def spec_ratchetbase_Ints : Spec E.S := noSpec
theorem spec_ratchetbase_Ints_ok : SpecOk E spec_ratchetbase_Ints := noSpec_ok
theorem good_ratchetbase_Ints : ∀ pt r, run_ratchetbase_Ints pt = some r → Good E Tryz.f46 code_ratchetbase_Ints 0 (res_ratchetbase_Ints.av r) (res_ratchetbase_Ints.bx r) (place_ratchetbase_Ints pt) (st_ratchetbase_Ints pt) := by
  refine run_ratchetbase_Ints.partial_correctness (fun pt r => Good E Tryz.f46 code_ratchetbase_Ints 0 (res_ratchetbase_Ints.av r) (res_ratchetbase_Ints.bx r) (place_ratchetbase_Ints pt) (st_ratchetbase_Ints pt)) ?_
  intro run' ih pt r hr
  cases pt <;> exact fn_step (spec := spec_ratchetbase_Ints) (wr := (mkWr [] [])) (l := tab_ratchetbase_Ints) (z := 26) (p := res_ratchetbase_Ints) E_ok tab_ratchetbase_Ints_ok.mem rfl spec_ratchetbase_Ints_ok ih (Eq.trans (by kernel_rfl) hr)
noncomputable def con_ratchetbase_Ints : Con E := ⟨46, ((List Int) × ((List Int) × Unit)), Unit, (RwL.cons (Rw.sl 3) (RwL.cons (Rw.sl 3) RwL.nil)), RdBL.nil, 0, R_ratchetbase_Ints, fun a b => run_ratchetbase_Ints (.start a.1 a.2.1), res_ratchetbase_Ints.av, res_ratchetbase_Ints.bx⟩
theorem con_ratchetbase_Ints_ok : con_ratchetbase_Ints.Ok := fun a b r h => fn_ok (fn := Tryz.f46) (code := code_ratchetbase_Ints) E_ok (by kernel_rfl) (by kernel_rfl) (by kernel_rfl) (Nat.le_of_ble_eq_true rfl) (good_ratchetbase_Ints (.start a.1 a.2.1) r h)

/-! ### ratchet/ratchetref31.Same -/
inductive P_ratchetref31_Same where
 | start (a0_0 : Int) (a0_1 : Int) (a0_2 : (List Int)) (a0_3 : (List Int)) (b1_0 : Int) (b1_1 : Int) (b1_2 : (List Int)) (b1_3 : (List Int))
noncomputable def place_ratchetref31_Same : P_ratchetref31_Same → List Bool
 | .start .. => []
noncomputable def st_ratchetref31_Same : P_ratchetref31_Same → St E.S
 | .start a0_0 a0_1 a0_2 a0_3 b1_0 b1_1 b1_2 b1_3 => st0 31 [.agg [.v (.int .i64 a0_0), .v (.int .i64 a0_1), .sl 3 a0_2 false, .sl 3 a0_3 false], .agg [.v (.int .i64 b1_0), .v (.int .i64 b1_1), .sl 3 b1_2 false, .sl 3 b1_3 false]] []
abbrev R_ratchetref31_Same : Type := ((Bool × Unit) × Unit)
noncomputable def res_ratchetref31_Same : Res E (Bool × Unit) Unit := { rows := [], flat := [], keep := 0, done := [0], rl := (RdL.cons Rd.bool RdL.nil), rb := RdBL.nil }
noncomputable def run_ratchetref31_Same : P_ratchetref31_Same → Option R_ratchetref31_Same
 | .start a0_0 a0_1 a0_2 a0_3 b1_0 b1_1 b1_2 b1_3 =>
   if (a0_0 == b1_0) = true then
     if (a0_1 == b1_1) = true then
       (run_ratchetbase_Ints (.start a0_2 b1_2)) >>= fun t1 =>
       if t1.1.1 = true then
         (run_ratchetbase_Ints (.start a0_3 b1_3)) >>= fun t2 =>
         some ((t2.1.1, ()), ())
       else
         some ((false, ()), ())
     else
       some ((false, ()), ())
   else
     some ((false, ()), ())
noncomputable def tab_ratchetref31_Same : List (Plc E P_ratchetref31_Same) := []
theorem tab_ratchetref31_Same_ok : All (PlcOk 31 0 place_ratchetref31_Same st_ratchetref31_Same) tab_ratchetref31_Same := trivial
noncomputable def code_ratchetref31_Same : Code := Tryz.f18.body.getD .skip
noncomputable def spec_ratchetref31_Same : Spec E.S := (Con.add con_ratchetbase_Ints noSpec)
theorem spec_ratchetref31_Same_ok : SpecOk E spec_ratchetref31_Same := (Con.add_ok con_ratchetbase_Ints_ok noSpec_ok)
theorem good_ratchetref31_Same : ∀ pt r, run_ratchetref31_Same pt = some r → Good E Tryz.f18 code_ratchetref31_Same 0 (res_ratchetref31_Same.av r) (res_ratchetref31_Same.bx r) (place_ratchetref31_Same pt) (st_ratchetref31_Same pt) := by
  intro pt r hr
  cases pt <;> exact fn_step (spec := spec_ratchetref31_Same) (wr := (mkWr [] [])) (l := tab_ratchetref31_Same) (z := 31) (p := res_ratchetref31_Same) (run' := fun _ => none) E_ok tab_ratchetref31_Same_ok.mem rfl spec_ratchetref31_Same_ok (fun _ _ h => by cases h) (Eq.trans (by kernel_rfl) hr)
noncomputable def con_ratchetref31_Same : Con E := ⟨18, ((Int × (Int × ((List Int) × ((List Int) × Unit)))) × ((Int × (Int × ((List Int) × ((List Int) × Unit)))) × Unit)), Unit, (RwL.cons (Rw.agg (RwL.cons (Rd.int .i64).w (RwL.cons (Rd.int .i64).w (RwL.cons (Rw.sl 3) (RwL.cons (Rw.sl 3) RwL.nil))))) (RwL.cons (Rw.agg (RwL.cons (Rd.int .i64).w (RwL.cons (Rd.int .i64).w (RwL.cons (Rw.sl 3) (RwL.cons (Rw.sl 3) RwL.nil))))) RwL.nil)), RdBL.nil, 0, R_ratchetref31_Same, fun a b => run_ratchetref31_Same (.start a.1.1 a.1.2.1 a.1.2.2.1 a.1.2.2.2.1 a.2.1.1 a.2.1.2.1 a.2.1.2.2.1 a.2.1.2.2.2.1), res_ratchetref31_Same.av, res_ratchetref31_Same.bx⟩
theorem con_ratchetref31_Same_ok : con_ratchetref31_Same.Ok := fun a b r h => fn_ok (fn := Tryz.f18) (code := code_ratchetref31_Same) E_ok (by kernel_rfl) (by kernel_rfl) (by kernel_rfl) (Nat.le_of_ble_eq_true rfl) (good_ratchetref31_Same (.start a.1.1 a.1.2.1 a.1.2.2.1 a.1.2.2.2.1 a.2.1.1 a.2.1.2.1 a.2.1.2.2.1 a.2.1.2.2.2.1) r h)

/-! ### ratchet/ratchetref31.Beginning -/
inductive P_ratchetref31_Beginning where
 | start (memory0 : (List Int))
noncomputable def place_ratchetref31_Beginning : P_ratchetref31_Beginning → List Bool
 | .start .. => []
noncomputable def st_ratchetref31_Beginning : P_ratchetref31_Beginning → St E.S
 | .start memory0 => st0 7 [.sl 3 memory0 false] []
abbrev R_ratchetref31_Beginning : Type := (((Int × (Int × (Unit × (Unit × Unit)))) × Unit) × ((List Int) × ((List Int) × Unit)))
noncomputable def res_ratchetref31_Beginning : Res E ((Int × (Int × (Unit × (Unit × Unit)))) × Unit) ((List Int) × ((List Int) × Unit)) := { rows := [], flat := [], keep := 0, done := [0], rl := (RdL.cons (Rd.agg (RdL.cons (Rd.int .i64) (RdL.cons (Rd.int .i64) (RdL.cons (Rd.rw 0) (RdL.cons (Rd.rw 1) RdL.nil))))) RdL.nil), rb := (RdBL.cons (RdB.row 3 true) (RdBL.cons (RdB.row 3 true) RdBL.nil)) }
noncomputable def run_ratchetref31_Beginning : P_ratchetref31_Beginning → Option R_ratchetref31_Beginning
 | .start memory0 =>
   if (fitsM (4 : Int) (4 : Int) 8) = true then
     (run_ratchetbase_CopyInts (.start memory0)) >>= fun t1 =>
     some ((((0 : Int), ((0 : Int), ((), ((), ())))), ()), (List.replicate (Int.toNat (4 : Int)) (0 : Int), (t1.2.1, ())))
   else none
noncomputable def tab_ratchetref31_Beginning : List (Plc E P_ratchetref31_Beginning) := []
theorem tab_ratchetref31_Beginning_ok : All (PlcOk 7 0 place_ratchetref31_Beginning st_ratchetref31_Beginning) tab_ratchetref31_Beginning := trivial
noncomputable def code_ratchetref31_Beginning : Code := Tryz.f32.body.getD .skip
noncomputable def spec_ratchetref31_Beginning : Spec E.S := (Con.add con_ratchetbase_CopyInts noSpec)
theorem spec_ratchetref31_Beginning_ok : SpecOk E spec_ratchetref31_Beginning := (Con.add_ok con_ratchetbase_CopyInts_ok noSpec_ok)
theorem good_ratchetref31_Beginning : ∀ pt r, run_ratchetref31_Beginning pt = some r → Good E Tryz.f32 code_ratchetref31_Beginning 0 (res_ratchetref31_Beginning.av r) (res_ratchetref31_Beginning.bx r) (place_ratchetref31_Beginning pt) (st_ratchetref31_Beginning pt) := by
  intro pt r hr
  cases pt <;> exact fn_step (spec := spec_ratchetref31_Beginning) (wr := (mkWr [] [])) (l := tab_ratchetref31_Beginning) (z := 7) (p := res_ratchetref31_Beginning) (run' := fun _ => none) E_ok tab_ratchetref31_Beginning_ok.mem rfl spec_ratchetref31_Beginning_ok (fun _ _ h => by cases h) (Eq.trans (by kernel_rfl) hr)
noncomputable def con_ratchetref31_Beginning : Con E := ⟨32, ((List Int) × Unit), Unit, (RwL.cons (Rw.sl 3) RwL.nil), RdBL.nil, 0, R_ratchetref31_Beginning, fun a b => run_ratchetref31_Beginning (.start a.1), res_ratchetref31_Beginning.av, res_ratchetref31_Beginning.bx⟩
theorem con_ratchetref31_Beginning_ok : con_ratchetref31_Beginning.Ok := fun a b r h => fn_ok (fn := Tryz.f32) (code := code_ratchetref31_Beginning) E_ok (by kernel_rfl) (by kernel_rfl) (by kernel_rfl) (Nat.le_of_ble_eq_true rfl) (good_ratchetref31_Beginning (.start a.1) r h)

/-! ### ratchet/ratchetbase.CopyInts -/
inductive P_ratchetbase_CopyInts_v1 where
 | start (l0 : (List Int))
noncomputable def place_ratchetbase_CopyInts_v1 : P_ratchetbase_CopyInts_v1 → List Bool
 | .start .. => []
noncomputable def st_ratchetbase_CopyInts_v1 : P_ratchetbase_CopyInts_v1 → St E.S
 | .start l0 => st0 6 [.sl 3 l0 false] []
abbrev R_ratchetbase_CopyInts_v1 : Type := ((Unit × Unit) × ((List Int) × Unit))
noncomputable def res_ratchetbase_CopyInts_v1 : Res E (Unit × Unit) ((List Int) × Unit) := { rows := [], flat := [], keep := 0, rl := (RdL.cons (Rd.rw 0) RdL.nil), rb := (RdBL.cons (RdB.row 3 false) RdBL.nil) }
noncomputable def run_ratchetbase_CopyInts_v1 : P_ratchetbase_CopyInts_v1 → Option R_ratchetbase_CopyInts_v1
 | .start l0 =>
   if (fits (List.length ([] : List Int)) (List.length l0) 8) = true then
     some (((), ()), (([] : List Int) ++ l0, ()))
   else none
noncomputable def tab_ratchetbase_CopyInts_v1 : List (Plc E P_ratchetbase_CopyInts_v1) := []
theorem tab_ratchetbase_CopyInts_v1_ok : All (PlcOk 6 0 place_ratchetbase_CopyInts_v1 st_ratchetbase_CopyInts_v1) tab_ratchetbase_CopyInts_v1 := trivial
noncomputable def code_ratchetbase_CopyInts_v1 : Code := Tryz.f15.body.getD .skip
noncomputable def spec_ratchetbase_CopyInts_v1 : Spec E.S := noSpec
theorem spec_ratchetbase_CopyInts_v1_ok : SpecOk E spec_ratchetbase_CopyInts_v1 := noSpec_ok
theorem good_ratchetbase_CopyInts_v1 : ∀ pt r, run_ratchetbase_CopyInts_v1 pt = some r → Good E Tryz.f15 code_ratchetbase_CopyInts_v1 0 (res_ratchetbase_CopyInts_v1.av r) (res_ratchetbase_CopyInts_v1.bx r) (place_ratchetbase_CopyInts_v1 pt) (st_ratchetbase_CopyInts_v1 pt) := by
  intro pt r hr
  cases pt <;> exact fn_step (spec := spec_ratchetbase_CopyInts_v1) (wr := (mkWr [2, 3, 5] [])) (l := tab_ratchetbase_CopyInts_v1) (z := 6) (p := res_ratchetbase_CopyInts_v1) (run' := fun _ => none) E_ok tab_ratchetbase_CopyInts_v1_ok.mem rfl spec_ratchetbase_CopyInts_v1_ok (fun _ _ h => by cases h) (Eq.trans (by kernel_rfl) hr)
noncomputable def con_ratchetbase_CopyInts_v1 : Con E := ⟨15, ((List Int) × Unit), Unit, (RwL.cons (Rw.sl 3) RwL.nil), RdBL.nil, 0, R_ratchetbase_CopyInts_v1, fun a b => run_ratchetbase_CopyInts_v1 (.start a.1), res_ratchetbase_CopyInts_v1.av, res_ratchetbase_CopyInts_v1.bx⟩
theorem con_ratchetbase_CopyInts_v1_ok : con_ratchetbase_CopyInts_v1.Ok := fun a b r h => fn_ok (fn := Tryz.f15) (code := code_ratchetbase_CopyInts_v1) E_ok (by kernel_rfl) (by kernel_rfl) (by kernel_rfl) (Nat.le_of_ble_eq_true rfl) (good_ratchetbase_CopyInts_v1 (.start a.1) r h)

/-! ### ratchet/ratchetref31.Copy -/
inductive P_ratchetref31_Copy where
 | start (s0_0 : Int) (s0_1 : Int) (s0_2 : (List Int)) (s0_3 : (List Int))
noncomputable def place_ratchetref31_Copy : P_ratchetref31_Copy → List Bool
 | .start .. => []
noncomputable def st_ratchetref31_Copy : P_ratchetref31_Copy → St E.S
 | .start s0_0 s0_1 s0_2 s0_3 => st0 14 [.agg [.v (.int .i64 s0_0), .v (.int .i64 s0_1), .sl 3 s0_2 false, .sl 3 s0_3 false]] []
abbrev R_ratchetref31_Copy : Type := (((Int × (Int × (Unit × (Unit × Unit)))) × Unit) × ((List Int) × ((List Int) × Unit)))
noncomputable def res_ratchetref31_Copy : Res E ((Int × (Int × (Unit × (Unit × Unit)))) × Unit) ((List Int) × ((List Int) × Unit)) := { rows := [], flat := [], keep := 0, rl := (RdL.cons (Rd.agg (RdL.cons (Rd.int .i64) (RdL.cons (Rd.int .i64) (RdL.cons (Rd.rw 0) (RdL.cons (Rd.rw 1) RdL.nil))))) RdL.nil), rb := (RdBL.cons (RdB.row 3 false) (RdBL.cons (RdB.row 3 false) RdBL.nil)) }
noncomputable def run_ratchetref31_Copy : P_ratchetref31_Copy → Option R_ratchetref31_Copy
 | .start s0_0 s0_1 s0_2 s0_3 =>
   (run_ratchetbase_CopyInts_v1 (.start s0_2)) >>= fun t1 =>
   (run_ratchetbase_CopyInts_v1 (.start s0_3)) >>= fun t2 =>
   some (((s0_0, (s0_1, ((), ((), ())))), ()), (t1.2.1, (t2.2.1, ())))
noncomputable def tab_ratchetref31_Copy : List (Plc E P_ratchetref31_Copy) := []
theorem tab_ratchetref31_Copy_ok : All (PlcOk 14 0 place_ratchetref31_Copy st_ratchetref31_Copy) tab_ratchetref31_Copy := trivial
noncomputable def code_ratchetref31_Copy : Code := Tryz.f30.body.getD .skip
noncomputable def spec_ratchetref31_Copy : Spec E.S := (Con.add con_ratchetbase_CopyInts_v1 noSpec)
theorem spec_ratchetref31_Copy_ok : SpecOk E spec_ratchetref31_Copy := (Con.add_ok con_ratchetbase_CopyInts_v1_ok noSpec_ok)
theorem good_ratchetref31_Copy : ∀ pt r, run_ratchetref31_Copy pt = some r → Good E Tryz.f30 code_ratchetref31_Copy 0 (res_ratchetref31_Copy.av r) (res_ratchetref31_Copy.bx r) (place_ratchetref31_Copy pt) (st_ratchetref31_Copy pt) := by
  intro pt r hr
  cases pt <;> exact fn_step (spec := spec_ratchetref31_Copy) (wr := (mkWr [2, 4, 6, 9, 12, 13] [])) (l := tab_ratchetref31_Copy) (z := 14) (p := res_ratchetref31_Copy) (run' := fun _ => none) E_ok tab_ratchetref31_Copy_ok.mem rfl spec_ratchetref31_Copy_ok (fun _ _ h => by cases h) (Eq.trans (by kernel_rfl) hr)
noncomputable def con_ratchetref31_Copy : Con E := ⟨30, ((Int × (Int × ((List Int) × ((List Int) × Unit)))) × Unit), Unit, (RwL.cons (Rw.agg (RwL.cons (Rd.int .i64).w (RwL.cons (Rd.int .i64).w (RwL.cons (Rw.sl 3) (RwL.cons (Rw.sl 3) RwL.nil))))) RwL.nil), RdBL.nil, 0, R_ratchetref31_Copy, fun a b => run_ratchetref31_Copy (.start a.1.1 a.1.2.1 a.1.2.2.1 a.1.2.2.2.1), res_ratchetref31_Copy.av, res_ratchetref31_Copy.bx⟩
theorem con_ratchetref31_Copy_ok : con_ratchetref31_Copy.Ok := fun a b r h => fn_ok (fn := Tryz.f30) (code := code_ratchetref31_Copy) E_ok (by kernel_rfl) (by kernel_rfl) (by kernel_rfl) (Nat.le_of_ble_eq_true rfl) (good_ratchetref31_Copy (.start a.1.1 a.1.2.1 a.1.2.2.1 a.1.2.2.2.1) r h)

/-! ### ratchet/ratchetref31.Step -/
inductive P_ratchetref31_Step where
 | start (l0 : (List api_MachineCode)) (s1_0 : Int) (s1_1 : Int) (s1_2 : (List Int)) (s1_3 : (List Int))
 | p63 (B0_0 : Int) (B0_1 : Int) (B0_2 : (List Int)) (B0_3 : (List Int)) (B1_0 : Int) (B1_1 : Int) (B2_0 : Int) (B2_1 : Int) (B3_0 : Int) (B3_1 : Int) (B3_2 : Int) (B3_3 : Int) (B4 : (List Int)) (B5 : (List Int))
noncomputable def place_ratchetref31_Step : P_ratchetref31_Step → List Bool
 | .start .. => []
 | .p63 .. => [true, true, true, true, true]
noncomputable def st_ratchetref31_Step : P_ratchetref31_Step → St E.S
 | .start l0 s1_0 s1_1 s1_2 s1_3 => st0 139 [.sl 40 l0 false, .agg [.v (.int .i64 s1_0), .v (.int .i64 s1_1), .sl 3 s1_2 false, .sl 3 s1_3 false]] []
 | .p63 B0_0 B0_1 B0_2 B0_3 B1_0 B1_1 B2_0 B2_1 B3_0 B3_1 B3_2 B3_3 B4 B5 => mkSt 139 [3, 4, 5, 6] [.bp 0 0, .bp 1 0, .bp 2 0, .bp 3 0] [.var 27 [.v (.int .i64 B0_0), .v (.int .i64 B0_1), .sl 3 B0_2 false, .sl 3 B0_3 false], .var 27 [.v (.int .i64 B1_0), .v (.int .i64 B1_1), .nl, .nl], .var 27 [.v (.int .i64 B2_0), .v (.int .i64 B2_1), .rw 4, .rw 5], .var 40 [.v (.int .i64 B3_0), .v (.int .i64 B3_1), .v (.int .i64 B3_2), .v (.int .i64 B3_3)], .row 3 B4 false, .row 3 B5 false]
abbrev R_ratchetref31_Step : Type := (((Int × (Int × (Unit × (Unit × Unit)))) × Unit) × ((List Int) × ((List Int) × Unit)))
noncomputable def res_ratchetref31_Step : Res E ((Int × (Int × (Unit × (Unit × Unit)))) × Unit) ((List Int) × ((List Int) × Unit)) := { rows := [], flat := [], keep := 0, done := [0], rl := (RdL.cons (Rd.agg (RdL.cons (Rd.int .i64) (RdL.cons (Rd.int .i64) (RdL.cons (Rd.rw 0) (RdL.cons (Rd.rw 1) RdL.nil))))) RdL.nil), rb := (RdBL.cons (RdB.row 3 true) (RdBL.cons (RdB.row 3 true) RdBL.nil)) }
noncomputable def run_ratchetref31_Step : P_ratchetref31_Step → Option R_ratchetref31_Step
 | .start l0 s1_0 s1_1 s1_2 s1_3 =>
   (run_ratchetref31_Copy (.start s1_0 s1_1 s1_2 s1_3)) >>= fun t1 =>
   if (s1_1 == (1 : Int)) = true then
     some (((t1.1.1.1, (t1.1.1.2.1, ((), ((), ())))), ()), (t1.2.1, (t1.2.2.1, ())))
   else
     if (decide (s1_0 < (List.length l0 : Int))) = true then
       (idx l0 s1_0) >>= fun t2 =>
       run_ratchetref31_Step (.p63 s1_0 s1_1 s1_2 s1_3 (0 : Int) (0 : Int) t1.1.1.1 t1.1.1.2.1 t2.Op t2.A t2.B t2.N t1.2.1 t1.2.2.1)
     else
       run_ratchetref31_Step (.p63 s1_0 s1_1 s1_2 s1_3 (0 : Int) (0 : Int) t1.1.1.1 t1.1.1.2.1 (0 : Int) (0 : Int) (0 : Int) (0 : Int) t1.2.1 t1.2.2.1)
 | .p63 B0_0 B0_1 B0_2 B0_3 B1_0 B1_1 B2_0 B2_1 B3_0 B3_1 B3_2 B3_3 B4 B5 =>
   (idx B0_2 B3_1) >>= fun t1 =>
   (idx B0_2 B3_2) >>= fun t2 =>
   if (!((16 : Int) == (0 : Int))) = true then
     if (B3_0 == (0 : Int)) = true then
       some (((B0_0, ((1 : Int), ((), ((), ())))), ()), (B4, (B5, ())))
     else
       if (B3_0 == (1 : Int)) = true then
         if (decide ((0 : Int) ≤ B3_1) && decide (B3_1 < (List.length B4 : Int))) = true then
           (idx B4 B3_1) >>= fun t3 =>
           some (((Int.tmod (IntKind.wrap .i64 (B0_0 + (1 : Int))) (16 : Int), (B2_1, ((), ((), ())))), ()), (List.set B4 (Int.toNat B3_1) B3_3, (B5, ())))
         else none
       else
         if (B3_0 == (2 : Int)) = true then
           if (decide ((0 : Int) ≤ B3_1) && decide (B3_1 < (List.length B4 : Int))) = true then
             (idx B4 B3_1) >>= fun t4 =>
             some (((Int.tmod (IntKind.wrap .i64 (B0_0 + (1 : Int))) (16 : Int), (B2_1, ((), ((), ())))), ()), (List.set B4 (Int.toNat B3_1) t2, (B5, ())))
           else none
         else
           if (B3_0 == (3 : Int)) = true then
             if (!((256 : Int) == (0 : Int))) = true then
               if (decide ((0 : Int) ≤ B3_1) && decide (B3_1 < (List.length B4 : Int))) = true then
                 (idx B4 B3_1) >>= fun t5 =>
                 some (((Int.tmod (IntKind.wrap .i64 (B0_0 + (1 : Int))) (16 : Int), (B2_1, ((), ((), ())))), ()), (List.set B4 (Int.toNat B3_1) (Int.tmod (IntKind.wrap .i64 (t1 + t2)) (256 : Int)), (B5, ())))
               else none
             else none
           else
             if (B3_0 == (4 : Int)) = true then
               if (!((256 : Int) == (0 : Int))) = true then
                 if (decide ((0 : Int) ≤ B3_1) && decide (B3_1 < (List.length B4 : Int))) = true then
                   (idx B4 B3_1) >>= fun t6 =>
                   some (((Int.tmod (IntKind.wrap .i64 (B0_0 + (1 : Int))) (16 : Int), (B2_1, ((), ((), ())))), ()), (List.set B4 (Int.toNat B3_1) (Int.tmod (IntKind.wrap .i64 ((IntKind.wrap .i64 (t1 - t2)) + (256 : Int))) (256 : Int)), (B5, ())))
                 else none
               else none
             else
               if (B3_0 == (5 : Int)) = true then
                 if (decide ((0 : Int) ≤ B3_1) && decide (B3_1 < (List.length B4 : Int))) = true then
                   (idx B4 B3_1) >>= fun t7 =>
                   some (((Int.tmod (IntKind.wrap .i64 (B0_0 + (1 : Int))) (16 : Int), (B2_1, ((), ((), ())))), ()), (List.set B4 (Int.toNat B3_1) (bits .and .i64 t1 t2), (B5, ())))
                 else none
               else
                 if (B3_0 == (6 : Int)) = true then
                   if (!((8 : Int) == (0 : Int))) = true then
                     (idx B0_3 (Int.tmod t2 (8 : Int))) >>= fun t8 =>
                     if (decide ((0 : Int) ≤ B3_1) && decide (B3_1 < (List.length B4 : Int))) = true then
                       (idx B4 B3_1) >>= fun t9 =>
                       some (((Int.tmod (IntKind.wrap .i64 (B0_0 + (1 : Int))) (16 : Int), (B2_1, ((), ((), ())))), ()), (List.set B4 (Int.toNat B3_1) t8, (B5, ())))
                     else none
                   else none
                 else
                   if (B3_0 == (7 : Int)) = true then
                     if (!((8 : Int) == (0 : Int))) = true then
                       if (decide ((0 : Int) ≤ (Int.tmod t2 (8 : Int))) && decide ((Int.tmod t2 (8 : Int)) < (List.length B5 : Int))) = true then
                         (idx B5 (Int.tmod t2 (8 : Int))) >>= fun t10 =>
                         some (((Int.tmod (IntKind.wrap .i64 (B0_0 + (1 : Int))) (16 : Int), (B2_1, ((), ((), ())))), ()), (B4, (List.set B5 (Int.toNat (Int.tmod t2 (8 : Int))) t1, ())))
                       else none
                     else none
                   else
                     if (B3_0 == (8 : Int)) = true then
                       some (((B3_3, (B2_1, ((), ((), ())))), ()), (B4, (B5, ())))
                     else
                       if (B3_0 == (9 : Int)) = true then
                         if (t1 == (0 : Int)) = true then
                           some (((B3_3, (B2_1, ((), ((), ())))), ()), (B4, (B5, ())))
                         else
                           some (((Int.tmod (IntKind.wrap .i64 (B0_0 + (1 : Int))) (16 : Int), (B2_1, ((), ((), ())))), ()), (B4, (B5, ())))
                       else
                         some (((Int.tmod (IntKind.wrap .i64 (B0_0 + (1 : Int))) (16 : Int), (B2_1, ((), ((), ())))), ()), (B4, (B5, ())))
   else none
  partial_fixpoint
noncomputable def tab_ratchetref31_Step : List (Plc E P_ratchetref31_Step) := [⟨63, [true, true, true, true, true], { slots := [3, 4, 5, 6], rows := [], flat := [], keep := 0 }, (Unit × (Unit × (Unit × (Unit × Unit)))), ((Int × (Int × ((List Int) × ((List Int) × Unit)))) × ((Int × (Int × (Unit × (Unit × Unit)))) × ((Int × (Int × (Unit × (Unit × Unit)))) × ((Int × (Int × (Int × (Int × Unit)))) × ((List Int) × ((List Int) × Unit)))))), (RdL.cons (Rd.bp 0 0) (RdL.cons (Rd.bp 1 0) (RdL.cons (Rd.bp 2 0) (RdL.cons (Rd.bp 3 0) RdL.nil)))), (RdBL.cons (RdB.var 27 (RdL.cons (Rd.int .i64) (RdL.cons (Rd.int .i64) (RdL.cons (Rd.sl 3 false) (RdL.cons (Rd.sl 3 false) RdL.nil))))) (RdBL.cons (RdB.var 27 (RdL.cons (Rd.int .i64) (RdL.cons (Rd.int .i64) (RdL.cons Rd.nl (RdL.cons Rd.nl RdL.nil))))) (RdBL.cons (RdB.var 27 (RdL.cons (Rd.int .i64) (RdL.cons (Rd.int .i64) (RdL.cons (Rd.rw 4) (RdL.cons (Rd.rw 5) RdL.nil))))) (RdBL.cons (RdB.var 40 (RdL.cons (Rd.int .i64) (RdL.cons (Rd.int .i64) (RdL.cons (Rd.int .i64) (RdL.cons (Rd.int .i64) RdL.nil))))) (RdBL.cons (RdB.row 3 false) (RdBL.cons (RdB.row 3 false) RdBL.nil)))))), fun a b => .p63 b.1.1 b.1.2.1 b.1.2.2.1 b.1.2.2.2.1 b.2.1.1 b.2.1.2.1 b.2.2.1.1 b.2.2.1.2.1 b.2.2.2.1.1 b.2.2.2.1.2.1 b.2.2.2.1.2.2.1 b.2.2.2.1.2.2.2.1 b.2.2.2.2.1 b.2.2.2.2.2.1⟩]
theorem tab_ratchetref31_Step_ok : All (PlcOk 139 0 place_ratchetref31_Step st_ratchetref31_Step) tab_ratchetref31_Step := ⟨⟨rfl, rfl, fun _ _ => rfl, fun _ _ => rfl⟩, trivial⟩
noncomputable def code_ratchetref31_Step : Code := Tryz.f34.body.getD .skip
noncomputable def spec_ratchetref31_Step : Spec E.S := (Con.add con_ratchetref31_Copy noSpec)
theorem spec_ratchetref31_Step_ok : SpecOk E spec_ratchetref31_Step := (Con.add_ok con_ratchetref31_Copy_ok noSpec_ok)
theorem good_ratchetref31_Step : ∀ pt r, run_ratchetref31_Step pt = some r → Good E Tryz.f34 code_ratchetref31_Step 0 (res_ratchetref31_Step.av r) (res_ratchetref31_Step.bx r) (place_ratchetref31_Step pt) (st_ratchetref31_Step pt) := by
  refine run_ratchetref31_Step.partial_correctness (fun pt r => Good E Tryz.f34 code_ratchetref31_Step 0 (res_ratchetref31_Step.av r) (res_ratchetref31_Step.bx r) (place_ratchetref31_Step pt) (st_ratchetref31_Step pt)) ?_
  intro run' ih pt r hr
  cases pt <;> exact fn_step (spec := spec_ratchetref31_Step) (wr := (mkWr [4, 5, 11, 15, 43, 50, 51, 54, 55, 60, 63, 64, 68, 71, 72, 80, 83, 84, 94, 97, 98, 104, 107, 108, 117, 120, 121, 125, 130, 137, 138] [])) (l := tab_ratchetref31_Step) (z := 139) (p := res_ratchetref31_Step) E_ok tab_ratchetref31_Step_ok.mem rfl spec_ratchetref31_Step_ok ih (Eq.trans (by kernel_rfl) hr)
noncomputable def con_ratchetref31_Step : Con E := ⟨34, ((List api_MachineCode) × ((Int × (Int × ((List Int) × ((List Int) × Unit)))) × Unit)), Unit, (RwL.cons (Rw.sl 40) (RwL.cons (Rw.agg (RwL.cons (Rd.int .i64).w (RwL.cons (Rd.int .i64).w (RwL.cons (Rw.sl 3) (RwL.cons (Rw.sl 3) RwL.nil))))) RwL.nil)), RdBL.nil, 0, R_ratchetref31_Step, fun a b => run_ratchetref31_Step (.start a.1 a.2.1.1 a.2.1.2.1 a.2.1.2.2.1 a.2.1.2.2.2.1), res_ratchetref31_Step.av, res_ratchetref31_Step.bx⟩
theorem con_ratchetref31_Step_ok : con_ratchetref31_Step.Ok := fun a b r h => fn_ok (fn := Tryz.f34) (code := code_ratchetref31_Step) E_ok (by kernel_rfl) (by kernel_rfl) (by kernel_rfl) (Nat.le_of_ble_eq_true rfl) (good_ratchetref31_Step (.start a.1 a.2.1.1 a.2.1.2.1 a.2.1.2.2.1 a.2.1.2.2.2.1) r h)

/-! ### ratchet/ratchetref31.Halt -/
inductive P_ratchetref31_Halt where
 | start (l0 : (List api_MachineCode)) (memory1 : (List Int)) (steps2 : Int)
 | p116 (l0 : (List api_MachineCode)) (steps2 : Int) (n10 : Int) (B0_0 : Int) (B0_1 : Int) (B1_0 : Int) (B1_1 : Int) (B2 : (List Int)) (B3 : (List Int))
noncomputable def place_ratchetref31_Halt : P_ratchetref31_Halt → List Bool
 | .start .. => []
 | .p116 .. => [false, false, true, false, true, true]
noncomputable def st_ratchetref31_Halt : P_ratchetref31_Halt → St E.S
 | .start l0 memory1 steps2 => st0 27 [.sl 40 l0 false, .sl 3 memory1 false, .v (.int .i64 steps2)] []
 | .p116 l0 steps2 n10 B0_0 B0_1 B1_0 B1_1 B2 B3 => mkSt 27 [0, 2, 6, 9, 10] [.sl 40 l0 false, .v (.int .i64 steps2), .bp 0 0, .bp 1 0, .v (.int .i64 n10)] [.var 27 [.v (.int .i64 B0_0), .v (.int .i64 B0_1), .nl, .nl], .var 27 [.v (.int .i64 B1_0), .v (.int .i64 B1_1), .rw 2, .rw 3], .row 3 B2 true, .row 3 B3 true]
abbrev R_ratchetref31_Halt : Type := (((Int × (Int × ((List Int) × ((List Int) × Unit)))) × (Int × (Bool × Unit))) × Unit)
noncomputable def res_ratchetref31_Halt : Res E ((Int × (Int × ((List Int) × ((List Int) × Unit)))) × (Int × (Bool × Unit))) Unit := { rows := [], flat := [], keep := 0, deep := [(false, 0, 2, 3), (false, 0, 3, 3)], done := [0, 1, 2], rl := (RdL.cons (Rd.agg (RdL.cons (Rd.int .i64) (RdL.cons (Rd.int .i64) (RdL.cons (Rd.sl 3 false) (RdL.cons (Rd.sl 3 false) RdL.nil))))) (RdL.cons (Rd.int .i64) (RdL.cons Rd.bool RdL.nil))), rb := RdBL.nil }
noncomputable def run_ratchetref31_Halt : P_ratchetref31_Halt → Option R_ratchetref31_Halt
 | .start l0 memory1 steps2 =>
   (run_ratchetref31_Beginning (.start memory1)) >>= fun t1 =>
   run_ratchetref31_Halt (.p116 l0 steps2 (0 : Int) (0 : Int) (0 : Int) t1.1.1.1 t1.1.1.2.1 t1.2.1 t1.2.2.1)
 | .p116 l0 steps2 n10 B0_0 B0_1 B1_0 B1_1 B2 B3 =>
   if (decide (n10 ≤ steps2)) = true then
     if (B1_1 == (1 : Int)) = true then
       some (((B1_0, (B1_1, (B2, (B3, ())))), (n10, (true, ()))), ())
     else
       (run_ratchetref31_Step (.start l0 B1_0 B1_1 B2 B3)) >>= fun t1 =>
       run_ratchetref31_Halt (.p116 l0 steps2 (IntKind.wrap .i64 (n10 + (1 : Int))) B0_0 B0_1 t1.1.1.1 t1.1.1.2.1 t1.2.1 t1.2.2.1)
   else
     some ((((0 : Int), ((0 : Int), ([], ([], ())))), ((0 : Int), (false, ()))), ())
  partial_fixpoint
noncomputable def tab_ratchetref31_Halt : List (Plc E P_ratchetref31_Halt) := [⟨116, [false, false, true, false, true, true], { slots := [0, 2, 6, 9, 10], rows := [], flat := [], keep := 0 }, ((List api_MachineCode) × (Int × (Unit × (Unit × (Int × Unit))))), ((Int × (Int × (Unit × (Unit × Unit)))) × ((Int × (Int × (Unit × (Unit × Unit)))) × ((List Int) × ((List Int) × Unit)))), (RdL.cons (Rd.sl 40 false) (RdL.cons (Rd.int .i64) (RdL.cons (Rd.bp 0 0) (RdL.cons (Rd.bp 1 0) (RdL.cons (Rd.int .i64) RdL.nil))))), (RdBL.cons (RdB.var 27 (RdL.cons (Rd.int .i64) (RdL.cons (Rd.int .i64) (RdL.cons Rd.nl (RdL.cons Rd.nl RdL.nil))))) (RdBL.cons (RdB.var 27 (RdL.cons (Rd.int .i64) (RdL.cons (Rd.int .i64) (RdL.cons (Rd.rw 2) (RdL.cons (Rd.rw 3) RdL.nil))))) (RdBL.cons (RdB.row 3 true) (RdBL.cons (RdB.row 3 true) RdBL.nil)))), fun a b => .p116 a.1 a.2.1 a.2.2.2.2.1 b.1.1 b.1.2.1 b.2.1.1 b.2.1.2.1 b.2.2.1 b.2.2.2.1⟩]
theorem tab_ratchetref31_Halt_ok : All (PlcOk 27 0 place_ratchetref31_Halt st_ratchetref31_Halt) tab_ratchetref31_Halt := ⟨⟨rfl, rfl, fun _ _ => rfl, fun _ _ => rfl⟩, trivial⟩
noncomputable def code_ratchetref31_Halt : Code := Tryz.f19.body.getD .skip
noncomputable def spec_ratchetref31_Halt : Spec E.S := (Con.add con_ratchetref31_Step (Con.add con_ratchetref31_Beginning noSpec))
theorem spec_ratchetref31_Halt_ok : SpecOk E spec_ratchetref31_Halt := (Con.add_ok con_ratchetref31_Step_ok (Con.add_ok con_ratchetref31_Beginning_ok noSpec_ok))
theorem good_ratchetref31_Halt : ∀ pt r, run_ratchetref31_Halt pt = some r → Good E Tryz.f19 code_ratchetref31_Halt 0 (res_ratchetref31_Halt.av r) (res_ratchetref31_Halt.bx r) (place_ratchetref31_Halt pt) (st_ratchetref31_Halt pt) := by
  refine run_ratchetref31_Halt.partial_correctness (fun pt r => Good E Tryz.f19 code_ratchetref31_Halt 0 (res_ratchetref31_Halt.av r) (res_ratchetref31_Halt.bx r) (place_ratchetref31_Halt pt) (st_ratchetref31_Halt pt)) ?_
  intro run' ih pt r hr
  cases pt <;> exact fn_step (spec := spec_ratchetref31_Halt) (wr := (mkWr [] [])) (l := tab_ratchetref31_Halt) (z := 27) (p := res_ratchetref31_Halt) E_ok tab_ratchetref31_Halt_ok.mem rfl spec_ratchetref31_Halt_ok ih (Eq.trans (by kernel_rfl) hr)
noncomputable def con_ratchetref31_Halt : Con E := ⟨19, ((List api_MachineCode) × ((List Int) × (Int × Unit))), Unit, (RwL.cons (Rw.sl 40) (RwL.cons (Rw.sl 3) (RwL.cons (Rd.int .i64).w RwL.nil))), RdBL.nil, 0, R_ratchetref31_Halt, fun a b => run_ratchetref31_Halt (.start a.1 a.2.1 a.2.2.1), res_ratchetref31_Halt.av, res_ratchetref31_Halt.bx⟩
theorem con_ratchetref31_Halt_ok : con_ratchetref31_Halt.Ok := fun a b r h => fn_ok (fn := Tryz.f19) (code := code_ratchetref31_Halt) E_ok (by kernel_rfl) (by kernel_rfl) (by kernel_rfl) (Nat.le_of_ble_eq_true rfl) (good_ratchetref31_Halt (.start a.1 a.2.1 a.2.2.1) r h)

/-! ### ratchet/ratchetlaw31.MachineHalts -/
inductive P_ratchetlaw31_MachineHalts where
 | start (l0 : (List api_MachineCode)) (memory1 : (List Int)) (steps2 : Int)
 | p15 (l0 : (List api_MachineCode)) (memory1 : (List Int)) (steps2 : Int)
 | p127 (l0 : (List api_MachineCode)) (memory1 : (List Int)) (steps2 : Int) (n8 : Int) (e9 : Int) (d10 : Int) (B0_0 : Int) (B0_1 : Int) (B0_2 : (List Int)) (B0_3 : (List Int))
 | p255 (l0 : (List api_MachineCode)) (memory1 : (List Int)) (steps2 : Int) (n8 : Int) (e9 : Int) (d10 : Int) (B0_0 : Int) (B0_1 : Int) (B0_2 : (List Int)) (B0_3 : (List Int))
noncomputable def place_ratchetlaw31_MachineHalts : P_ratchetlaw31_MachineHalts → List Bool
 | .start .. => []
 | .p15 .. => [true, true, true]
 | .p127 .. => [true, true, true, true, true, true]
 | .p255 .. => [true, true, true, true, true, true, true]
noncomputable def st_ratchetlaw31_MachineHalts : P_ratchetlaw31_MachineHalts → St E.S
 | .start l0 memory1 steps2 => st0 109 [.sl 40 l0 false, .sl 3 memory1 false, .v (.int .i64 steps2)] []
 | .p15 l0 memory1 steps2 => mkSt 109 [0, 1, 2] [.sl 40 l0 false, .sl 3 memory1 false, .v (.int .i64 steps2)] []
 | .p127 l0 memory1 steps2 n8 e9 d10 B0_0 B0_1 B0_2 B0_3 => mkSt 109 [0, 1, 2, 7, 8, 9, 10] [.sl 40 l0 false, .sl 3 memory1 false, .v (.int .i64 steps2), .bp 0 0, .v (.int .i64 n8), .v (.int .i64 e9), .v (.int .i64 d10)] [.var 27 [.v (.int .i64 B0_0), .v (.int .i64 B0_1), .sl 3 B0_2 false, .sl 3 B0_3 false]]
 | .p255 l0 memory1 steps2 n8 e9 d10 B0_0 B0_1 B0_2 B0_3 => mkSt 109 [0, 1, 2, 7, 8, 9, 10] [.sl 40 l0 false, .sl 3 memory1 false, .v (.int .i64 steps2), .bp 0 0, .v (.int .i64 n8), .v (.int .i64 e9), .v (.int .i64 d10)] [.var 27 [.v (.int .i64 B0_0), .v (.int .i64 B0_1), .sl 3 B0_2 false, .sl 3 B0_3 false]]
abbrev R_ratchetlaw31_MachineHalts : Type := ((Bool × Unit) × Unit)
noncomputable def res_ratchetlaw31_MachineHalts : Res E (Bool × Unit) Unit := { rows := [], flat := [], keep := 0, done := [0], rl := (RdL.cons Rd.bool RdL.nil), rb := RdBL.nil }
noncomputable def run_ratchetlaw31_MachineHalts : P_ratchetlaw31_MachineHalts → Option R_ratchetlaw31_MachineHalts
 | .start l0 memory1 steps2 =>
   (some () : Option Unit) >>= fun t1 =>
   if (!true) = true then
     some ((false, ()), ())
   else
     if (decide ((List.length l0 : Int) > (20 : Int))) = true then
       some ((true, ()), ())
     else
       if (decide ((List.length memory1 : Int) > (10 : Int))) = true then
         some ((true, ()), ())
       else
         (run_ratchetref31_StepsErr (.start steps2)) >>= fun t2 =>
         if (t2.1.1 == (0 : Int)) = true then
           if (decide (steps2 > (300 : Int))) = true then
             some ((true, ()), ())
           else
             run_ratchetlaw31_MachineHalts (.p15 l0 memory1 steps2)
         else
           run_ratchetlaw31_MachineHalts (.p15 l0 memory1 steps2)
 | .p15 l0 memory1 steps2 =>
   (run_ratchetref31_CopyProgram (.start l0)) >>= fun t1 =>
   (run_ratchetbase_CopyInts (.start memory1)) >>= fun t2 =>
   (run_machine_HaltOf (.start t1.2.1 t2.2.1 steps2)) >>= fun t3 =>
   (run_ratchetref31_ProgramErr (.start l0)) >>= fun t4 =>
   if (t4.1.1 == (0 : Int)) = true then
     (run_ratchetref31_MemoryErr (.start memory1)) >>= fun t5 =>
     run_ratchetlaw31_MachineHalts (.p127 l0 memory1 steps2 t3.1.2.1 t3.1.2.2.1 t5.1.1 t3.1.1.1 t3.1.1.2.1 t3.1.1.2.2.1 t3.1.1.2.2.2.1)
   else
     run_ratchetlaw31_MachineHalts (.p127 l0 memory1 steps2 t3.1.2.1 t3.1.2.2.1 t4.1.1 t3.1.1.1 t3.1.1.2.1 t3.1.1.2.2.1 t3.1.1.2.2.2.1)
 | .p127 l0 memory1 steps2 n8 e9 d10 B0_0 B0_1 B0_2 B0_3 =>
   if (d10 == (0 : Int)) = true then
     (run_ratchetref31_StepsErr (.start steps2)) >>= fun t1 =>
     run_ratchetlaw31_MachineHalts (.p255 l0 memory1 steps2 n8 e9 t1.1.1 B0_0 B0_1 B0_2 B0_3)
   else
     run_ratchetlaw31_MachineHalts (.p255 l0 memory1 steps2 n8 e9 d10 B0_0 B0_1 B0_2 B0_3)
 | .p255 l0 memory1 steps2 n8 e9 d10 B0_0 B0_1 B0_2 B0_3 =>
   if (d10 != (0 : Int)) = true then
     if (e9 == d10) = true then
       (run_ratchetref31_Same (.start B0_0 B0_1 B0_2 B0_3 (0 : Int) (0 : Int) ([]) ([]))) >>= fun t1 =>
       if t1.1.1 = true then
         some ((n8 == (0 : Int), ()), ())
       else
         some ((false, ()), ())
     else
       some ((false, ()), ())
   else
     (run_ratchetref31_Halt (.start l0 memory1 steps2)) >>= fun t2 =>
     if t2.1.2.2.1 = true then
       if (e9 == (0 : Int)) = true then
         (run_ratchetref31_Same (.start B0_0 B0_1 B0_2 B0_3 t2.1.1.1 t2.1.1.2.1 t2.1.1.2.2.1 t2.1.1.2.2.2.1)) >>= fun t3 =>
         if t3.1.1 = true then
           if (n8 == t2.1.2.1) = true then
             some ((true, ()), ())
           else
             if (!t2.1.2.2.1) = true then
               if (e9 == (28 : Int)) = true then
                 (run_ratchetref31_Same (.start B0_0 B0_1 B0_2 B0_3 (0 : Int) (0 : Int) ([]) ([]))) >>= fun t4 =>
                 if t4.1.1 = true then
                   some ((n8 == (0 : Int), ()), ())
                 else
                   some ((false, ()), ())
               else
                 some ((false, ()), ())
             else
               some ((false, ()), ())
         else
           if (!t2.1.2.2.1) = true then
             if (e9 == (28 : Int)) = true then
               (run_ratchetref31_Same (.start B0_0 B0_1 B0_2 B0_3 (0 : Int) (0 : Int) ([]) ([]))) >>= fun t5 =>
               if t5.1.1 = true then
                 some ((n8 == (0 : Int), ()), ())
               else
                 some ((false, ()), ())
             else
               some ((false, ()), ())
           else
             some ((false, ()), ())
       else
         if (!t2.1.2.2.1) = true then
           if (e9 == (28 : Int)) = true then
             (run_ratchetref31_Same (.start B0_0 B0_1 B0_2 B0_3 (0 : Int) (0 : Int) ([]) ([]))) >>= fun t6 =>
             if t6.1.1 = true then
               some ((n8 == (0 : Int), ()), ())
             else
               some ((false, ()), ())
           else
             some ((false, ()), ())
         else
           some ((false, ()), ())
     else
       if (!t2.1.2.2.1) = true then
         if (e9 == (28 : Int)) = true then
           (run_ratchetref31_Same (.start B0_0 B0_1 B0_2 B0_3 (0 : Int) (0 : Int) ([]) ([]))) >>= fun t7 =>
           if t7.1.1 = true then
             some ((n8 == (0 : Int), ()), ())
           else
             some ((false, ()), ())
         else
           some ((false, ()), ())
       else
         some ((false, ()), ())
  partial_fixpoint
noncomputable def tab_ratchetlaw31_MachineHalts : List (Plc E P_ratchetlaw31_MachineHalts) := [⟨15, [true, true, true], { slots := [0, 1, 2], rows := [], flat := [], keep := 0 }, ((List api_MachineCode) × ((List Int) × (Int × Unit))), Unit, (RdL.cons (Rd.sl 40 false) (RdL.cons (Rd.sl 3 false) (RdL.cons (Rd.int .i64) RdL.nil))), RdBL.nil, fun a b => .p15 a.1 a.2.1 a.2.2.1⟩,
  ⟨127, [true, true, true, true, true, true], { slots := [0, 1, 2, 7, 8, 9, 10], rows := [], flat := [], keep := 0 }, ((List api_MachineCode) × ((List Int) × (Int × (Unit × (Int × (Int × (Int × Unit))))))), ((Int × (Int × ((List Int) × ((List Int) × Unit)))) × Unit), (RdL.cons (Rd.sl 40 false) (RdL.cons (Rd.sl 3 false) (RdL.cons (Rd.int .i64) (RdL.cons (Rd.bp 0 0) (RdL.cons (Rd.int .i64) (RdL.cons (Rd.int .i64) (RdL.cons (Rd.int .i64) RdL.nil))))))), (RdBL.cons (RdB.var 27 (RdL.cons (Rd.int .i64) (RdL.cons (Rd.int .i64) (RdL.cons (Rd.sl 3 false) (RdL.cons (Rd.sl 3 false) RdL.nil))))) RdBL.nil), fun a b => .p127 a.1 a.2.1 a.2.2.1 a.2.2.2.2.1 a.2.2.2.2.2.1 a.2.2.2.2.2.2.1 b.1.1 b.1.2.1 b.1.2.2.1 b.1.2.2.2.1⟩,
  ⟨255, [true, true, true, true, true, true, true], { slots := [0, 1, 2, 7, 8, 9, 10], rows := [], flat := [], keep := 0 }, ((List api_MachineCode) × ((List Int) × (Int × (Unit × (Int × (Int × (Int × Unit))))))), ((Int × (Int × ((List Int) × ((List Int) × Unit)))) × Unit), (RdL.cons (Rd.sl 40 false) (RdL.cons (Rd.sl 3 false) (RdL.cons (Rd.int .i64) (RdL.cons (Rd.bp 0 0) (RdL.cons (Rd.int .i64) (RdL.cons (Rd.int .i64) (RdL.cons (Rd.int .i64) RdL.nil))))))), (RdBL.cons (RdB.var 27 (RdL.cons (Rd.int .i64) (RdL.cons (Rd.int .i64) (RdL.cons (Rd.sl 3 false) (RdL.cons (Rd.sl 3 false) RdL.nil))))) RdBL.nil), fun a b => .p255 a.1 a.2.1 a.2.2.1 a.2.2.2.2.1 a.2.2.2.2.2.1 a.2.2.2.2.2.2.1 b.1.1 b.1.2.1 b.1.2.2.1 b.1.2.2.2.1⟩]
theorem tab_ratchetlaw31_MachineHalts_ok : All (PlcOk 109 0 place_ratchetlaw31_MachineHalts st_ratchetlaw31_MachineHalts) tab_ratchetlaw31_MachineHalts := ⟨⟨rfl, rfl, fun _ _ => rfl, fun _ _ => rfl⟩, ⟨⟨rfl, rfl, fun _ _ => rfl, fun _ _ => rfl⟩, ⟨⟨rfl, rfl, fun _ _ => rfl, fun _ _ => rfl⟩, trivial⟩⟩⟩
noncomputable def code_ratchetlaw31_MachineHalts : Code := Tryz.f3.body.getD .skip
noncomputable def spec_ratchetlaw31_MachineHalts : Spec E.S := (Con.add con_ratchetref31_Halt (Con.add con_ratchetref31_Same (Con.add con_ratchetref31_MemoryErr (Con.add con_ratchetref31_ProgramErr (Con.add con_machine_HaltOf (Con.add con_ratchetbase_CopyInts (Con.add con_ratchetref31_CopyProgram (Con.add con_ratchetref31_StepsErr (Con.add con_ratchetlaw31_awake noSpec)))))))))
theorem spec_ratchetlaw31_MachineHalts_ok : SpecOk E spec_ratchetlaw31_MachineHalts := (Con.add_ok con_ratchetref31_Halt_ok (Con.add_ok con_ratchetref31_Same_ok (Con.add_ok con_ratchetref31_MemoryErr_ok (Con.add_ok con_ratchetref31_ProgramErr_ok (Con.add_ok con_machine_HaltOf_ok (Con.add_ok con_ratchetbase_CopyInts_ok (Con.add_ok con_ratchetref31_CopyProgram_ok (Con.add_ok con_ratchetref31_StepsErr_ok (Con.add_ok con_ratchetlaw31_awake_ok noSpec_ok)))))))))
theorem good_ratchetlaw31_MachineHalts : ∀ pt r, run_ratchetlaw31_MachineHalts pt = some r → Good E Tryz.f3 code_ratchetlaw31_MachineHalts 0 (res_ratchetlaw31_MachineHalts.av r) (res_ratchetlaw31_MachineHalts.bx r) (place_ratchetlaw31_MachineHalts pt) (st_ratchetlaw31_MachineHalts pt) := by
  refine run_ratchetlaw31_MachineHalts.partial_correctness (fun pt r => Good E Tryz.f3 code_ratchetlaw31_MachineHalts 0 (res_ratchetlaw31_MachineHalts.av r) (res_ratchetlaw31_MachineHalts.bx r) (place_ratchetlaw31_MachineHalts pt) (st_ratchetlaw31_MachineHalts pt)) ?_
  intro run' ih pt r hr
  cases pt <;> exact fn_step (spec := spec_ratchetlaw31_MachineHalts) (wr := (mkWr [] [])) (l := tab_ratchetlaw31_MachineHalts) (z := 109) (p := res_ratchetlaw31_MachineHalts) E_ok tab_ratchetlaw31_MachineHalts_ok.mem rfl spec_ratchetlaw31_MachineHalts_ok ih (Eq.trans (by kernel_rfl) hr)
noncomputable def con_ratchetlaw31_MachineHalts : Con E := ⟨3, ((List api_MachineCode) × ((List Int) × (Int × Unit))), Unit, (RwL.cons (Rw.sl 40) (RwL.cons (Rw.sl 3) (RwL.cons (Rd.int .i64).w RwL.nil))), RdBL.nil, 0, R_ratchetlaw31_MachineHalts, fun a b => run_ratchetlaw31_MachineHalts (.start a.1 a.2.1 a.2.2.1), res_ratchetlaw31_MachineHalts.av, res_ratchetlaw31_MachineHalts.bx⟩
theorem con_ratchetlaw31_MachineHalts_ok : con_ratchetlaw31_MachineHalts.Ok := fun a b r h => fn_ok (fn := Tryz.f3) (code := code_ratchetlaw31_MachineHalts) E_ok (by kernel_rfl) (by kernel_rfl) (by kernel_rfl) (Nat.le_of_ble_eq_true rfl) (good_ratchetlaw31_MachineHalts (.start a.1 a.2.1 a.2.2.1) r h)

/-! ### ratchet/machine.wordOf -/
inductive P_machine_wordOf where
 | start (c0_0 : Int) (c0_1 : Int) (c0_2 : Int) (c0_3 : Int)
noncomputable def place_machine_wordOf : P_machine_wordOf → List Bool
 | .start .. => []
noncomputable def st_machine_wordOf : P_machine_wordOf → St E.S
 | .start c0_0 c0_1 c0_2 c0_3 => st0 17 [.agg [.v (.int .i64 c0_0), .v (.int .i64 c0_1), .v (.int .i64 c0_2), .v (.int .i64 c0_3)]] []
abbrev R_machine_wordOf : Type := ((Int × Unit) × Unit)
noncomputable def res_machine_wordOf : Res E (Int × Unit) Unit := { rows := [], flat := [], keep := 0, done := [0], rl := (RdL.cons (Rd.int .i64) RdL.nil), rb := RdBL.nil }
noncomputable def run_machine_wordOf : P_machine_wordOf → Option R_machine_wordOf
 | .start c0_0 c0_1 c0_2 c0_3 =>
   if (decide ((0 : Int) ≤ (12 : Int))) = true then
     if (decide ((0 : Int) ≤ (10 : Int))) = true then
       if (decide ((0 : Int) ≤ (8 : Int))) = true then
         some ((bits .or .i64 (bits .or .i64 (bits .or .i64 (shl .i64 c0_0 (12 : Int)) (shl .i64 c0_1 (10 : Int))) (shl .i64 c0_2 (8 : Int))) c0_3, ()), ())
       else none
     else none
   else none
noncomputable def tab_machine_wordOf : List (Plc E P_machine_wordOf) := []
theorem tab_machine_wordOf_ok : All (PlcOk 17 0 place_machine_wordOf st_machine_wordOf) tab_machine_wordOf := trivial
noncomputable def code_machine_wordOf : Code := Tryz.f74.body.getD .skip
noncomputable def spec_machine_wordOf : Spec E.S := noSpec
theorem spec_machine_wordOf_ok : SpecOk E spec_machine_wordOf := noSpec_ok
theorem good_machine_wordOf : ∀ pt r, run_machine_wordOf pt = some r → Good E Tryz.f74 code_machine_wordOf 0 (res_machine_wordOf.av r) (res_machine_wordOf.bx r) (place_machine_wordOf pt) (st_machine_wordOf pt) := by
  intro pt r hr
  cases pt <;> exact fn_step (spec := spec_machine_wordOf) (wr := (mkWr [] [])) (l := tab_machine_wordOf) (z := 17) (p := res_machine_wordOf) (run' := fun _ => none) E_ok tab_machine_wordOf_ok.mem rfl spec_machine_wordOf_ok (fun _ _ h => by cases h) (Eq.trans (by kernel_rfl) hr)
noncomputable def con_machine_wordOf : Con E := ⟨74, ((Int × (Int × (Int × (Int × Unit)))) × Unit), Unit, (RwL.cons (Rw.agg (RwL.cons (Rd.int .i64).w (RwL.cons (Rd.int .i64).w (RwL.cons (Rd.int .i64).w (RwL.cons (Rd.int .i64).w RwL.nil))))) RwL.nil), RdBL.nil, 0, R_machine_wordOf, fun a b => run_machine_wordOf (.start a.1.1 a.1.2.1 a.1.2.2.1 a.1.2.2.2.1), res_machine_wordOf.av, res_machine_wordOf.bx⟩
theorem con_machine_wordOf_ok : con_machine_wordOf.Ok := fun a b r h => fn_ok (fn := Tryz.f74) (code := code_machine_wordOf) E_ok (by kernel_rfl) (by kernel_rfl) (by kernel_rfl) (Nat.le_of_ble_eq_true rfl) (good_machine_wordOf (.start a.1.1 a.1.2.1 a.1.2.2.1 a.1.2.2.2.1) r h)

/-! ### ratchet/machine.WordOf -/
inductive P_machine_WordOf where
 | start (c0_0 : Int) (c0_1 : Int) (c0_2 : Int) (c0_3 : Int)
noncomputable def place_machine_WordOf : P_machine_WordOf → List Bool
 | .start .. => []
noncomputable def st_machine_WordOf : P_machine_WordOf → St E.S
 | .start c0_0 c0_1 c0_2 c0_3 => st0 12 [.agg [.v (.int .i64 c0_0), .v (.int .i64 c0_1), .v (.int .i64 c0_2), .v (.int .i64 c0_3)]] []
abbrev R_machine_WordOf : Type := ((Int × (Int × Unit)) × Unit)
noncomputable def res_machine_WordOf : Res E (Int × (Int × Unit)) Unit := { rows := [], flat := [], keep := 0, done := [0, 1], rl := (RdL.cons (Rd.int .i64) (RdL.cons (Rd.int .i64) RdL.nil)), rb := RdBL.nil }
noncomputable def run_machine_WordOf : P_machine_WordOf → Option R_machine_WordOf
 | .start c0_0 c0_1 c0_2 c0_3 =>
   (run_machine_codeErr (.start (0 : Int) c0_0 c0_1 c0_2 c0_3)) >>= fun t1 =>
   if (t1.1.1 != (0 : Int)) = true then
     some (((0 : Int), (t1.1.1, ())), ())
   else
     (run_machine_wordOf (.start c0_0 c0_1 c0_2 c0_3)) >>= fun t2 =>
     some ((t2.1.1, ((0 : Int), ())), ())
noncomputable def tab_machine_WordOf : List (Plc E P_machine_WordOf) := []
theorem tab_machine_WordOf_ok : All (PlcOk 12 0 place_machine_WordOf st_machine_WordOf) tab_machine_WordOf := trivial
noncomputable def code_machine_WordOf : Code := Tryz.f21.body.getD .skip
noncomputable def spec_machine_WordOf : Spec E.S := (Con.add con_machine_wordOf (Con.add con_machine_codeErr noSpec))
theorem spec_machine_WordOf_ok : SpecOk E spec_machine_WordOf := (Con.add_ok con_machine_wordOf_ok (Con.add_ok con_machine_codeErr_ok noSpec_ok))
theorem good_machine_WordOf : ∀ pt r, run_machine_WordOf pt = some r → Good E Tryz.f21 code_machine_WordOf 0 (res_machine_WordOf.av r) (res_machine_WordOf.bx r) (place_machine_WordOf pt) (st_machine_WordOf pt) := by
  intro pt r hr
  cases pt <;> exact fn_step (spec := spec_machine_WordOf) (wr := (mkWr [] [])) (l := tab_machine_WordOf) (z := 12) (p := res_machine_WordOf) (run' := fun _ => none) E_ok tab_machine_WordOf_ok.mem rfl spec_machine_WordOf_ok (fun _ _ h => by cases h) (Eq.trans (by kernel_rfl) hr)
noncomputable def con_machine_WordOf : Con E := ⟨21, ((Int × (Int × (Int × (Int × Unit)))) × Unit), Unit, (RwL.cons (Rw.agg (RwL.cons (Rd.int .i64).w (RwL.cons (Rd.int .i64).w (RwL.cons (Rd.int .i64).w (RwL.cons (Rd.int .i64).w RwL.nil))))) RwL.nil), RdBL.nil, 0, R_machine_WordOf, fun a b => run_machine_WordOf (.start a.1.1 a.1.2.1 a.1.2.2.1 a.1.2.2.2.1), res_machine_WordOf.av, res_machine_WordOf.bx⟩
theorem con_machine_WordOf_ok : con_machine_WordOf.Ok := fun a b r h => fn_ok (fn := Tryz.f21) (code := code_machine_WordOf) E_ok (by kernel_rfl) (by kernel_rfl) (by kernel_rfl) (Nat.le_of_ble_eq_true rfl) (good_machine_WordOf (.start a.1.1 a.1.2.1 a.1.2.2.1 a.1.2.2.2.1) r h)

/-! ### ratchet/machine.CodeOf -/
inductive P_machine_CodeOf where
 | start (word0 : Int)
noncomputable def place_machine_CodeOf : P_machine_CodeOf → List Bool
 | .start .. => []
noncomputable def st_machine_CodeOf : P_machine_CodeOf → St E.S
 | .start word0 => st0 28 [.v (.int .i64 word0)] []
abbrev R_machine_CodeOf : Type := (((Int × (Int × (Int × (Int × Unit)))) × (Int × Unit)) × Unit)
noncomputable def res_machine_CodeOf : Res E ((Int × (Int × (Int × (Int × Unit)))) × (Int × Unit)) Unit := { rows := [], flat := [], keep := 0, done := [0, 1], rl := (RdL.cons (Rd.agg (RdL.cons (Rd.int .i64) (RdL.cons (Rd.int .i64) (RdL.cons (Rd.int .i64) (RdL.cons (Rd.int .i64) RdL.nil))))) (RdL.cons (Rd.int .i64) RdL.nil)), rb := RdBL.nil }
noncomputable def run_machine_CodeOf : P_machine_CodeOf → Option R_machine_CodeOf
 | .start word0 =>
   (run_machine_within (.start word0 (0 : Int) (65535 : Int))) >>= fun t1 =>
   if (!t1.1.1) = true then
     some ((((0 : Int), ((0 : Int), ((0 : Int), ((0 : Int), ())))), ((2 : Int), ())), ())
   else
     if (decide ((0 : Int) ≤ (12 : Int))) = true then
       if (decide ((0 : Int) ≤ (10 : Int))) = true then
         if (decide ((0 : Int) ≤ (8 : Int))) = true then
           (run_machine_codeErr (.start (0 : Int) (shr .i64 word0 (12 : Int)) (bits .and .i64 (shr .i64 word0 (10 : Int)) (3 : Int)) (bits .and .i64 (shr .i64 word0 (8 : Int)) (3 : Int)) (bits .and .i64 word0 (255 : Int)))) >>= fun t2 =>
           if (t2.1.1 != (0 : Int)) = true then
             some ((((0 : Int), ((0 : Int), ((0 : Int), ((0 : Int), ())))), (t2.1.1, ())), ())
           else
             some (((shr .i64 word0 (12 : Int), (bits .and .i64 (shr .i64 word0 (10 : Int)) (3 : Int), (bits .and .i64 (shr .i64 word0 (8 : Int)) (3 : Int), (bits .and .i64 word0 (255 : Int), ())))), ((0 : Int), ())), ())
         else none
       else none
     else none
noncomputable def tab_machine_CodeOf : List (Plc E P_machine_CodeOf) := []
theorem tab_machine_CodeOf_ok : All (PlcOk 28 0 place_machine_CodeOf st_machine_CodeOf) tab_machine_CodeOf := trivial
noncomputable def code_machine_CodeOf : Code := Tryz.f22.body.getD .skip
noncomputable def spec_machine_CodeOf : Spec E.S := (Con.add con_machine_codeErr (Con.add con_machine_within noSpec))
theorem spec_machine_CodeOf_ok : SpecOk E spec_machine_CodeOf := (Con.add_ok con_machine_codeErr_ok (Con.add_ok con_machine_within_ok noSpec_ok))
theorem good_machine_CodeOf : ∀ pt r, run_machine_CodeOf pt = some r → Good E Tryz.f22 code_machine_CodeOf 0 (res_machine_CodeOf.av r) (res_machine_CodeOf.bx r) (place_machine_CodeOf pt) (st_machine_CodeOf pt) := by
  intro pt r hr
  cases pt <;> exact fn_step (spec := spec_machine_CodeOf) (wr := (mkWr [] [])) (l := tab_machine_CodeOf) (z := 28) (p := res_machine_CodeOf) (run' := fun _ => none) E_ok tab_machine_CodeOf_ok.mem rfl spec_machine_CodeOf_ok (fun _ _ h => by cases h) (Eq.trans (by kernel_rfl) hr)
noncomputable def con_machine_CodeOf : Con E := ⟨22, (Int × Unit), Unit, (RwL.cons (Rd.int .i64).w RwL.nil), RdBL.nil, 0, R_machine_CodeOf, fun a b => run_machine_CodeOf (.start a.1), res_machine_CodeOf.av, res_machine_CodeOf.bx⟩
theorem con_machine_CodeOf_ok : con_machine_CodeOf.Ok := fun a b r h => fn_ok (fn := Tryz.f22) (code := code_machine_CodeOf) E_ok (by kernel_rfl) (by kernel_rfl) (by kernel_rfl) (Nat.le_of_ble_eq_true rfl) (good_machine_CodeOf (.start a.1) r h)

/-! ### ratchet/ratchetref31.Code -/
inductive P_ratchetref31_Code where
 | start (word0 : Int)
noncomputable def place_ratchetref31_Code : P_ratchetref31_Code → List Bool
 | .start .. => []
noncomputable def st_ratchetref31_Code : P_ratchetref31_Code → St E.S
 | .start word0 => st0 28 [.v (.int .i64 word0)] []
abbrev R_ratchetref31_Code : Type := (((Int × (Int × (Int × (Int × Unit)))) × (Int × Unit)) × Unit)
noncomputable def res_ratchetref31_Code : Res E ((Int × (Int × (Int × (Int × Unit)))) × (Int × Unit)) Unit := { rows := [], flat := [], keep := 0, done := [0, 1], rl := (RdL.cons (Rd.agg (RdL.cons (Rd.int .i64) (RdL.cons (Rd.int .i64) (RdL.cons (Rd.int .i64) (RdL.cons (Rd.int .i64) RdL.nil))))) (RdL.cons (Rd.int .i64) RdL.nil)), rb := RdBL.nil }
noncomputable def run_ratchetref31_Code : P_ratchetref31_Code → Option R_ratchetref31_Code
 | .start word0 =>
   (run_ratchetbase_Within (.start word0 (0 : Int) (65535 : Int))) >>= fun t1 =>
   if (!t1.1.1) = true then
     some ((((0 : Int), ((0 : Int), ((0 : Int), ((0 : Int), ())))), ((2 : Int), ())), ())
   else
     if (!((4096 : Int) == (0 : Int))) = true then
       if (!((1024 : Int) == (0 : Int))) = true then
         if (!((4 : Int) == (0 : Int))) = true then
           if (!((256 : Int) == (0 : Int))) = true then
             if (!((4 : Int) == (0 : Int))) = true then
               if (!((256 : Int) == (0 : Int))) = true then
                 (run_ratchetref31_CodeErr (.start (IntKind.wrap .i64 (Int.tdiv word0 (4096 : Int))) (Int.tmod (IntKind.wrap .i64 (Int.tdiv word0 (1024 : Int))) (4 : Int)) (Int.tmod (IntKind.wrap .i64 (Int.tdiv word0 (256 : Int))) (4 : Int)) (Int.tmod word0 (256 : Int)))) >>= fun t2 =>
                 if (t2.1.1 != (0 : Int)) = true then
                   some ((((0 : Int), ((0 : Int), ((0 : Int), ((0 : Int), ())))), (t2.1.1, ())), ())
                 else
                   some (((IntKind.wrap .i64 (Int.tdiv word0 (4096 : Int)), (Int.tmod (IntKind.wrap .i64 (Int.tdiv word0 (1024 : Int))) (4 : Int), (Int.tmod (IntKind.wrap .i64 (Int.tdiv word0 (256 : Int))) (4 : Int), (Int.tmod word0 (256 : Int), ())))), ((0 : Int), ())), ())
               else none
             else none
           else none
         else none
       else none
     else none
noncomputable def tab_ratchetref31_Code : List (Plc E P_ratchetref31_Code) := []
theorem tab_ratchetref31_Code_ok : All (PlcOk 28 0 place_ratchetref31_Code st_ratchetref31_Code) tab_ratchetref31_Code := trivial
noncomputable def code_ratchetref31_Code : Code := Tryz.f24.body.getD .skip
noncomputable def spec_ratchetref31_Code : Spec E.S := (Con.add con_ratchetref31_CodeErr (Con.add con_ratchetbase_Within noSpec))
theorem spec_ratchetref31_Code_ok : SpecOk E spec_ratchetref31_Code := (Con.add_ok con_ratchetref31_CodeErr_ok (Con.add_ok con_ratchetbase_Within_ok noSpec_ok))
theorem good_ratchetref31_Code : ∀ pt r, run_ratchetref31_Code pt = some r → Good E Tryz.f24 code_ratchetref31_Code 0 (res_ratchetref31_Code.av r) (res_ratchetref31_Code.bx r) (place_ratchetref31_Code pt) (st_ratchetref31_Code pt) := by
  intro pt r hr
  cases pt <;> exact fn_step (spec := spec_ratchetref31_Code) (wr := (mkWr [] [])) (l := tab_ratchetref31_Code) (z := 28) (p := res_ratchetref31_Code) (run' := fun _ => none) E_ok tab_ratchetref31_Code_ok.mem rfl spec_ratchetref31_Code_ok (fun _ _ h => by cases h) (Eq.trans (by kernel_rfl) hr)
noncomputable def con_ratchetref31_Code : Con E := ⟨24, (Int × Unit), Unit, (RwL.cons (Rd.int .i64).w RwL.nil), RdBL.nil, 0, R_ratchetref31_Code, fun a b => run_ratchetref31_Code (.start a.1), res_ratchetref31_Code.av, res_ratchetref31_Code.bx⟩
theorem con_ratchetref31_Code_ok : con_ratchetref31_Code.Ok := fun a b r h => fn_ok (fn := Tryz.f24) (code := code_ratchetref31_Code) E_ok (by kernel_rfl) (by kernel_rfl) (by kernel_rfl) (Nat.le_of_ble_eq_true rfl) (good_ratchetref31_Code (.start a.1) r h)

/-! ### ratchet/ratchetref31.Word -/
inductive P_ratchetref31_Word where
 | start (c0_0 : Int) (c0_1 : Int) (c0_2 : Int) (c0_3 : Int)
noncomputable def place_ratchetref31_Word : P_ratchetref31_Word → List Bool
 | .start .. => []
noncomputable def st_ratchetref31_Word : P_ratchetref31_Word → St E.S
 | .start c0_0 c0_1 c0_2 c0_3 => st0 17 [.agg [.v (.int .i64 c0_0), .v (.int .i64 c0_1), .v (.int .i64 c0_2), .v (.int .i64 c0_3)]] []
abbrev R_ratchetref31_Word : Type := ((Int × Unit) × Unit)
noncomputable def res_ratchetref31_Word : Res E (Int × Unit) Unit := { rows := [], flat := [], keep := 0, done := [0], rl := (RdL.cons (Rd.int .i64) RdL.nil), rb := RdBL.nil }
noncomputable def run_ratchetref31_Word : P_ratchetref31_Word → Option R_ratchetref31_Word
 | .start c0_0 c0_1 c0_2 c0_3 =>
   some ((IntKind.wrap .i64 ((IntKind.wrap .i64 ((IntKind.wrap .i64 ((IntKind.wrap .i64 (c0_0 * (4096 : Int))) + (IntKind.wrap .i64 (c0_1 * (1024 : Int))))) + (IntKind.wrap .i64 (c0_2 * (256 : Int))))) + c0_3), ()), ())
noncomputable def tab_ratchetref31_Word : List (Plc E P_ratchetref31_Word) := []
theorem tab_ratchetref31_Word_ok : All (PlcOk 17 0 place_ratchetref31_Word st_ratchetref31_Word) tab_ratchetref31_Word := trivial
noncomputable def code_ratchetref31_Word : Code := Tryz.f26.body.getD .skip
noncomputable def spec_ratchetref31_Word : Spec E.S := noSpec
theorem spec_ratchetref31_Word_ok : SpecOk E spec_ratchetref31_Word := noSpec_ok
theorem good_ratchetref31_Word : ∀ pt r, run_ratchetref31_Word pt = some r → Good E Tryz.f26 code_ratchetref31_Word 0 (res_ratchetref31_Word.av r) (res_ratchetref31_Word.bx r) (place_ratchetref31_Word pt) (st_ratchetref31_Word pt) := by
  intro pt r hr
  cases pt <;> exact fn_step (spec := spec_ratchetref31_Word) (wr := (mkWr [] [])) (l := tab_ratchetref31_Word) (z := 17) (p := res_ratchetref31_Word) (run' := fun _ => none) E_ok tab_ratchetref31_Word_ok.mem rfl spec_ratchetref31_Word_ok (fun _ _ h => by cases h) (Eq.trans (by kernel_rfl) hr)
noncomputable def con_ratchetref31_Word : Con E := ⟨26, ((Int × (Int × (Int × (Int × Unit)))) × Unit), Unit, (RwL.cons (Rw.agg (RwL.cons (Rd.int .i64).w (RwL.cons (Rd.int .i64).w (RwL.cons (Rd.int .i64).w (RwL.cons (Rd.int .i64).w RwL.nil))))) RwL.nil), RdBL.nil, 0, R_ratchetref31_Word, fun a b => run_ratchetref31_Word (.start a.1.1 a.1.2.1 a.1.2.2.1 a.1.2.2.2.1), res_ratchetref31_Word.av, res_ratchetref31_Word.bx⟩
theorem con_ratchetref31_Word_ok : con_ratchetref31_Word.Ok := fun a b r h => fn_ok (fn := Tryz.f26) (code := code_ratchetref31_Word) E_ok (by kernel_rfl) (by kernel_rfl) (by kernel_rfl) (Nat.le_of_ble_eq_true rfl) (good_ratchetref31_Word (.start a.1.1 a.1.2.1 a.1.2.2.1 a.1.2.2.2.1) r h)

/-! ### ratchet/ratchetlaw31.MachineChecks -/
inductive P_ratchetlaw31_MachineChecks where
 | start (l0 : (List api_MachineCode)) (c1_0 : Int) (c1_1 : Int) (c1_2 : Int) (c1_3 : Int) (word2 : Int)
 | p511 (word2 : Int) (w9 : Int) (f10 : Int) (g12 : Int) (B0_0 : Int) (B0_1 : Int) (B0_2 : Int) (B0_3 : Int) (B1_0 : Int) (B1_1 : Int) (B1_2 : Int) (B1_3 : Int)
 | p2047 (w9 : Int) (f10 : Int) (B0_0 : Int) (B0_1 : Int) (B0_2 : Int) (B0_3 : Int)
noncomputable def place_ratchetlaw31_MachineChecks : P_ratchetlaw31_MachineChecks → List Bool
 | .start .. => []
 | .p511 .. => [true, true, true, true, true, true, true, true]
 | .p2047 .. => [true, true, true, true, true, true, true, true, true, true]
noncomputable def st_ratchetlaw31_MachineChecks : P_ratchetlaw31_MachineChecks → St E.S
 | .start l0 c1_0 c1_1 c1_2 c1_3 word2 => st0 98 [.sl 40 l0 false, .agg [.v (.int .i64 c1_0), .v (.int .i64 c1_1), .v (.int .i64 c1_2), .v (.int .i64 c1_3)], .v (.int .i64 word2)] []
 | .p511 word2 w9 f10 g12 B0_0 B0_1 B0_2 B0_3 B1_0 B1_1 B1_2 B1_3 => mkSt 98 [2, 4, 9, 10, 11, 12] [.v (.int .i64 word2), .bp 0 0, .v (.int .i64 w9), .v (.int .i64 f10), .bp 1 0, .v (.int .i64 g12)] [.var 40 [.v (.int .i64 B0_0), .v (.int .i64 B0_1), .v (.int .i64 B0_2), .v (.int .i64 B0_3)], .var 40 [.v (.int .i64 B1_0), .v (.int .i64 B1_1), .v (.int .i64 B1_2), .v (.int .i64 B1_3)]]
 | .p2047 w9 f10 B0_0 B0_1 B0_2 B0_3 => mkSt 98 [4, 9, 10] [.bp 0 0, .v (.int .i64 w9), .v (.int .i64 f10)] [.var 40 [.v (.int .i64 B0_0), .v (.int .i64 B0_1), .v (.int .i64 B0_2), .v (.int .i64 B0_3)]]
abbrev R_ratchetlaw31_MachineChecks : Type := ((Bool × Unit) × Unit)
noncomputable def res_ratchetlaw31_MachineChecks : Res E (Bool × Unit) Unit := { rows := [], flat := [], keep := 0, done := [0], rl := (RdL.cons Rd.bool RdL.nil), rb := RdBL.nil }
noncomputable def run_ratchetlaw31_MachineChecks : P_ratchetlaw31_MachineChecks → Option R_ratchetlaw31_MachineChecks
 | .start l0 c1_0 c1_1 c1_2 c1_3 word2 =>
   (some () : Option Unit) >>= fun t1 =>
   if (!true) = true then
     some ((false, ()), ())
   else
     if (decide ((List.length l0 : Int) > (20 : Int))) = true then
       some ((true, ()), ())
     else
       (run_ratchetref31_CopyProgram (.start l0)) >>= fun t2 =>
       (run_machine_CheckProgram (.start t2.2.1)) >>= fun t3 =>
       (run_machine_WordOf (.start c1_0 c1_1 c1_2 c1_3)) >>= fun t4 =>
       (run_machine_CodeOf (.start word2)) >>= fun t5 =>
       (run_ratchetref31_CheckProgram (.start l0)) >>= fun t6 =>
       if (t3.1.2.1 != t6.1.2.1) = true then
         some ((false, ()), ())
       else
         if (t3.1.1 != t6.1.1) = true then
           some ((false, ()), ())
         else
           run_ratchetlaw31_MachineChecks (.p511 word2 t4.1.1 t4.1.2.1 t5.1.2.1 c1_0 c1_1 c1_2 c1_3 t5.1.1.1 t5.1.1.2.1 t5.1.1.2.2.1 t5.1.1.2.2.2.1)
 | .p511 word2 w9 f10 g12 B0_0 B0_1 B0_2 B0_3 B1_0 B1_1 B1_2 B1_3 =>
   (run_ratchetref31_Code (.start word2)) >>= fun t1 =>
   if (g12 != t1.1.2.1) = true then
     some ((false, ()), ())
   else
     if (!((B1_0 == t1.1.1.1) && ((B1_1 == t1.1.1.2.1) && ((B1_2 == t1.1.1.2.2.1) && ((B1_3 == t1.1.1.2.2.2.1) && true))))) = true then
       some ((false, ()), ())
     else
       run_ratchetlaw31_MachineChecks (.p2047 w9 f10 B0_0 B0_1 B0_2 B0_3)
 | .p2047 w9 f10 B0_0 B0_1 B0_2 B0_3 =>
   (run_ratchetref31_CodeErr (.start B0_0 B0_1 B0_2 B0_3)) >>= fun t1 =>
   if (t1.1.1 != (0 : Int)) = true then
     if (f10 == t1.1.1) = true then
       some ((w9 == (0 : Int), ()), ())
     else
       some ((false, ()), ())
   else
     (run_machine_CodeOf (.start w9)) >>= fun t2 =>
     if (f10 == (0 : Int)) = true then
       (run_ratchetref31_Word (.start B0_0 B0_1 B0_2 B0_3)) >>= fun t3 =>
       if (w9 == t3.1.1) = true then
         if (t2.1.2.1 == (0 : Int)) = true then
           some ((((t2.1.1.1 == B0_0) && ((t2.1.1.2.1 == B0_1) && ((t2.1.1.2.2.1 == B0_2) && ((t2.1.1.2.2.2.1 == B0_3) && true)))), ()), ())
         else
           some ((false, ()), ())
       else
         some ((false, ()), ())
     else
       some ((false, ()), ())
  partial_fixpoint
noncomputable def tab_ratchetlaw31_MachineChecks : List (Plc E P_ratchetlaw31_MachineChecks) := [⟨511, [true, true, true, true, true, true, true, true], { slots := [2, 4, 9, 10, 11, 12], rows := [], flat := [], keep := 0 }, (Int × (Unit × (Int × (Int × (Unit × (Int × Unit)))))), ((Int × (Int × (Int × (Int × Unit)))) × ((Int × (Int × (Int × (Int × Unit)))) × Unit)), (RdL.cons (Rd.int .i64) (RdL.cons (Rd.bp 0 0) (RdL.cons (Rd.int .i64) (RdL.cons (Rd.int .i64) (RdL.cons (Rd.bp 1 0) (RdL.cons (Rd.int .i64) RdL.nil)))))), (RdBL.cons (RdB.var 40 (RdL.cons (Rd.int .i64) (RdL.cons (Rd.int .i64) (RdL.cons (Rd.int .i64) (RdL.cons (Rd.int .i64) RdL.nil))))) (RdBL.cons (RdB.var 40 (RdL.cons (Rd.int .i64) (RdL.cons (Rd.int .i64) (RdL.cons (Rd.int .i64) (RdL.cons (Rd.int .i64) RdL.nil))))) RdBL.nil)), fun a b => .p511 a.1 a.2.2.1 a.2.2.2.1 a.2.2.2.2.2.1 b.1.1 b.1.2.1 b.1.2.2.1 b.1.2.2.2.1 b.2.1.1 b.2.1.2.1 b.2.1.2.2.1 b.2.1.2.2.2.1⟩,
  ⟨2047, [true, true, true, true, true, true, true, true, true, true], { slots := [4, 9, 10], rows := [], flat := [], keep := 0 }, (Unit × (Int × (Int × Unit))), ((Int × (Int × (Int × (Int × Unit)))) × Unit), (RdL.cons (Rd.bp 0 0) (RdL.cons (Rd.int .i64) (RdL.cons (Rd.int .i64) RdL.nil))), (RdBL.cons (RdB.var 40 (RdL.cons (Rd.int .i64) (RdL.cons (Rd.int .i64) (RdL.cons (Rd.int .i64) (RdL.cons (Rd.int .i64) RdL.nil))))) RdBL.nil), fun a b => .p2047 a.2.1 a.2.2.1 b.1.1 b.1.2.1 b.1.2.2.1 b.1.2.2.2.1⟩]
theorem tab_ratchetlaw31_MachineChecks_ok : All (PlcOk 98 0 place_ratchetlaw31_MachineChecks st_ratchetlaw31_MachineChecks) tab_ratchetlaw31_MachineChecks := ⟨⟨rfl, rfl, fun _ _ => rfl, fun _ _ => rfl⟩, ⟨⟨rfl, rfl, fun _ _ => rfl, fun _ _ => rfl⟩, trivial⟩⟩
noncomputable def code_ratchetlaw31_MachineChecks : Code := Tryz.f4.body.getD .skip
noncomputable def spec_ratchetlaw31_MachineChecks : Spec E.S := (Con.add con_ratchetref31_Word (Con.add con_ratchetref31_CodeErr (Con.add con_ratchetref31_Code (Con.add con_ratchetref31_CheckProgram (Con.add con_machine_CodeOf (Con.add con_machine_WordOf (Con.add con_machine_CheckProgram (Con.add con_ratchetref31_CopyProgram (Con.add con_ratchetlaw31_awake noSpec)))))))))
theorem spec_ratchetlaw31_MachineChecks_ok : SpecOk E spec_ratchetlaw31_MachineChecks := (Con.add_ok con_ratchetref31_Word_ok (Con.add_ok con_ratchetref31_CodeErr_ok (Con.add_ok con_ratchetref31_Code_ok (Con.add_ok con_ratchetref31_CheckProgram_ok (Con.add_ok con_machine_CodeOf_ok (Con.add_ok con_machine_WordOf_ok (Con.add_ok con_machine_CheckProgram_ok (Con.add_ok con_ratchetref31_CopyProgram_ok (Con.add_ok con_ratchetlaw31_awake_ok noSpec_ok)))))))))
theorem good_ratchetlaw31_MachineChecks : ∀ pt r, run_ratchetlaw31_MachineChecks pt = some r → Good E Tryz.f4 code_ratchetlaw31_MachineChecks 0 (res_ratchetlaw31_MachineChecks.av r) (res_ratchetlaw31_MachineChecks.bx r) (place_ratchetlaw31_MachineChecks pt) (st_ratchetlaw31_MachineChecks pt) := by
  refine run_ratchetlaw31_MachineChecks.partial_correctness (fun pt r => Good E Tryz.f4 code_ratchetlaw31_MachineChecks 0 (res_ratchetlaw31_MachineChecks.av r) (res_ratchetlaw31_MachineChecks.bx r) (place_ratchetlaw31_MachineChecks pt) (st_ratchetlaw31_MachineChecks pt)) ?_
  intro run' ih pt r hr
  cases pt <;> exact fn_step (spec := spec_ratchetlaw31_MachineChecks) (wr := (mkWr [] [])) (l := tab_ratchetlaw31_MachineChecks) (z := 98) (p := res_ratchetlaw31_MachineChecks) E_ok tab_ratchetlaw31_MachineChecks_ok.mem rfl spec_ratchetlaw31_MachineChecks_ok ih (Eq.trans (by kernel_rfl) hr)
noncomputable def con_ratchetlaw31_MachineChecks : Con E := ⟨4, ((List api_MachineCode) × ((Int × (Int × (Int × (Int × Unit)))) × (Int × Unit))), Unit, (RwL.cons (Rw.sl 40) (RwL.cons (Rw.agg (RwL.cons (Rd.int .i64).w (RwL.cons (Rd.int .i64).w (RwL.cons (Rd.int .i64).w (RwL.cons (Rd.int .i64).w RwL.nil))))) (RwL.cons (Rd.int .i64).w RwL.nil))), RdBL.nil, 0, R_ratchetlaw31_MachineChecks, fun a b => run_ratchetlaw31_MachineChecks (.start a.1 a.2.1.1 a.2.1.2.1 a.2.1.2.2.1 a.2.1.2.2.2.1 a.2.2.1), res_ratchetlaw31_MachineChecks.av, res_ratchetlaw31_MachineChecks.bx⟩
theorem con_ratchetlaw31_MachineChecks_ok : con_ratchetlaw31_MachineChecks.Ok := fun a b r h => fn_ok (fn := Tryz.f4) (code := code_ratchetlaw31_MachineChecks) E_ok (by kernel_rfl) (by kernel_rfl) (by kernel_rfl) (Nat.le_of_ble_eq_true rfl) (good_ratchetlaw31_MachineChecks (.start a.1 a.2.1.1 a.2.1.2.1 a.2.1.2.2.1 a.2.1.2.2.2.1 a.2.2.1) r h)

/-! ### ratchet/ratchetlaw31.fewState -/
inductive P_ratchetlaw31_fewState where
 | start (s0_0 : Int) (s0_1 : Int) (s0_2 : (List Int)) (s0_3 : (List Int))
noncomputable def place_ratchetlaw31_fewState : P_ratchetlaw31_fewState → List Bool
 | .start .. => []
noncomputable def st_ratchetlaw31_fewState : P_ratchetlaw31_fewState → St E.S
 | .start s0_0 s0_1 s0_2 s0_3 => st0 13 [.agg [.v (.int .i64 s0_0), .v (.int .i64 s0_1), .sl 3 s0_2 false, .sl 3 s0_3 false]] []
abbrev R_ratchetlaw31_fewState : Type := ((Bool × Unit) × Unit)
noncomputable def res_ratchetlaw31_fewState : Res E (Bool × Unit) Unit := { rows := [], flat := [], keep := 0, done := [0], rl := (RdL.cons Rd.bool RdL.nil), rb := RdBL.nil }
noncomputable def run_ratchetlaw31_fewState : P_ratchetlaw31_fewState → Option R_ratchetlaw31_fewState
 | .start s0_0 s0_1 s0_2 s0_3 =>
   if (decide ((List.length s0_2 : Int) ≤ (6 : Int))) = true then
     some ((decide ((List.length s0_3 : Int) ≤ (10 : Int)), ()), ())
   else
     some ((false, ()), ())
noncomputable def tab_ratchetlaw31_fewState : List (Plc E P_ratchetlaw31_fewState) := []
theorem tab_ratchetlaw31_fewState_ok : All (PlcOk 13 0 place_ratchetlaw31_fewState st_ratchetlaw31_fewState) tab_ratchetlaw31_fewState := trivial
noncomputable def code_ratchetlaw31_fewState : Code := Tryz.f27.body.getD .skip
noncomputable def spec_ratchetlaw31_fewState : Spec E.S := noSpec
theorem spec_ratchetlaw31_fewState_ok : SpecOk E spec_ratchetlaw31_fewState := noSpec_ok
theorem good_ratchetlaw31_fewState : ∀ pt r, run_ratchetlaw31_fewState pt = some r → Good E Tryz.f27 code_ratchetlaw31_fewState 0 (res_ratchetlaw31_fewState.av r) (res_ratchetlaw31_fewState.bx r) (place_ratchetlaw31_fewState pt) (st_ratchetlaw31_fewState pt) := by
  intro pt r hr
  cases pt <;> exact fn_step (spec := spec_ratchetlaw31_fewState) (wr := (mkWr [] [])) (l := tab_ratchetlaw31_fewState) (z := 13) (p := res_ratchetlaw31_fewState) (run' := fun _ => none) E_ok tab_ratchetlaw31_fewState_ok.mem rfl spec_ratchetlaw31_fewState_ok (fun _ _ h => by cases h) (Eq.trans (by kernel_rfl) hr)
noncomputable def con_ratchetlaw31_fewState : Con E := ⟨27, ((Int × (Int × ((List Int) × ((List Int) × Unit)))) × Unit), Unit, (RwL.cons (Rw.agg (RwL.cons (Rd.int .i64).w (RwL.cons (Rd.int .i64).w (RwL.cons (Rw.sl 3) (RwL.cons (Rw.sl 3) RwL.nil))))) RwL.nil), RdBL.nil, 0, R_ratchetlaw31_fewState, fun a b => run_ratchetlaw31_fewState (.start a.1.1 a.1.2.1 a.1.2.2.1 a.1.2.2.2.1), res_ratchetlaw31_fewState.av, res_ratchetlaw31_fewState.bx⟩
theorem con_ratchetlaw31_fewState_ok : con_ratchetlaw31_fewState.Ok := fun a b r h => fn_ok (fn := Tryz.f27) (code := code_ratchetlaw31_fewState) E_ok (by kernel_rfl) (by kernel_rfl) (by kernel_rfl) (Nat.le_of_ble_eq_true rfl) (good_ratchetlaw31_fewState (.start a.1.1 a.1.2.1 a.1.2.2.1 a.1.2.2.2.1) r h)

/-! ### ratchet/machine.BeginningOf -/
inductive P_machine_BeginningOf where
 | start (memory0 : (List Int))
noncomputable def place_machine_BeginningOf : P_machine_BeginningOf → List Bool
 | .start .. => []
noncomputable def st_machine_BeginningOf : P_machine_BeginningOf → St E.S
 | .start memory0 => st0 13 [.sl 3 memory0 false] []
abbrev R_machine_BeginningOf : Type := (((Int × (Int × ((List Int) × ((List Int) × Unit)))) × (Int × Unit)) × Unit)
noncomputable def res_machine_BeginningOf : Res E ((Int × (Int × ((List Int) × ((List Int) × Unit)))) × (Int × Unit)) Unit := { rows := [], flat := [], keep := 0, deep := [(false, 0, 2, 3), (false, 0, 3, 3)], done := [0, 1], rl := (RdL.cons (Rd.agg (RdL.cons (Rd.int .i64) (RdL.cons (Rd.int .i64) (RdL.cons (Rd.sl 3 false) (RdL.cons (Rd.sl 3 false) RdL.nil))))) (RdL.cons (Rd.int .i64) RdL.nil)), rb := RdBL.nil }
noncomputable def run_machine_BeginningOf : P_machine_BeginningOf → Option R_machine_BeginningOf
 | .start memory0 =>
   (run_machine_memoryErr (.start memory0)) >>= fun t1 =>
   if (t1.1.1 != (0 : Int)) = true then
     some ((((0 : Int), ((0 : Int), ([], ([], ())))), (t1.1.1, ())), ())
   else
     (run_machine_beginning (.start memory0)) >>= fun t2 =>
     some (((t2.1.1.1, (t2.1.1.2.1, (t2.2.1, (t2.2.2.1, ())))), ((0 : Int), ())), ())
noncomputable def tab_machine_BeginningOf : List (Plc E P_machine_BeginningOf) := []
theorem tab_machine_BeginningOf_ok : All (PlcOk 13 0 place_machine_BeginningOf st_machine_BeginningOf) tab_machine_BeginningOf := trivial
noncomputable def code_machine_BeginningOf : Code := Tryz.f28.body.getD .skip
noncomputable def spec_machine_BeginningOf : Spec E.S := (Con.add con_machine_beginning (Con.add con_machine_memoryErr noSpec))
theorem spec_machine_BeginningOf_ok : SpecOk E spec_machine_BeginningOf := (Con.add_ok con_machine_beginning_ok (Con.add_ok con_machine_memoryErr_ok noSpec_ok))
theorem good_machine_BeginningOf : ∀ pt r, run_machine_BeginningOf pt = some r → Good E Tryz.f28 code_machine_BeginningOf 0 (res_machine_BeginningOf.av r) (res_machine_BeginningOf.bx r) (place_machine_BeginningOf pt) (st_machine_BeginningOf pt) := by
  intro pt r hr
  cases pt <;> exact fn_step (spec := spec_machine_BeginningOf) (wr := (mkWr [] [])) (l := tab_machine_BeginningOf) (z := 13) (p := res_machine_BeginningOf) (run' := fun _ => none) E_ok tab_machine_BeginningOf_ok.mem rfl spec_machine_BeginningOf_ok (fun _ _ h => by cases h) (Eq.trans (by kernel_rfl) hr)
noncomputable def con_machine_BeginningOf : Con E := ⟨28, ((List Int) × Unit), Unit, (RwL.cons (Rw.sl 3) RwL.nil), RdBL.nil, 0, R_machine_BeginningOf, fun a b => run_machine_BeginningOf (.start a.1), res_machine_BeginningOf.av, res_machine_BeginningOf.bx⟩
theorem con_machine_BeginningOf_ok : con_machine_BeginningOf.Ok := fun a b r h => fn_ok (fn := Tryz.f28) (code := code_machine_BeginningOf) E_ok (by kernel_rfl) (by kernel_rfl) (by kernel_rfl) (Nat.le_of_ble_eq_true rfl) (good_machine_BeginningOf (.start a.1) r h)

/-! ### ratchet/ratchetref31.Copy -/
inductive P_ratchetref31_Copy_v1 where
 | start (s0_0 : Int) (s0_1 : Int) (s0_2 : (List Int)) (s0_3 : (List Int))
noncomputable def place_ratchetref31_Copy_v1 : P_ratchetref31_Copy_v1 → List Bool
 | .start .. => []
noncomputable def st_ratchetref31_Copy_v1 : P_ratchetref31_Copy_v1 → St E.S
 | .start s0_0 s0_1 s0_2 s0_3 => st0 14 [.agg [.v (.int .i64 s0_0), .v (.int .i64 s0_1), .sl 3 s0_2 false, .sl 3 s0_3 false]] []
abbrev R_ratchetref31_Copy_v1 : Type := (((Int × (Int × (Unit × (Unit × Unit)))) × Unit) × ((List Int) × ((List Int) × Unit)))
noncomputable def res_ratchetref31_Copy_v1 : Res E ((Int × (Int × (Unit × (Unit × Unit)))) × Unit) ((List Int) × ((List Int) × Unit)) := { rows := [], flat := [], keep := 0, done := [0], rl := (RdL.cons (Rd.agg (RdL.cons (Rd.int .i64) (RdL.cons (Rd.int .i64) (RdL.cons (Rd.rw 0) (RdL.cons (Rd.rw 1) RdL.nil))))) RdL.nil), rb := (RdBL.cons (RdB.row 3 true) (RdBL.cons (RdB.row 3 true) RdBL.nil)) }
noncomputable def run_ratchetref31_Copy_v1 : P_ratchetref31_Copy_v1 → Option R_ratchetref31_Copy_v1
 | .start s0_0 s0_1 s0_2 s0_3 =>
   (run_ratchetbase_CopyInts (.start s0_2)) >>= fun t1 =>
   (run_ratchetbase_CopyInts (.start s0_3)) >>= fun t2 =>
   some (((s0_0, (s0_1, ((), ((), ())))), ()), (t1.2.1, (t2.2.1, ())))
noncomputable def tab_ratchetref31_Copy_v1 : List (Plc E P_ratchetref31_Copy_v1) := []
theorem tab_ratchetref31_Copy_v1_ok : All (PlcOk 14 0 place_ratchetref31_Copy_v1 st_ratchetref31_Copy_v1) tab_ratchetref31_Copy_v1 := trivial
noncomputable def code_ratchetref31_Copy_v1 : Code := Tryz.f30.body.getD .skip
noncomputable def spec_ratchetref31_Copy_v1 : Spec E.S := (Con.add con_ratchetbase_CopyInts noSpec)
theorem spec_ratchetref31_Copy_v1_ok : SpecOk E spec_ratchetref31_Copy_v1 := (Con.add_ok con_ratchetbase_CopyInts_ok noSpec_ok)
theorem good_ratchetref31_Copy_v1 : ∀ pt r, run_ratchetref31_Copy_v1 pt = some r → Good E Tryz.f30 code_ratchetref31_Copy_v1 0 (res_ratchetref31_Copy_v1.av r) (res_ratchetref31_Copy_v1.bx r) (place_ratchetref31_Copy_v1 pt) (st_ratchetref31_Copy_v1 pt) := by
  intro pt r hr
  cases pt <;> exact fn_step (spec := spec_ratchetref31_Copy_v1) (wr := (mkWr [] [])) (l := tab_ratchetref31_Copy_v1) (z := 14) (p := res_ratchetref31_Copy_v1) (run' := fun _ => none) E_ok tab_ratchetref31_Copy_v1_ok.mem rfl spec_ratchetref31_Copy_v1_ok (fun _ _ h => by cases h) (Eq.trans (by kernel_rfl) hr)
noncomputable def con_ratchetref31_Copy_v1 : Con E := ⟨30, ((Int × (Int × ((List Int) × ((List Int) × Unit)))) × Unit), Unit, (RwL.cons (Rw.agg (RwL.cons (Rd.int .i64).w (RwL.cons (Rd.int .i64).w (RwL.cons (Rw.sl 3) (RwL.cons (Rw.sl 3) RwL.nil))))) RwL.nil), RdBL.nil, 0, R_ratchetref31_Copy_v1, fun a b => run_ratchetref31_Copy_v1 (.start a.1.1 a.1.2.1 a.1.2.2.1 a.1.2.2.2.1), res_ratchetref31_Copy_v1.av, res_ratchetref31_Copy_v1.bx⟩
theorem con_ratchetref31_Copy_v1_ok : con_ratchetref31_Copy_v1.Ok := fun a b r h => fn_ok (fn := Tryz.f30) (code := code_ratchetref31_Copy_v1) E_ok (by kernel_rfl) (by kernel_rfl) (by kernel_rfl) (Nat.le_of_ble_eq_true rfl) (good_ratchetref31_Copy_v1 (.start a.1.1 a.1.2.1 a.1.2.2.1 a.1.2.2.2.1) r h)

/-! ### ratchet/machine.stateErr -/
inductive P_machine_stateErr where
 | start (s0_0 : Int) (s0_1 : Int) (s0_2 : (List Int)) (s0_3 : (List Int))
noncomputable def place_machine_stateErr : P_machine_stateErr → List Bool
 | .start .. => []
noncomputable def st_machine_stateErr : P_machine_stateErr → St E.S
 | .start s0_0 s0_1 s0_2 s0_3 => st0 20 [.agg [.v (.int .i64 s0_0), .v (.int .i64 s0_1), .sl 3 s0_2 false, .sl 3 s0_3 false]] []
abbrev R_machine_stateErr : Type := ((Int × Unit) × Unit)
noncomputable def res_machine_stateErr : Res E (Int × Unit) Unit := { rows := [], flat := [], keep := 0, done := [0], rl := (RdL.cons (Rd.int .i64) RdL.nil), rb := RdBL.nil }
noncomputable def run_machine_stateErr : P_machine_stateErr → Option R_machine_stateErr
 | .start s0_0 s0_1 s0_2 s0_3 =>
   (run_machine_isPlace (.start s0_0)) >>= fun t1 =>
   if t1.1.1 = true then
     (run_machine_within (.start s0_1 (0 : Int) (1 : Int))) >>= fun t2 =>
     (run_machine_unless (.start t2.1.1 (2 : Int))) >>= fun t3 =>
     (run_machine_bytesErr (.start s0_2 (4 : Int))) >>= fun t4 =>
     (run_machine_memoryErr (.start s0_3)) >>= fun t5 =>
     (run_machine_first (.start ([t3.1.1, t4.1.1, t5.1.1] : List Int))) >>= fun t6 =>
     some ((t6.1.1, ()), ())
   else
     (run_machine_unless (.start false (2 : Int))) >>= fun t7 =>
     (run_machine_bytesErr (.start s0_2 (4 : Int))) >>= fun t8 =>
     (run_machine_memoryErr (.start s0_3)) >>= fun t9 =>
     (run_machine_first (.start ([t7.1.1, t8.1.1, t9.1.1] : List Int))) >>= fun t10 =>
     some ((t10.1.1, ()), ())
noncomputable def tab_machine_stateErr : List (Plc E P_machine_stateErr) := []
theorem tab_machine_stateErr_ok : All (PlcOk 20 0 place_machine_stateErr st_machine_stateErr) tab_machine_stateErr := trivial
noncomputable def code_machine_stateErr : Code := Tryz.f77.body.getD .skip
noncomputable def spec_machine_stateErr : Spec E.S := (Con.add con_machine_first (Con.add con_machine_memoryErr (Con.add con_machine_bytesErr (Con.add con_machine_unless (Con.add con_machine_within (Con.add con_machine_isPlace noSpec))))))
theorem spec_machine_stateErr_ok : SpecOk E spec_machine_stateErr := (Con.add_ok con_machine_first_ok (Con.add_ok con_machine_memoryErr_ok (Con.add_ok con_machine_bytesErr_ok (Con.add_ok con_machine_unless_ok (Con.add_ok con_machine_within_ok (Con.add_ok con_machine_isPlace_ok noSpec_ok))))))
theorem good_machine_stateErr : ∀ pt r, run_machine_stateErr pt = some r → Good E Tryz.f77 code_machine_stateErr 0 (res_machine_stateErr.av r) (res_machine_stateErr.bx r) (place_machine_stateErr pt) (st_machine_stateErr pt) := by
  intro pt r hr
  cases pt <;> exact fn_step (spec := spec_machine_stateErr) (wr := (mkWr [] [])) (l := tab_machine_stateErr) (z := 20) (p := res_machine_stateErr) (run' := fun _ => none) E_ok tab_machine_stateErr_ok.mem rfl spec_machine_stateErr_ok (fun _ _ h => by cases h) (Eq.trans (by kernel_rfl) hr)
noncomputable def con_machine_stateErr : Con E := ⟨77, ((Int × (Int × ((List Int) × ((List Int) × Unit)))) × Unit), Unit, (RwL.cons (Rw.agg (RwL.cons (Rd.int .i64).w (RwL.cons (Rd.int .i64).w (RwL.cons (Rw.sl 3) (RwL.cons (Rw.sl 3) RwL.nil))))) RwL.nil), RdBL.nil, 0, R_machine_stateErr, fun a b => run_machine_stateErr (.start a.1.1 a.1.2.1 a.1.2.2.1 a.1.2.2.2.1), res_machine_stateErr.av, res_machine_stateErr.bx⟩
theorem con_machine_stateErr_ok : con_machine_stateErr.Ok := fun a b r h => fn_ok (fn := Tryz.f77) (code := code_machine_stateErr) E_ok (by kernel_rfl) (by kernel_rfl) (by kernel_rfl) (Nat.le_of_ble_eq_true rfl) (good_machine_stateErr (.start a.1.1 a.1.2.1 a.1.2.2.1 a.1.2.2.2.1) r h)

/-! ### ratchet/machine.StepOf -/
inductive P_machine_StepOf where
 | start (l0 : (List api_MachineCode)) (s1_0 : Int) (s1_1 : Int) (s1_2 : (List Int)) (s1_3 : (List Int))
noncomputable def place_machine_StepOf : P_machine_StepOf → List Bool
 | .start .. => []
noncomputable def st_machine_StepOf : P_machine_StepOf → St E.S
 | .start l0 s1_0 s1_1 s1_2 s1_3 => st0 20 [.sl 40 l0 false, .agg [.v (.int .i64 s1_0), .v (.int .i64 s1_1), .sl 3 s1_2 false, .sl 3 s1_3 false]] []
abbrev R_machine_StepOf : Type := (((Int × (Int × ((List Int) × ((List Int) × Unit)))) × (Int × Unit)) × Unit)
noncomputable def res_machine_StepOf : Res E ((Int × (Int × ((List Int) × ((List Int) × Unit)))) × (Int × Unit)) Unit := { rows := [], flat := [], keep := 0, deep := [(false, 0, 2, 3), (false, 0, 3, 3)], done := [0, 1], rl := (RdL.cons (Rd.agg (RdL.cons (Rd.int .i64) (RdL.cons (Rd.int .i64) (RdL.cons (Rd.sl 3 false) (RdL.cons (Rd.sl 3 false) RdL.nil))))) (RdL.cons (Rd.int .i64) RdL.nil)), rb := RdBL.nil }
noncomputable def run_machine_StepOf : P_machine_StepOf → Option R_machine_StepOf
 | .start l0 s1_0 s1_1 s1_2 s1_3 =>
   (run_machine_programErr (.start l0)) >>= fun t1 =>
   (run_machine_stateErr (.start s1_0 s1_1 s1_2 s1_3)) >>= fun t2 =>
   (run_machine_first (.start ([t1.1.1, t2.1.1] : List Int))) >>= fun t3 =>
   if (t3.1.1 != (0 : Int)) = true then
     some ((((0 : Int), ((0 : Int), ([], ([], ())))), (t3.1.1, ())), ())
   else
     (run_machine_step (.start l0 s1_0 s1_1 s1_2 s1_3)) >>= fun t4 =>
     some (((t4.1.1.1, (t4.1.1.2.1, (t4.2.1, (t4.2.2.1, ())))), ((0 : Int), ())), ())
noncomputable def tab_machine_StepOf : List (Plc E P_machine_StepOf) := []
theorem tab_machine_StepOf_ok : All (PlcOk 20 0 place_machine_StepOf st_machine_StepOf) tab_machine_StepOf := trivial
noncomputable def code_machine_StepOf : Code := Tryz.f29.body.getD .skip
noncomputable def spec_machine_StepOf : Spec E.S := (Con.add con_machine_step (Con.add con_machine_first (Con.add con_machine_stateErr (Con.add con_machine_programErr noSpec))))
theorem spec_machine_StepOf_ok : SpecOk E spec_machine_StepOf := (Con.add_ok con_machine_step_ok (Con.add_ok con_machine_first_ok (Con.add_ok con_machine_stateErr_ok (Con.add_ok con_machine_programErr_ok noSpec_ok))))
theorem good_machine_StepOf : ∀ pt r, run_machine_StepOf pt = some r → Good E Tryz.f29 code_machine_StepOf 0 (res_machine_StepOf.av r) (res_machine_StepOf.bx r) (place_machine_StepOf pt) (st_machine_StepOf pt) := by
  intro pt r hr
  cases pt <;> exact fn_step (spec := spec_machine_StepOf) (wr := (mkWr [] [])) (l := tab_machine_StepOf) (z := 20) (p := res_machine_StepOf) (run' := fun _ => none) E_ok tab_machine_StepOf_ok.mem rfl spec_machine_StepOf_ok (fun _ _ h => by cases h) (Eq.trans (by kernel_rfl) hr)
noncomputable def con_machine_StepOf : Con E := ⟨29, ((List api_MachineCode) × ((Int × (Int × ((List Int) × ((List Int) × Unit)))) × Unit)), Unit, (RwL.cons (Rw.sl 40) (RwL.cons (Rw.agg (RwL.cons (Rd.int .i64).w (RwL.cons (Rd.int .i64).w (RwL.cons (Rw.sl 3) (RwL.cons (Rw.sl 3) RwL.nil))))) RwL.nil)), RdBL.nil, 0, R_machine_StepOf, fun a b => run_machine_StepOf (.start a.1 a.2.1.1 a.2.1.2.1 a.2.1.2.2.1 a.2.1.2.2.2.1), res_machine_StepOf.av, res_machine_StepOf.bx⟩
theorem con_machine_StepOf_ok : con_machine_StepOf.Ok := fun a b r h => fn_ok (fn := Tryz.f29) (code := code_machine_StepOf) E_ok (by kernel_rfl) (by kernel_rfl) (by kernel_rfl) (Nat.le_of_ble_eq_true rfl) (good_machine_StepOf (.start a.1 a.2.1.1 a.2.1.2.1 a.2.1.2.2.1 a.2.1.2.2.2.1) r h)

/-! ### ratchet/machine.RunOf -/
inductive P_machine_RunOf where
 | start (l0 : (List api_MachineCode)) (s1_0 : Int) (s1_1 : Int) (s1_2 : (List Int)) (s1_3 : (List Int)) (steps2 : Int)
 | p244 (l0 : (List api_MachineCode)) (s21 : Int) (s22 : Int) (B0_0 : Int) (B0_1 : Int) (B0_2 : (List Int)) (B0_3 : (List Int)) (B1 : (List api_MachineState))
noncomputable def place_machine_RunOf : P_machine_RunOf → List Bool
 | .start .. => []
 | .p244 .. => [false, false, true, false, true, true, true]
noncomputable def st_machine_RunOf : P_machine_RunOf → St E.S
 | .start l0 s1_0 s1_1 s1_2 s1_3 steps2 => st0 33 [.sl 40 l0 false, .agg [.v (.int .i64 s1_0), .v (.int .i64 s1_1), .sl 3 s1_2 false, .sl 3 s1_3 false], .v (.int .i64 steps2)] []
 | .p244 l0 s21 s22 B0_0 B0_1 B0_2 B0_3 B1 => mkSt 33 [0, 4, 9, 21, 22] [.sl 40 l0 false, .bp 0 0, .rw 1, .v (.int .i64 s21), .v (.int .i64 s22)] [.var 27 [.v (.int .i64 B0_0), .v (.int .i64 B0_1), .sl 3 B0_2 false, .sl 3 B0_3 false], .row 27 B1 false]
abbrev R_machine_RunOf : Type := ((Unit × (Int × Unit)) × ((List api_MachineState) × Unit))
noncomputable def res_machine_RunOf : Res E (Unit × (Int × Unit)) ((List api_MachineState) × Unit) := { rows := [(0, 27)], flat := [], keep := 0, done := [0, 1], rl := (RdL.cons (Rd.rw 0) (RdL.cons (Rd.int .i64) RdL.nil)), rb := (RdBL.cons (RdB.row 27 true) RdBL.nil) }
noncomputable def run_machine_RunOf : P_machine_RunOf → Option R_machine_RunOf
 | .start l0 s1_0 s1_1 s1_2 s1_3 steps2 =>
   (run_machine_programErr (.start l0)) >>= fun t1 =>
   (run_machine_stateErr (.start s1_0 s1_1 s1_2 s1_3)) >>= fun t2 =>
   (run_machine_stepsErr (.start steps2)) >>= fun t3 =>
   (run_machine_first (.start ([t1.1.1, t2.1.1, t3.1.1] : List Int))) >>= fun t4 =>
   if (t4.1.1 != (0 : Int)) = true then
     some (((), (t4.1.1, ())), (([] : List api_MachineState), ()))
   else
     run_machine_RunOf (.p244 l0 steps2 (0 : Int) s1_0 s1_1 s1_2 s1_3 ([] : List api_MachineState))
 | .p244 l0 s21 s22 B0_0 B0_1 B0_2 B0_3 B1 =>
   if (decide (s22 < s21)) = true then
     (run_machine_step (.start l0 B0_0 B0_1 B0_2 B0_3)) >>= fun t1 =>
     if (fits (List.length B1) (List.length ([(⟨t1.1.1.1, t1.1.1.2.1, t1.2.1, t1.2.2.1⟩ : api_MachineState)] : List api_MachineState)) 64) = true then
       run_machine_RunOf (.p244 l0 s21 (IntKind.wrap .i64 (s22 + (1 : Int))) t1.1.1.1 t1.1.1.2.1 t1.2.1 t1.2.2.1 (B1 ++ ([(⟨t1.1.1.1, t1.1.1.2.1, t1.2.1, t1.2.2.1⟩ : api_MachineState)] : List api_MachineState)))
     else none
   else
     some (((), ((0 : Int), ())), (B1, ()))
  partial_fixpoint
noncomputable def tab_machine_RunOf : List (Plc E P_machine_RunOf) := [⟨244, [false, false, true, false, true, true, true], { slots := [0, 4, 9, 21, 22], rows := [(9, 27)], flat := [], keep := 0, deep := [(false, 4, 2, 3), (false, 4, 3, 3)] }, ((List api_MachineCode) × (Unit × (Unit × (Int × (Int × Unit))))), ((Int × (Int × ((List Int) × ((List Int) × Unit)))) × ((List api_MachineState) × Unit)), (RdL.cons (Rd.sl 40 false) (RdL.cons (Rd.bp 0 0) (RdL.cons (Rd.rw 1) (RdL.cons (Rd.int .i64) (RdL.cons (Rd.int .i64) RdL.nil))))), (RdBL.cons (RdB.var 27 (RdL.cons (Rd.int .i64) (RdL.cons (Rd.int .i64) (RdL.cons (Rd.sl 3 false) (RdL.cons (Rd.sl 3 false) RdL.nil))))) (RdBL.cons (RdB.row 27 false) RdBL.nil)), fun a b => .p244 a.1 a.2.2.2.1 a.2.2.2.2.1 b.1.1 b.1.2.1 b.1.2.2.1 b.1.2.2.2.1 b.2.1⟩]
theorem tab_machine_RunOf_ok : All (PlcOk 33 0 place_machine_RunOf st_machine_RunOf) tab_machine_RunOf := ⟨⟨rfl, rfl, fun _ _ => rfl, fun _ _ => rfl⟩, trivial⟩
noncomputable def code_machine_RunOf : Code := Tryz.f31.body.getD .skip
noncomputable def spec_machine_RunOf : Spec E.S := (Con.add con_machine_step (Con.add con_machine_first (Con.add con_machine_stepsErr (Con.add con_machine_stateErr (Con.add con_machine_programErr noSpec)))))
theorem spec_machine_RunOf_ok : SpecOk E spec_machine_RunOf := (Con.add_ok con_machine_step_ok (Con.add_ok con_machine_first_ok (Con.add_ok con_machine_stepsErr_ok (Con.add_ok con_machine_stateErr_ok (Con.add_ok con_machine_programErr_ok noSpec_ok)))))
theorem good_machine_RunOf : ∀ pt r, run_machine_RunOf pt = some r → Good E Tryz.f31 code_machine_RunOf 0 (res_machine_RunOf.av r) (res_machine_RunOf.bx r) (place_machine_RunOf pt) (st_machine_RunOf pt) := by
  refine run_machine_RunOf.partial_correctness (fun pt r => Good E Tryz.f31 code_machine_RunOf 0 (res_machine_RunOf.av r) (res_machine_RunOf.bx r) (place_machine_RunOf pt) (st_machine_RunOf pt)) ?_
  intro run' ih pt r hr
  cases pt <;> exact fn_step (spec := spec_machine_RunOf) (wr := (mkWr [] [])) (l := tab_machine_RunOf) (z := 33) (p := res_machine_RunOf) E_ok tab_machine_RunOf_ok.mem rfl spec_machine_RunOf_ok ih (Eq.trans (by kernel_rfl) hr)
noncomputable def con_machine_RunOf : Con E := ⟨31, ((List api_MachineCode) × ((Int × (Int × ((List Int) × ((List Int) × Unit)))) × (Int × Unit))), Unit, (RwL.cons (Rw.sl 40) (RwL.cons (Rw.agg (RwL.cons (Rd.int .i64).w (RwL.cons (Rd.int .i64).w (RwL.cons (Rw.sl 3) (RwL.cons (Rw.sl 3) RwL.nil))))) (RwL.cons (Rd.int .i64).w RwL.nil))), RdBL.nil, 0, R_machine_RunOf, fun a b => run_machine_RunOf (.start a.1 a.2.1.1 a.2.1.2.1 a.2.1.2.2.1 a.2.1.2.2.2.1 a.2.2.1), res_machine_RunOf.av, res_machine_RunOf.bx⟩
theorem con_machine_RunOf_ok : con_machine_RunOf.Ok := fun a b r h => fn_ok (fn := Tryz.f31) (code := code_machine_RunOf) E_ok (by kernel_rfl) (by kernel_rfl) (by kernel_rfl) (Nat.le_of_ble_eq_true rfl) (good_machine_RunOf (.start a.1 a.2.1.1 a.2.1.2.1 a.2.1.2.2.1 a.2.1.2.2.2.1 a.2.2.1) r h)

/-! ### ratchet/ratchetref31.StateErr -/
inductive P_ratchetref31_StateErr where
 | start (s0_0 : Int) (s0_1 : Int) (s0_2 : (List Int)) (s0_3 : (List Int))
 | p7 (B0_0 : Int) (B0_1 : Int) (B0_2 : (List Int)) (B0_3 : (List Int))
noncomputable def place_ratchetref31_StateErr : P_ratchetref31_StateErr → List Bool
 | .start .. => []
 | .p7 .. => [true, true]
noncomputable def st_ratchetref31_StateErr : P_ratchetref31_StateErr → St E.S
 | .start s0_0 s0_1 s0_2 s0_3 => st0 23 [.agg [.v (.int .i64 s0_0), .v (.int .i64 s0_1), .sl 3 s0_2 false, .sl 3 s0_3 false]] []
 | .p7 B0_0 B0_1 B0_2 B0_3 => mkSt 23 [1] [.bp 0 0] [.var 27 [.v (.int .i64 B0_0), .v (.int .i64 B0_1), .sl 3 B0_2 false, .sl 3 B0_3 false]]
abbrev R_ratchetref31_StateErr : Type := ((Int × Unit) × Unit)
noncomputable def res_ratchetref31_StateErr : Res E (Int × Unit) Unit := { rows := [], flat := [], keep := 0, done := [0], rl := (RdL.cons (Rd.int .i64) RdL.nil), rb := RdBL.nil }
noncomputable def run_ratchetref31_StateErr : P_ratchetref31_StateErr → Option R_ratchetref31_StateErr
 | .start s0_0 s0_1 s0_2 s0_3 =>
   (run_ratchetbase_Within (.start s0_0 (0 : Int) (15 : Int))) >>= fun t1 =>
   if (!t1.1.1) = true then
     some (((2 : Int), ()), ())
   else
     (run_ratchetbase_Within (.start s0_1 (0 : Int) (1 : Int))) >>= fun t2 =>
     if (!t2.1.1) = true then
       some (((2 : Int), ()), ())
     else
       run_ratchetref31_StateErr (.p7 s0_0 s0_1 s0_2 s0_3)
 | .p7 B0_0 B0_1 B0_2 B0_3 =>
   (run_ratchetref31_bytesErr (.start B0_2 (4 : Int))) >>= fun t1 =>
   if (t1.1.1 != (0 : Int)) = true then
     some ((t1.1.1, ()), ())
   else
     (run_ratchetref31_MemoryErr (.start B0_3)) >>= fun t2 =>
     some ((t2.1.1, ()), ())
  partial_fixpoint
noncomputable def tab_ratchetref31_StateErr : List (Plc E P_ratchetref31_StateErr) := [⟨7, [true, true], { slots := [1], rows := [], flat := [], keep := 0 }, (Unit × Unit), ((Int × (Int × ((List Int) × ((List Int) × Unit)))) × Unit), (RdL.cons (Rd.bp 0 0) RdL.nil), (RdBL.cons (RdB.var 27 (RdL.cons (Rd.int .i64) (RdL.cons (Rd.int .i64) (RdL.cons (Rd.sl 3 false) (RdL.cons (Rd.sl 3 false) RdL.nil))))) RdBL.nil), fun a b => .p7 b.1.1 b.1.2.1 b.1.2.2.1 b.1.2.2.2.1⟩]
theorem tab_ratchetref31_StateErr_ok : All (PlcOk 23 0 place_ratchetref31_StateErr st_ratchetref31_StateErr) tab_ratchetref31_StateErr := ⟨⟨rfl, rfl, fun _ _ => rfl, fun _ _ => rfl⟩, trivial⟩
noncomputable def code_ratchetref31_StateErr : Code := Tryz.f33.body.getD .skip
noncomputable def spec_ratchetref31_StateErr : Spec E.S := (Con.add con_ratchetref31_MemoryErr (Con.add con_ratchetref31_bytesErr (Con.add con_ratchetbase_Within noSpec)))
theorem spec_ratchetref31_StateErr_ok : SpecOk E spec_ratchetref31_StateErr := (Con.add_ok con_ratchetref31_MemoryErr_ok (Con.add_ok con_ratchetref31_bytesErr_ok (Con.add_ok con_ratchetbase_Within_ok noSpec_ok)))
theorem good_ratchetref31_StateErr : ∀ pt r, run_ratchetref31_StateErr pt = some r → Good E Tryz.f33 code_ratchetref31_StateErr 0 (res_ratchetref31_StateErr.av r) (res_ratchetref31_StateErr.bx r) (place_ratchetref31_StateErr pt) (st_ratchetref31_StateErr pt) := by
  refine run_ratchetref31_StateErr.partial_correctness (fun pt r => Good E Tryz.f33 code_ratchetref31_StateErr 0 (res_ratchetref31_StateErr.av r) (res_ratchetref31_StateErr.bx r) (place_ratchetref31_StateErr pt) (st_ratchetref31_StateErr pt)) ?_
  intro run' ih pt r hr
  cases pt <;> exact fn_step (spec := spec_ratchetref31_StateErr) (wr := (mkWr [] [])) (l := tab_ratchetref31_StateErr) (z := 23) (p := res_ratchetref31_StateErr) E_ok tab_ratchetref31_StateErr_ok.mem rfl spec_ratchetref31_StateErr_ok ih (Eq.trans (by kernel_rfl) hr)
noncomputable def con_ratchetref31_StateErr : Con E := ⟨33, ((Int × (Int × ((List Int) × ((List Int) × Unit)))) × Unit), Unit, (RwL.cons (Rw.agg (RwL.cons (Rd.int .i64).w (RwL.cons (Rd.int .i64).w (RwL.cons (Rw.sl 3) (RwL.cons (Rw.sl 3) RwL.nil))))) RwL.nil), RdBL.nil, 0, R_ratchetref31_StateErr, fun a b => run_ratchetref31_StateErr (.start a.1.1 a.1.2.1 a.1.2.2.1 a.1.2.2.2.1), res_ratchetref31_StateErr.av, res_ratchetref31_StateErr.bx⟩
theorem con_ratchetref31_StateErr_ok : con_ratchetref31_StateErr.Ok := fun a b r h => fn_ok (fn := Tryz.f33) (code := code_ratchetref31_StateErr) E_ok (by kernel_rfl) (by kernel_rfl) (by kernel_rfl) (Nat.le_of_ble_eq_true rfl) (good_ratchetref31_StateErr (.start a.1.1 a.1.2.1 a.1.2.2.1 a.1.2.2.2.1) r h)

/-! ### ratchet/ratchetlaw31.MachineSteps -/
inductive P_ratchetlaw31_MachineSteps where
 | start (l0 : (List api_MachineCode)) (s1_0 : Int) (s1_1 : Int) (s1_2 : (List Int)) (s1_3 : (List Int)) (steps2 : Int)
 | p15 (l0 : (List api_MachineCode)) (steps2 : Int) (B0_0 : Int) (B0_1 : Int) (B0_2 : (List Int)) (B0_3 : (List Int))
 | p511 (l0 : (List api_MachineCode)) (steps2 : Int) (f10 : Int) (g12 : Int) (B0_0 : Int) (B0_1 : Int) (B0_2 : (List Int)) (B0_3 : (List Int)) (B1_0 : Int) (B1_1 : Int) (B1_2 : (List Int)) (B1_3 : (List Int)) (B2 : (List api_MachineState)) (B3_0 : Int) (B3_1 : Int)
 | p2047 (l0 : (List api_MachineCode)) (steps2 : Int) (f10 : Int) (g12 : Int) (d15 : Int) (B0_0 : Int) (B0_1 : Int) (B0_2 : (List Int)) (B0_3 : (List Int)) (B1_0 : Int) (B1_1 : Int) (B1_2 : (List Int)) (B1_3 : (List Int)) (B2 : (List api_MachineState)) (B3_0 : Int) (B3_1 : Int)
 | p8191 (l0 : (List api_MachineCode)) (steps2 : Int) (g12 : Int) (B0_0 : Int) (B0_1 : Int) (B0_2 : (List Int)) (B0_3 : (List Int)) (B1 : (List api_MachineState))
 | p32767 (l0 : (List api_MachineCode)) (steps2 : Int) (B0_0 : Int) (B0_1 : Int) (B0_2 : (List Int)) (B0_3 : (List Int)) (B1 : (List api_MachineState))
 | p1048564 (l0 : (List api_MachineCode)) (steps2 : Int) (i17 : Int) (B0 : (List api_MachineState)) (B1_0 : Int) (B1_1 : Int) (B1_2 : (List Int)) (B1_3 : (List Int))
noncomputable def place_ratchetlaw31_MachineSteps : P_ratchetlaw31_MachineSteps → List Bool
 | .start .. => []
 | .p15 .. => [true, true, true]
 | .p511 .. => [true, true, true, true, true, true, true, true]
 | .p2047 .. => [true, true, true, true, true, true, true, true, true, true]
 | .p8191 .. => [true, true, true, true, true, true, true, true, true, true, true, true]
 | .p32767 .. => [true, true, true, true, true, true, true, true, true, true, true, true, true, true]
 | .p1048564 .. => [false, false, true, false, true, true, true, true, true, true, true, true, true, true, true, true, true, true, true]
noncomputable def st_ratchetlaw31_MachineSteps : P_ratchetlaw31_MachineSteps → St E.S
 | .start l0 s1_0 s1_1 s1_2 s1_3 steps2 => st0 166 [.sl 40 l0 false, .agg [.v (.int .i64 s1_0), .v (.int .i64 s1_1), .sl 3 s1_2 false, .sl 3 s1_3 false], .v (.int .i64 steps2)] []
 | .p15 l0 steps2 B0_0 B0_1 B0_2 B0_3 => mkSt 166 [0, 2, 4] [.sl 40 l0 false, .v (.int .i64 steps2), .bp 0 0] [.var 27 [.v (.int .i64 B0_0), .v (.int .i64 B0_1), .sl 3 B0_2 false, .sl 3 B0_3 false]]
 | .p511 l0 steps2 f10 g12 B0_0 B0_1 B0_2 B0_3 B1_0 B1_1 B1_2 B1_3 B2 B3_0 B3_1 => mkSt 166 [0, 2, 4, 9, 10, 11, 12, 13] [.sl 40 l0 false, .v (.int .i64 steps2), .bp 0 0, .bp 1 0, .v (.int .i64 f10), .rw 2, .v (.int .i64 g12), .bp 3 0] [.var 27 [.v (.int .i64 B0_0), .v (.int .i64 B0_1), .sl 3 B0_2 false, .sl 3 B0_3 false], .var 27 [.v (.int .i64 B1_0), .v (.int .i64 B1_1), .sl 3 B1_2 false, .sl 3 B1_3 false], .row 27 B2 true, .var 27 [.v (.int .i64 B3_0), .v (.int .i64 B3_1), .nl, .nl]]
 | .p2047 l0 steps2 f10 g12 d15 B0_0 B0_1 B0_2 B0_3 B1_0 B1_1 B1_2 B1_3 B2 B3_0 B3_1 => mkSt 166 [0, 2, 4, 9, 10, 11, 12, 13, 15] [.sl 40 l0 false, .v (.int .i64 steps2), .bp 0 0, .bp 1 0, .v (.int .i64 f10), .rw 2, .v (.int .i64 g12), .bp 3 0, .v (.int .i64 d15)] [.var 27 [.v (.int .i64 B0_0), .v (.int .i64 B0_1), .sl 3 B0_2 false, .sl 3 B0_3 false], .var 27 [.v (.int .i64 B1_0), .v (.int .i64 B1_1), .sl 3 B1_2 false, .sl 3 B1_3 false], .row 27 B2 true, .var 27 [.v (.int .i64 B3_0), .v (.int .i64 B3_1), .nl, .nl]]
 | .p8191 l0 steps2 g12 B0_0 B0_1 B0_2 B0_3 B1 => mkSt 166 [0, 2, 4, 11, 12] [.sl 40 l0 false, .v (.int .i64 steps2), .bp 0 0, .rw 1, .v (.int .i64 g12)] [.var 27 [.v (.int .i64 B0_0), .v (.int .i64 B0_1), .sl 3 B0_2 false, .sl 3 B0_3 false], .row 27 B1 true]
 | .p32767 l0 steps2 B0_0 B0_1 B0_2 B0_3 B1 => mkSt 166 [0, 2, 4, 11] [.sl 40 l0 false, .v (.int .i64 steps2), .bp 0 0, .rw 1] [.var 27 [.v (.int .i64 B0_0), .v (.int .i64 B0_1), .sl 3 B0_2 false, .sl 3 B0_3 false], .row 27 B1 true]
 | .p1048564 l0 steps2 i17 B0 B1_0 B1_1 B1_2 B1_3 => mkSt 166 [0, 2, 11, 16, 17] [.sl 40 l0 false, .v (.int .i64 steps2), .rw 0, .bp 1 0, .v (.int .i64 i17)] [.row 27 B0 true, .var 27 [.v (.int .i64 B1_0), .v (.int .i64 B1_1), .sl 3 B1_2 false, .sl 3 B1_3 false]]
abbrev R_ratchetlaw31_MachineSteps : Type := ((Bool × Unit) × Unit)
noncomputable def res_ratchetlaw31_MachineSteps : Res E (Bool × Unit) Unit := { rows := [], flat := [], keep := 0, done := [0], rl := (RdL.cons Rd.bool RdL.nil), rb := RdBL.nil }
noncomputable def run_ratchetlaw31_MachineSteps : P_ratchetlaw31_MachineSteps → Option R_ratchetlaw31_MachineSteps
 | .start l0 s1_0 s1_1 s1_2 s1_3 steps2 =>
   (some () : Option Unit) >>= fun t1 =>
   if (!true) = true then
     some ((false, ()), ())
   else
     if (decide ((List.length l0 : Int) > (20 : Int))) = true then
       some ((true, ()), ())
     else
       (run_ratchetlaw31_fewState (.start s1_0 s1_1 s1_2 s1_3)) >>= fun t2 =>
       if (!t2.1.1) = true then
         some ((true, ()), ())
       else
         (run_ratchetref31_StepsErr (.start steps2)) >>= fun t3 =>
         if (t3.1.1 == (0 : Int)) = true then
           if (decide (steps2 > (60 : Int))) = true then
             some ((true, ()), ())
           else
             run_ratchetlaw31_MachineSteps (.p15 l0 steps2 s1_0 s1_1 s1_2 s1_3)
         else
           run_ratchetlaw31_MachineSteps (.p15 l0 steps2 s1_0 s1_1 s1_2 s1_3)
 | .p15 l0 steps2 B0_0 B0_1 B0_2 B0_3 =>
   (run_ratchetbase_CopyInts (.start B0_3)) >>= fun t1 =>
   (run_machine_BeginningOf (.start t1.2.1)) >>= fun t2 =>
   (run_ratchetref31_CopyProgram (.start l0)) >>= fun t3 =>
   (run_ratchetref31_Copy_v1 (.start B0_0 B0_1 B0_2 B0_3)) >>= fun t4 =>
   (run_machine_StepOf (.start t3.2.1 t4.1.1.1 t4.1.1.2.1 t4.2.1 t4.2.2.1)) >>= fun t5 =>
   (run_ratchetref31_CopyProgram (.start l0)) >>= fun t6 =>
   (run_ratchetref31_Copy_v1 (.start B0_0 B0_1 B0_2 B0_3)) >>= fun t7 =>
   (run_machine_RunOf (.start t6.2.1 t7.1.1.1 t7.1.1.2.1 t7.2.1 t7.2.2.1 steps2)) >>= fun t8 =>
   (run_ratchetref31_MemoryErr (.start B0_3)) >>= fun t9 =>
   if (t9.1.1 != (0 : Int)) = true then
     if (t2.1.2.1 != t9.1.1) = true then
       some ((false, ()), ())
     else
       (run_ratchetref31_Same (.start t2.1.1.1 t2.1.1.2.1 t2.1.1.2.2.1 t2.1.1.2.2.2.1 (0 : Int) (0 : Int) ([]) ([]))) >>= fun t10 =>
       if (!t10.1.1) = true then
         some ((false, ()), ())
       else
         if (t9.1.1 == (0 : Int)) = true then
           if (t2.1.2.1 != (0 : Int)) = true then
             some ((false, ()), ())
           else
             (run_ratchetref31_Beginning (.start B0_3)) >>= fun t11 =>
             (run_ratchetref31_Same (.start t2.1.1.1 t2.1.1.2.1 t2.1.1.2.2.1 t2.1.1.2.2.2.1 t11.1.1.1 t11.1.1.2.1 t11.2.1 t11.2.2.1)) >>= fun t12 =>
             if (!t12.1.1) = true then
               some ((false, ()), ())
             else
               run_ratchetlaw31_MachineSteps (.p511 l0 steps2 t5.1.2.1 t8.1.2.1 B0_0 B0_1 B0_2 B0_3 t5.1.1.1 t5.1.1.2.1 t5.1.1.2.2.1 t5.1.1.2.2.2.1 t8.2.1 (0 : Int) (0 : Int))
         else
           run_ratchetlaw31_MachineSteps (.p511 l0 steps2 t5.1.2.1 t8.1.2.1 B0_0 B0_1 B0_2 B0_3 t5.1.1.1 t5.1.1.2.1 t5.1.1.2.2.1 t5.1.1.2.2.2.1 t8.2.1 (0 : Int) (0 : Int))
   else
     if (t9.1.1 == (0 : Int)) = true then
       if (t2.1.2.1 != (0 : Int)) = true then
         some ((false, ()), ())
       else
         (run_ratchetref31_Beginning (.start B0_3)) >>= fun t13 =>
         (run_ratchetref31_Same (.start t2.1.1.1 t2.1.1.2.1 t2.1.1.2.2.1 t2.1.1.2.2.2.1 t13.1.1.1 t13.1.1.2.1 t13.2.1 t13.2.2.1)) >>= fun t14 =>
         if (!t14.1.1) = true then
           some ((false, ()), ())
         else
           run_ratchetlaw31_MachineSteps (.p511 l0 steps2 t5.1.2.1 t8.1.2.1 B0_0 B0_1 B0_2 B0_3 t5.1.1.1 t5.1.1.2.1 t5.1.1.2.2.1 t5.1.1.2.2.2.1 t8.2.1 (0 : Int) (0 : Int))
     else
       run_ratchetlaw31_MachineSteps (.p511 l0 steps2 t5.1.2.1 t8.1.2.1 B0_0 B0_1 B0_2 B0_3 t5.1.1.1 t5.1.1.2.1 t5.1.1.2.2.1 t5.1.1.2.2.2.1 t8.2.1 (0 : Int) (0 : Int))
 | .p511 l0 steps2 f10 g12 B0_0 B0_1 B0_2 B0_3 B1_0 B1_1 B1_2 B1_3 B2 B3_0 B3_1 =>
   (run_ratchetref31_ProgramErr (.start l0)) >>= fun t1 =>
   if (t1.1.1 == (0 : Int)) = true then
     (run_ratchetref31_StateErr (.start B0_0 B0_1 B0_2 B0_3)) >>= fun t2 =>
     run_ratchetlaw31_MachineSteps (.p2047 l0 steps2 f10 g12 t2.1.1 B0_0 B0_1 B0_2 B0_3 B1_0 B1_1 B1_2 B1_3 B2 B3_0 B3_1)
   else
     run_ratchetlaw31_MachineSteps (.p2047 l0 steps2 f10 g12 t1.1.1 B0_0 B0_1 B0_2 B0_3 B1_0 B1_1 B1_2 B1_3 B2 B3_0 B3_1)
 | .p2047 l0 steps2 f10 g12 d15 B0_0 B0_1 B0_2 B0_3 B1_0 B1_1 B1_2 B1_3 B2 B3_0 B3_1 =>
   if (d15 != (0 : Int)) = true then
     if (f10 == d15) = true then
       if (g12 == d15) = true then
         (run_ratchetref31_Same (.start B1_0 B1_1 B1_2 B1_3 B3_0 B3_1 ([]) ([]))) >>= fun t1 =>
         if t1.1.1 = true then
           some (((List.length B2 : Int) == (0 : Int), ()), ())
         else
           some ((false, ()), ())
       else
         some ((false, ()), ())
     else
       some ((false, ()), ())
   else
     if (f10 != (0 : Int)) = true then
       some ((false, ()), ())
     else
       (run_ratchetref31_Step (.start l0 B0_0 B0_1 B0_2 B0_3)) >>= fun t2 =>
       (run_ratchetref31_Same (.start B1_0 B1_1 B1_2 B1_3 t2.1.1.1 t2.1.1.2.1 t2.2.1 t2.2.2.1)) >>= fun t3 =>
       if (!t3.1.1) = true then
         some ((false, ()), ())
       else
         run_ratchetlaw31_MachineSteps (.p8191 l0 steps2 g12 B0_0 B0_1 B0_2 B0_3 B2)
 | .p8191 l0 steps2 g12 B0_0 B0_1 B0_2 B0_3 B1 =>
   (run_ratchetref31_StepsErr (.start steps2)) >>= fun t1 =>
   if (t1.1.1 != (0 : Int)) = true then
     if (g12 == t1.1.1) = true then
       some (((List.length B1 : Int) == (0 : Int), ()), ())
     else
       some ((false, ()), ())
   else
     if (g12 != (0 : Int)) = true then
       some ((false, ()), ())
     else
       if ((List.length B1 : Int) != steps2) = true then
         some ((false, ()), ())
       else
         run_ratchetlaw31_MachineSteps (.p32767 l0 steps2 B0_0 B0_1 B0_2 B0_3 B1)
 | .p32767 l0 steps2 B0_0 B0_1 B0_2 B0_3 B1 =>
   run_ratchetlaw31_MachineSteps (.p1048564 l0 steps2 (0 : Int) B1 B0_0 B0_1 B0_2 B0_3)
 | .p1048564 l0 steps2 i17 B0 B1_0 B1_1 B1_2 B1_3 =>
   if (decide (i17 < steps2)) = true then
     (run_ratchetref31_Step (.start l0 B1_0 B1_1 B1_2 B1_3)) >>= fun t1 =>
     if (decide ((0 : Int) ≤ i17) && decide (i17 < (List.length B0 : Int))) = true then
       (idx B0 i17) >>= fun t2 =>
       (run_ratchetref31_Same (.start t2.Pc t2.Halted t2.Registers t2.Memory t1.1.1.1 t1.1.1.2.1 t1.2.1 t1.2.2.1)) >>= fun t3 =>
       if (!t3.1.1) = true then
         some ((false, ()), ())
       else
         run_ratchetlaw31_MachineSteps (.p1048564 l0 steps2 (IntKind.wrap .i64 (i17 + (1 : Int))) B0 t1.1.1.1 t1.1.1.2.1 t1.2.1 t1.2.2.1)
     else none
   else
     some ((true, ()), ())
  partial_fixpoint
noncomputable def tab_ratchetlaw31_MachineSteps : List (Plc E P_ratchetlaw31_MachineSteps) := [⟨15, [true, true, true], { slots := [0, 2, 4], rows := [], flat := [], keep := 0 }, ((List api_MachineCode) × (Int × (Unit × Unit))), ((Int × (Int × ((List Int) × ((List Int) × Unit)))) × Unit), (RdL.cons (Rd.sl 40 false) (RdL.cons (Rd.int .i64) (RdL.cons (Rd.bp 0 0) RdL.nil))), (RdBL.cons (RdB.var 27 (RdL.cons (Rd.int .i64) (RdL.cons (Rd.int .i64) (RdL.cons (Rd.sl 3 false) (RdL.cons (Rd.sl 3 false) RdL.nil))))) RdBL.nil), fun a b => .p15 a.1 a.2.1 b.1.1 b.1.2.1 b.1.2.2.1 b.1.2.2.2.1⟩,
  ⟨511, [true, true, true, true, true, true, true, true], { slots := [0, 2, 4, 9, 10, 11, 12, 13], rows := [], flat := [], keep := 0 }, ((List api_MachineCode) × (Int × (Unit × (Unit × (Int × (Unit × (Int × (Unit × Unit)))))))), ((Int × (Int × ((List Int) × ((List Int) × Unit)))) × ((Int × (Int × ((List Int) × ((List Int) × Unit)))) × ((List api_MachineState) × ((Int × (Int × (Unit × (Unit × Unit)))) × Unit)))), (RdL.cons (Rd.sl 40 false) (RdL.cons (Rd.int .i64) (RdL.cons (Rd.bp 0 0) (RdL.cons (Rd.bp 1 0) (RdL.cons (Rd.int .i64) (RdL.cons (Rd.rw 2) (RdL.cons (Rd.int .i64) (RdL.cons (Rd.bp 3 0) RdL.nil)))))))), (RdBL.cons (RdB.var 27 (RdL.cons (Rd.int .i64) (RdL.cons (Rd.int .i64) (RdL.cons (Rd.sl 3 false) (RdL.cons (Rd.sl 3 false) RdL.nil))))) (RdBL.cons (RdB.var 27 (RdL.cons (Rd.int .i64) (RdL.cons (Rd.int .i64) (RdL.cons (Rd.sl 3 false) (RdL.cons (Rd.sl 3 false) RdL.nil))))) (RdBL.cons (RdB.row 27 true) (RdBL.cons (RdB.var 27 (RdL.cons (Rd.int .i64) (RdL.cons (Rd.int .i64) (RdL.cons Rd.nl (RdL.cons Rd.nl RdL.nil))))) RdBL.nil)))), fun a b => .p511 a.1 a.2.1 a.2.2.2.2.1 a.2.2.2.2.2.2.1 b.1.1 b.1.2.1 b.1.2.2.1 b.1.2.2.2.1 b.2.1.1 b.2.1.2.1 b.2.1.2.2.1 b.2.1.2.2.2.1 b.2.2.1 b.2.2.2.1.1 b.2.2.2.1.2.1⟩,
  ⟨2047, [true, true, true, true, true, true, true, true, true, true], { slots := [0, 2, 4, 9, 10, 11, 12, 13, 15], rows := [], flat := [], keep := 0 }, ((List api_MachineCode) × (Int × (Unit × (Unit × (Int × (Unit × (Int × (Unit × (Int × Unit))))))))), ((Int × (Int × ((List Int) × ((List Int) × Unit)))) × ((Int × (Int × ((List Int) × ((List Int) × Unit)))) × ((List api_MachineState) × ((Int × (Int × (Unit × (Unit × Unit)))) × Unit)))), (RdL.cons (Rd.sl 40 false) (RdL.cons (Rd.int .i64) (RdL.cons (Rd.bp 0 0) (RdL.cons (Rd.bp 1 0) (RdL.cons (Rd.int .i64) (RdL.cons (Rd.rw 2) (RdL.cons (Rd.int .i64) (RdL.cons (Rd.bp 3 0) (RdL.cons (Rd.int .i64) RdL.nil))))))))), (RdBL.cons (RdB.var 27 (RdL.cons (Rd.int .i64) (RdL.cons (Rd.int .i64) (RdL.cons (Rd.sl 3 false) (RdL.cons (Rd.sl 3 false) RdL.nil))))) (RdBL.cons (RdB.var 27 (RdL.cons (Rd.int .i64) (RdL.cons (Rd.int .i64) (RdL.cons (Rd.sl 3 false) (RdL.cons (Rd.sl 3 false) RdL.nil))))) (RdBL.cons (RdB.row 27 true) (RdBL.cons (RdB.var 27 (RdL.cons (Rd.int .i64) (RdL.cons (Rd.int .i64) (RdL.cons Rd.nl (RdL.cons Rd.nl RdL.nil))))) RdBL.nil)))), fun a b => .p2047 a.1 a.2.1 a.2.2.2.2.1 a.2.2.2.2.2.2.1 a.2.2.2.2.2.2.2.2.1 b.1.1 b.1.2.1 b.1.2.2.1 b.1.2.2.2.1 b.2.1.1 b.2.1.2.1 b.2.1.2.2.1 b.2.1.2.2.2.1 b.2.2.1 b.2.2.2.1.1 b.2.2.2.1.2.1⟩,
  ⟨8191, [true, true, true, true, true, true, true, true, true, true, true, true], { slots := [0, 2, 4, 11, 12], rows := [], flat := [], keep := 0 }, ((List api_MachineCode) × (Int × (Unit × (Unit × (Int × Unit))))), ((Int × (Int × ((List Int) × ((List Int) × Unit)))) × ((List api_MachineState) × Unit)), (RdL.cons (Rd.sl 40 false) (RdL.cons (Rd.int .i64) (RdL.cons (Rd.bp 0 0) (RdL.cons (Rd.rw 1) (RdL.cons (Rd.int .i64) RdL.nil))))), (RdBL.cons (RdB.var 27 (RdL.cons (Rd.int .i64) (RdL.cons (Rd.int .i64) (RdL.cons (Rd.sl 3 false) (RdL.cons (Rd.sl 3 false) RdL.nil))))) (RdBL.cons (RdB.row 27 true) RdBL.nil)), fun a b => .p8191 a.1 a.2.1 a.2.2.2.2.1 b.1.1 b.1.2.1 b.1.2.2.1 b.1.2.2.2.1 b.2.1⟩,
  ⟨32767, [true, true, true, true, true, true, true, true, true, true, true, true, true, true], { slots := [0, 2, 4, 11], rows := [], flat := [], keep := 0 }, ((List api_MachineCode) × (Int × (Unit × (Unit × Unit)))), ((Int × (Int × ((List Int) × ((List Int) × Unit)))) × ((List api_MachineState) × Unit)), (RdL.cons (Rd.sl 40 false) (RdL.cons (Rd.int .i64) (RdL.cons (Rd.bp 0 0) (RdL.cons (Rd.rw 1) RdL.nil)))), (RdBL.cons (RdB.var 27 (RdL.cons (Rd.int .i64) (RdL.cons (Rd.int .i64) (RdL.cons (Rd.sl 3 false) (RdL.cons (Rd.sl 3 false) RdL.nil))))) (RdBL.cons (RdB.row 27 true) RdBL.nil)), fun a b => .p32767 a.1 a.2.1 b.1.1 b.1.2.1 b.1.2.2.1 b.1.2.2.2.1 b.2.1⟩,
  ⟨1048564, [false, false, true, false, true, true, true, true, true, true, true, true, true, true, true, true, true, true, true], { slots := [0, 2, 11, 16, 17], rows := [], flat := [], keep := 0, deep := [(false, 16, 2, 3), (false, 16, 3, 3)] }, ((List api_MachineCode) × (Int × (Unit × (Unit × (Int × Unit))))), ((List api_MachineState) × ((Int × (Int × ((List Int) × ((List Int) × Unit)))) × Unit)), (RdL.cons (Rd.sl 40 false) (RdL.cons (Rd.int .i64) (RdL.cons (Rd.rw 0) (RdL.cons (Rd.bp 1 0) (RdL.cons (Rd.int .i64) RdL.nil))))), (RdBL.cons (RdB.row 27 true) (RdBL.cons (RdB.var 27 (RdL.cons (Rd.int .i64) (RdL.cons (Rd.int .i64) (RdL.cons (Rd.sl 3 false) (RdL.cons (Rd.sl 3 false) RdL.nil))))) RdBL.nil)), fun a b => .p1048564 a.1 a.2.1 a.2.2.2.2.1 b.1 b.2.1.1 b.2.1.2.1 b.2.1.2.2.1 b.2.1.2.2.2.1⟩]
theorem tab_ratchetlaw31_MachineSteps_ok : All (PlcOk 166 0 place_ratchetlaw31_MachineSteps st_ratchetlaw31_MachineSteps) tab_ratchetlaw31_MachineSteps := ⟨⟨rfl, rfl, fun _ _ => rfl, fun _ _ => rfl⟩, ⟨⟨rfl, rfl, fun _ _ => rfl, fun _ _ => rfl⟩, ⟨⟨rfl, rfl, fun _ _ => rfl, fun _ _ => rfl⟩, ⟨⟨rfl, rfl, fun _ _ => rfl, fun _ _ => rfl⟩, ⟨⟨rfl, rfl, fun _ _ => rfl, fun _ _ => rfl⟩, ⟨⟨rfl, rfl, fun _ _ => rfl, fun _ _ => rfl⟩, trivial⟩⟩⟩⟩⟩⟩
noncomputable def code_ratchetlaw31_MachineSteps : Code := Tryz.f5.body.getD .skip
noncomputable def spec_ratchetlaw31_MachineSteps : Spec E.S := (Con.add con_ratchetref31_Step (Con.add con_ratchetref31_StateErr (Con.add con_ratchetref31_ProgramErr (Con.add con_ratchetref31_Beginning (Con.add con_ratchetref31_Same (Con.add con_ratchetref31_MemoryErr (Con.add con_machine_RunOf (Con.add con_machine_StepOf (Con.add con_ratchetref31_Copy_v1 (Con.add con_ratchetref31_CopyProgram (Con.add con_machine_BeginningOf (Con.add con_ratchetbase_CopyInts (Con.add con_ratchetref31_StepsErr (Con.add con_ratchetlaw31_fewState (Con.add con_ratchetlaw31_awake noSpec)))))))))))))))
theorem spec_ratchetlaw31_MachineSteps_ok : SpecOk E spec_ratchetlaw31_MachineSteps := (Con.add_ok con_ratchetref31_Step_ok (Con.add_ok con_ratchetref31_StateErr_ok (Con.add_ok con_ratchetref31_ProgramErr_ok (Con.add_ok con_ratchetref31_Beginning_ok (Con.add_ok con_ratchetref31_Same_ok (Con.add_ok con_ratchetref31_MemoryErr_ok (Con.add_ok con_machine_RunOf_ok (Con.add_ok con_machine_StepOf_ok (Con.add_ok con_ratchetref31_Copy_v1_ok (Con.add_ok con_ratchetref31_CopyProgram_ok (Con.add_ok con_machine_BeginningOf_ok (Con.add_ok con_ratchetbase_CopyInts_ok (Con.add_ok con_ratchetref31_StepsErr_ok (Con.add_ok con_ratchetlaw31_fewState_ok (Con.add_ok con_ratchetlaw31_awake_ok noSpec_ok)))))))))))))))
theorem good_ratchetlaw31_MachineSteps : ∀ pt r, run_ratchetlaw31_MachineSteps pt = some r → Good E Tryz.f5 code_ratchetlaw31_MachineSteps 0 (res_ratchetlaw31_MachineSteps.av r) (res_ratchetlaw31_MachineSteps.bx r) (place_ratchetlaw31_MachineSteps pt) (st_ratchetlaw31_MachineSteps pt) := by
  refine run_ratchetlaw31_MachineSteps.partial_correctness (fun pt r => Good E Tryz.f5 code_ratchetlaw31_MachineSteps 0 (res_ratchetlaw31_MachineSteps.av r) (res_ratchetlaw31_MachineSteps.bx r) (place_ratchetlaw31_MachineSteps pt) (st_ratchetlaw31_MachineSteps pt)) ?_
  intro run' ih pt r hr
  cases pt <;> exact fn_step (spec := spec_ratchetlaw31_MachineSteps) (wr := (mkWr [] [])) (l := tab_ratchetlaw31_MachineSteps) (z := 166) (p := res_ratchetlaw31_MachineSteps) E_ok tab_ratchetlaw31_MachineSteps_ok.mem rfl spec_ratchetlaw31_MachineSteps_ok ih (Eq.trans (by kernel_rfl) hr)
noncomputable def con_ratchetlaw31_MachineSteps : Con E := ⟨5, ((List api_MachineCode) × ((Int × (Int × ((List Int) × ((List Int) × Unit)))) × (Int × Unit))), Unit, (RwL.cons (Rw.sl 40) (RwL.cons (Rw.agg (RwL.cons (Rd.int .i64).w (RwL.cons (Rd.int .i64).w (RwL.cons (Rw.sl 3) (RwL.cons (Rw.sl 3) RwL.nil))))) (RwL.cons (Rd.int .i64).w RwL.nil))), RdBL.nil, 0, R_ratchetlaw31_MachineSteps, fun a b => run_ratchetlaw31_MachineSteps (.start a.1 a.2.1.1 a.2.1.2.1 a.2.1.2.2.1 a.2.1.2.2.2.1 a.2.2.1), res_ratchetlaw31_MachineSteps.av, res_ratchetlaw31_MachineSteps.bx⟩
theorem con_ratchetlaw31_MachineSteps_ok : con_ratchetlaw31_MachineSteps.Ok := fun a b r h => fn_ok (fn := Tryz.f5) (code := code_ratchetlaw31_MachineSteps) E_ok (by kernel_rfl) (by kernel_rfl) (by kernel_rfl) (Nat.le_of_ble_eq_true rfl) (good_ratchetlaw31_MachineSteps (.start a.1 a.2.1.1 a.2.1.2.1 a.2.1.2.2.1 a.2.1.2.2.2.1 a.2.2.1) r h)

end Go.Proofs.YtjededkgblbamaaGreatDoor.Ev.F
