/- PRINTED by wip/gen/evp.py: what the functions come to. -/
import Derived.Test.YtfmkleeneddijaaDoorEvShelf
import Derived.Test.YtfmkleeneddijaaDoorShelf
import Derived.Test.YtfmkleeneddijaaDoorOff
import Derived.Test.YtfmkleeneddijaaDoorEvLib
import Derived.Test.YtfmkleeneddijaaDoorEvRun
import Derived.Test.YtfmkleeneddijaaDoorProg
set_option linter.unusedVariables false
namespace Go.Proofs.YtfmkleeneddijaaDoor.Ev.F
open Go.Proofs Go.Proofs.YtfmkleeneddijaaDoor.Ev

/-- api.LexerToken -/
structure api_LexerToken where
  Kind : Int
  At : Int
  Text : ByteArray
  Value : Int
  Width : Int
/-- api.Range -/
structure api_Range where
  Lo : Int
  Hi : Int
/-- [2]int -/
structure arr2_int where
  a0 : Int
  a1 : Int
noncomputable def S : Nat → Type
 | 5 => Int
 | 9 => ByteArray
 | 33 => api_LexerToken
 | 58 => api_Range
 | 90 => Bool
 | 117 => Int
 | _ => Unit
noncomputable def pk (e : Nat) : Pk S (S e) :=
  if h : e = 5 then h ▸ ((Pk.int .u8) : Pk S Int) else
  if h : e = 9 then h ▸ (Pk.str : Pk S ByteArray) else
  if h : e = 33 then h ▸ ((Pk.iso (Pk.cons (Pk.int .i64) (Pk.cons (Pk.int .i64) (Pk.cons Pk.str (Pk.cons (Pk.int .i64) (Pk.cons (Pk.int .i64) Pk.unit))))) (fun a => (⟨a.1, a.2.1, a.2.2.1, a.2.2.2.1, a.2.2.2.2.1⟩ : api_LexerToken)) (fun x => (x.Kind, x.At, x.Text, x.Value, x.Width, ())) (fun _ => rfl)) : Pk S api_LexerToken) else
  if h : e = 58 then h ▸ ((Pk.iso (Pk.cons (Pk.int .i64) (Pk.cons (Pk.int .i64) Pk.unit)) (fun a => (⟨a.1, a.2.1⟩ : api_Range)) (fun x => (x.Lo, x.Hi, ())) (fun _ => rfl)) : Pk S api_Range) else
  if h : e = 90 then h ▸ (Pk.err : Pk S Bool) else
  if h : e = 117 then h ▸ ((Pk.int .u64) : Pk S Int) else
  Pk.no (Tryd.prog.cellsOf e)
theorem pk_len (e : Nat) : (pk e).len = Tryd.prog.cellsOf e := by
  unfold pk
  by_cases h : e = 5
  · subst h; kernel_rfl
  refine (congrArg Pk.len (dif_neg h)).trans ?_; clear h
  by_cases h : e = 9
  · subst h; kernel_rfl
  refine (congrArg Pk.len (dif_neg h)).trans ?_; clear h
  by_cases h : e = 33
  · subst h; kernel_rfl
  refine (congrArg Pk.len (dif_neg h)).trans ?_; clear h
  by_cases h : e = 58
  · subst h; kernel_rfl
  refine (congrArg Pk.len (dif_neg h)).trans ?_; clear h
  by_cases h : e = 90
  · subst h; kernel_rfl
  refine (congrArg Pk.len (dif_neg h)).trans ?_; clear h
  by_cases h : e = 117
  · subst h; kernel_rfl
  refine (congrArg Pk.len (dif_neg h)).trans ?_; clear h
  exact Pk.no_len _
noncomputable def plain : Nat → Bool := fun t => mem t [33, 58, 47]
noncomputable def byt (e : Nat) (s : ByteArray) : Option (List (S e)) := if h : e = 5 then some (h ▸ (strBytes s : List Int)) else none
theorem byt_ok : ∀ e s l, byt e s = some l → Tryd.prog.underlying e = some (.int .u8) ∧ Tryd.prog.cellsOf e = 1 ∧ l.length = s.size ∧ ∀ i x, l[i]? = some x → (pk e).wt x = [.v (.int .u8 ((s.data.toList.getD i 0).toNat : Int))] := by
  intro e s l h
  unfold byt at h
  split at h
  · rename_i he; subst he; obtain rfl := Option.some.inj h
    exact ⟨by kernel_rfl, by kernel_rfl, (strBytes_ok s).1, fun i x hx => by rw [(strBytes_ok s).2 i x hx]; kernel_rfl⟩
  cases h
def glob5 : List Int := [1, 10, 100, 1000, 10000, 100000, 1000000, 10000000, 100000000, 1000000000, 10000000000, 100000000000, 1000000000000, 10000000000000, 100000000000000, 1000000000000000, 10000000000000000, 100000000000000000, 1000000000000000000, 10000000000000000000]
def glob6 : List Int := [0, 1, 28, 2, 29, 14, 24, 3, 30, 22, 20, 15, 25, 17, 4, 8, 31, 27, 13, 23, 21, 19, 16, 7, 26, 12, 18, 6, 11, 5, 10, 9]
def glob7 : List Int := [0, 1, 56, 2, 57, 49, 28, 3, 61, 58, 42, 50, 38, 29, 17, 4, 62, 47, 59, 36, 45, 43, 51, 22, 53, 39, 33, 30, 24, 18, 12, 5, 63, 55, 48, 27, 60, 41, 37, 16, 46, 35, 44, 21, 52, 32, 23, 11, 54, 26, 40, 15, 34, 20, 31, 10, 25, 14, 19, 9, 13, 8, 7, 6]
noncomputable def globs : Nat → Option (AV S)
 | 5 => some (.ar 117 glob5)
 | 6 => some (.ar 5 glob6)
 | 7 => some (.ar 5 glob7)
 | 3 => some (.el 90 true 0)
 | 4 => some (.el 90 true 0)
 | _ => none
theorem globs_ok : ∀ g x, globs g = some x → idsV x = [] := by
  intro g x h
  unfold globs at h
  split at h <;> first | (cases h; done) | (obtain rfl := Option.some.inj h; rfl)
noncomputable def nums : (e : Nat) → List (S e) → Option (List Int)
 | 5, l => some l
 | _, _ => none
theorem nums_ok : ∀ e l xs, nums e l = some xs → Tryd.prog.underlying e = some (.int .u8) ∧ xs.length = l.length ∧ ∀ (i : Nat) x n, l[i]? = some x → xs[i]? = some n → (pk e).wt x = [.v (.int .u8 n)] := by
  intro e l xs h
  unfold nums at h
  split at h
  · obtain rfl := Option.some.inj h
    exact ⟨by kernel_rfl, rfl, fun i x n hx hn => by obtain rfl : x = n := Option.some.inj (hx.symm.trans hn); kernel_rfl⟩
  · cases h
noncomputable def held : Nat → Option (String × Array Value)
 | 5 => some ("internal/strconv.uint64pow10", (Go.Lib.pow10Tab.map fun z => Value.int .u64 z).toArray)
 | _ => none
noncomputable abbrev E : Env := mkEnv Tryd.prog S pk globs plain byt nums held
theorem E_ok : E.Ok := mkEnv_ok pk_len (by kernel_rfl) globs_ok (fun t h => mem_cases (Q := fun t => Tryd.prog.stoodInHeld t = false ∧ Tryd.prog.eqGuardType Tryd.prog.depth t = false) h ⟨⟨by kernel_rfl, by kernel_rfl⟩, ⟨⟨by kernel_rfl, by kernel_rfl⟩, ⟨⟨by kernel_rfl, by kernel_rfl⟩, trivial⟩⟩⟩) byt_ok nums_ok
noncomputable def con_lexer_OffsetOf : Con E := conOff E
theorem con_lexer_OffsetOf_ok : con_lexer_OffsetOf.Ok := conOff_ok rfl
noncomputable def con_strings_Count : Con E := conOne E 39 (fun l c => (Go.Lib.countByte l c : Int))
theorem con_strings_Count_ok : con_strings_Count.Ok := conOne_ok (fn := Tryd.f39) (by kernel_rfl) (by kernel_rfl) (by kernel_rfl) Tryd.strings_Count_one
noncomputable def con_strings_LastIndexByte : Con E := conByte E 40 Go.Lib.lastIndexByte
theorem con_strings_LastIndexByte_ok : con_strings_LastIndexByte.Ok := conByte_ok (fn := Tryd.f40) (by kernel_rfl) (by kernel_rfl) (by kernel_rfl) (fun s c w h => Tryd.strings_LastIndexByte s c h w)
noncomputable def con_strconv_Atoi : Con E := conAtoi E 69
theorem con_strconv_Atoi_ok : con_strconv_Atoi.Ok := conAtoi_ok (ρ := Tryd.laysC172_ren) Tryd.laysC172 rfl rfl rfl (g15 := 3) (g16 := 4) (fn := Tryd.f69) (by kernel_rfl) (by kernel_rfl) (by kernel_rfl) (e := 90) (x15 := (true : Bool)) (x16 := (true : Bool)) rfl rfl (by kernel_rfl) (by kernel_rfl)
noncomputable def con_strconv_Itoa : Con E := conItoa E 70
theorem con_strconv_Itoa_ok : con_strconv_Itoa.Ok := conItoa_ok (fn := Tryd.f70) (by kernel_rfl) (by kernel_rfl) (by kernel_rfl) (g := 5) rfl (fun n w h0 h1 ht => Tryd.strconv_Itoa n h0 h1 w ht)
noncomputable def con_internal_stringslite_Index : Con E := conOne E 76 Go.Lib.indexByte
theorem con_internal_stringslite_Index_ok : con_internal_stringslite_Index.Ok := conOne_ok (fn := Tryd.f76) (by kernel_rfl) (by kernel_rfl) (by kernel_rfl) Tryd.stringslite_Index_one
noncomputable def con_internal_bytealg_IndexByteString : Con E := conIndexByteString E 95
theorem con_internal_bytealg_IndexByteString_ok : con_internal_bytealg_IndexByteString.Ok := conIndexByteString_ok 95 (fn := Tryd.f95) (by kernel_rfl) (by kernel_rfl) (by kernel_rfl) (by kernel_rfl) (by kernel_rfl)
noncomputable def base : Spec E.S := (Con.add con_internal_bytealg_IndexByteString (Con.add con_internal_stringslite_Index (Con.add con_strconv_Itoa (Con.add con_strconv_Atoi (Con.add con_strings_LastIndexByte (Con.add con_strings_Count (Con.add con_lexer_OffsetOf noSpec)))))))
theorem base_ok : SpecOk E base := (Con.add_ok con_internal_bytealg_IndexByteString_ok (Con.add_ok con_internal_stringslite_Index_ok (Con.add_ok con_strconv_Itoa_ok (Con.add_ok con_strconv_Atoi_ok (Con.add_ok con_strings_LastIndexByte_ok (Con.add_ok con_strings_Count_ok (Con.add_ok con_lexer_OffsetOf_ok noSpec_ok)))))))
noncomputable def con_ratchetlaw05_awake : Con E := conConst E 7 (.v (.bool true))
noncomputable def wrs_ratchetlaw05_awake : Nat → List Nat
 | 94 => [5, 30, 38, 42]
 | 102 => [0, 17, 42, 45, 55, 58, 68, 71, 81, 84, 110, 113, 123, 126, 145, 148, 162]
 | 103 => [12, 97, 100]
 | _ => []
theorem con_ratchetlaw05_awake_ok : con_ratchetlaw05_awake.Ok := conConst_ok E_ok base_ok wrs_ratchetlaw05_awake 400 60 (ys := [.v (.bool true)]) rfl (by kernel_rfl)

/-! ### ratchet/lexer.Keywords -/
inductive P_lexer_Keywords where
 | start
noncomputable def place_lexer_Keywords : P_lexer_Keywords → List Bool
 | .start => []
noncomputable def st_lexer_Keywords : P_lexer_Keywords → St E.S
 | .start => st0 2 [] []
abbrev R_lexer_Keywords : Type := (((List ByteArray) × Unit) × Unit)
noncomputable def res_lexer_Keywords : Res E ((List ByteArray) × Unit) Unit := { rows := [], flat := [], keep := 0, rl := (RdL.cons (Rd.sl 9 true) RdL.nil), rb := RdBL.nil }
noncomputable def run_lexer_Keywords : P_lexer_Keywords → Option R_lexer_Keywords
 | .start =>
   some ((([(⟨#[98, 105, 116, 115]⟩ : ByteArray), (⟨#[99, 97, 115, 101]⟩ : ByteArray), (⟨#[100, 97, 116, 97]⟩ : ByteArray), (⟨#[100, 101, 102]⟩ : ByteArray), (⟨#[101, 108, 115, 101]⟩ : ByteArray), (⟨#[101, 120, 116, 101, 110, 100]⟩ : ByteArray), (⟨#[102, 111, 114]⟩ : ByteArray), (⟨#[105, 102]⟩ : ByteArray), (⟨#[105, 109, 112, 111, 114, 116]⟩ : ByteArray), (⟨#[105, 110]⟩ : ByteArray), (⟨#[105, 110, 115, 116]⟩ : ByteArray), (⟨#[105, 110, 112, 117, 116]⟩ : ByteArray), (⟨#[108, 101, 116]⟩ : ByteArray), (⟨#[108, 111, 103]⟩ : ByteArray), (⟨#[109, 101, 116, 104, 111, 100]⟩ : ByteArray), (⟨#[109, 111, 100, 117, 108, 101]⟩ : ByteArray), (⟨#[111, 102]⟩ : ByteArray), (⟨#[111, 117, 116, 112, 117, 116]⟩ : ByteArray), (⟨#[112, 97, 99, 107, 97, 103, 101]⟩ : ByteArray), (⟨#[114, 101, 103]⟩ : ByteArray), (⟨#[114, 117, 108, 101]⟩ : ByteArray), (⟨#[115, 101, 120, 116, 101, 110, 100]⟩ : ByteArray), (⟨#[116, 104, 101, 110]⟩ : ByteArray), (⟨#[119, 104, 101, 110]⟩ : ByteArray), (⟨#[119, 105, 114, 101]⟩ : ByteArray)] : List ByteArray), ()), ())
noncomputable def tab_lexer_Keywords : List (Plc E P_lexer_Keywords) := []
theorem tab_lexer_Keywords_ok : All (PlcOk 2 0 place_lexer_Keywords st_lexer_Keywords) tab_lexer_Keywords := trivial
noncomputable def code_lexer_Keywords : Code := Tryd.f8.body.getD .skip
noncomputable def spec_lexer_Keywords : Spec E.S := noSpec
theorem spec_lexer_Keywords_ok : SpecOk E spec_lexer_Keywords := noSpec_ok
theorem good_lexer_Keywords : ∀ pt r, run_lexer_Keywords pt = some r → Good E Tryd.f8 code_lexer_Keywords 0 (res_lexer_Keywords.av r) (res_lexer_Keywords.bx r) (place_lexer_Keywords pt) (st_lexer_Keywords pt) := by
  intro pt r hr
  cases pt <;> exact fn_step (spec := spec_lexer_Keywords) (wr := (fun i => mem i [])) (l := tab_lexer_Keywords) (z := 2) (p := res_lexer_Keywords) (run' := fun _ => none) E_ok tab_lexer_Keywords_ok.mem rfl spec_lexer_Keywords_ok (fun _ _ h => by cases h) (Eq.trans (by kernel_rfl) hr)
noncomputable def con_lexer_Keywords : Con E := ⟨8, Unit, Unit, RwL.nil, RdBL.nil, 0, R_lexer_Keywords, fun a b => run_lexer_Keywords (.start), res_lexer_Keywords.av, res_lexer_Keywords.bx⟩
theorem con_lexer_Keywords_ok : con_lexer_Keywords.Ok := fun a b r h => fn_ok (fn := Tryd.f8) (code := code_lexer_Keywords) E_ok (by kernel_rfl) (by kernel_rfl) (by kernel_rfl) (Nat.le_of_ble_eq_true rfl) (good_lexer_Keywords (.start) r h)

/-! ### ratchet/lexer.Operators -/
inductive P_lexer_Operators where
 | start
noncomputable def place_lexer_Operators : P_lexer_Operators → List Bool
 | .start => []
noncomputable def st_lexer_Operators : P_lexer_Operators → St E.S
 | .start => st0 2 [] []
abbrev R_lexer_Operators : Type := (((List ByteArray) × Unit) × Unit)
noncomputable def res_lexer_Operators : Res E ((List ByteArray) × Unit) Unit := { rows := [], flat := [], keep := 0, rl := (RdL.cons (Rd.sl 9 true) RdL.nil), rb := RdBL.nil }
noncomputable def run_lexer_Operators : P_lexer_Operators → Option R_lexer_Operators
 | .start =>
   some ((([(⟨#[33]⟩ : ByteArray), (⟨#[33, 61]⟩ : ByteArray), (⟨#[38]⟩ : ByteArray), (⟨#[38, 38]⟩ : ByteArray), (⟨#[40]⟩ : ByteArray), (⟨#[41]⟩ : ByteArray), (⟨#[42]⟩ : ByteArray), (⟨#[43]⟩ : ByteArray), (⟨#[43, 43]⟩ : ByteArray), (⟨#[44]⟩ : ByteArray), (⟨#[45]⟩ : ByteArray), (⟨#[45, 62]⟩ : ByteArray), (⟨#[46]⟩ : ByteArray), (⟨#[46, 46]⟩ : ByteArray), (⟨#[58]⟩ : ByteArray), (⟨#[59]⟩ : ByteArray), (⟨#[60]⟩ : ByteArray), (⟨#[60, 60]⟩ : ByteArray), (⟨#[60, 61]⟩ : ByteArray), (⟨#[61]⟩ : ByteArray), (⟨#[61, 61]⟩ : ByteArray), (⟨#[62, 62]⟩ : ByteArray), (⟨#[91]⟩ : ByteArray), (⟨#[92]⟩ : ByteArray), (⟨#[93]⟩ : ByteArray), (⟨#[94]⟩ : ByteArray), (⟨#[95]⟩ : ByteArray), (⟨#[123]⟩ : ByteArray), (⟨#[124]⟩ : ByteArray), (⟨#[124, 124]⟩ : ByteArray), (⟨#[125]⟩ : ByteArray), (⟨#[126]⟩ : ByteArray)] : List ByteArray), ()), ())
noncomputable def tab_lexer_Operators : List (Plc E P_lexer_Operators) := []
theorem tab_lexer_Operators_ok : All (PlcOk 2 0 place_lexer_Operators st_lexer_Operators) tab_lexer_Operators := trivial
noncomputable def code_lexer_Operators : Code := Tryd.f9.body.getD .skip
noncomputable def spec_lexer_Operators : Spec E.S := noSpec
theorem spec_lexer_Operators_ok : SpecOk E spec_lexer_Operators := noSpec_ok
theorem good_lexer_Operators : ∀ pt r, run_lexer_Operators pt = some r → Good E Tryd.f9 code_lexer_Operators 0 (res_lexer_Operators.av r) (res_lexer_Operators.bx r) (place_lexer_Operators pt) (st_lexer_Operators pt) := by
  intro pt r hr
  cases pt <;> exact fn_step (spec := spec_lexer_Operators) (wr := (fun i => mem i [])) (l := tab_lexer_Operators) (z := 2) (p := res_lexer_Operators) (run' := fun _ => none) E_ok tab_lexer_Operators_ok.mem rfl spec_lexer_Operators_ok (fun _ _ h => by cases h) (Eq.trans (by kernel_rfl) hr)
noncomputable def con_lexer_Operators : Con E := ⟨9, Unit, Unit, RwL.nil, RdBL.nil, 0, R_lexer_Operators, fun a b => run_lexer_Operators (.start), res_lexer_Operators.av, res_lexer_Operators.bx⟩
theorem con_lexer_Operators_ok : con_lexer_Operators.Ok := fun a b r h => fn_ok (fn := Tryd.f9) (code := code_lexer_Operators) E_ok (by kernel_rfl) (by kernel_rfl) (by kernel_rfl) (Nat.le_of_ble_eq_true rfl) (good_lexer_Operators (.start) r h)

/-! ### ratchet/ratchetref05.Keywords -/
inductive P_ratchetref05_Keywords where
 | start
noncomputable def place_ratchetref05_Keywords : P_ratchetref05_Keywords → List Bool
 | .start => []
noncomputable def st_ratchetref05_Keywords : P_ratchetref05_Keywords → St E.S
 | .start => st0 2 [] []
abbrev R_ratchetref05_Keywords : Type := (((List ByteArray) × Unit) × Unit)
noncomputable def res_ratchetref05_Keywords : Res E ((List ByteArray) × Unit) Unit := { rows := [], flat := [], keep := 0, rl := (RdL.cons (Rd.sl 9 true) RdL.nil), rb := RdBL.nil }
noncomputable def run_ratchetref05_Keywords : P_ratchetref05_Keywords → Option R_ratchetref05_Keywords
 | .start =>
   some ((([(⟨#[98, 105, 116, 115]⟩ : ByteArray), (⟨#[99, 97, 115, 101]⟩ : ByteArray), (⟨#[100, 97, 116, 97]⟩ : ByteArray), (⟨#[100, 101, 102]⟩ : ByteArray), (⟨#[101, 108, 115, 101]⟩ : ByteArray), (⟨#[101, 120, 116, 101, 110, 100]⟩ : ByteArray), (⟨#[102, 111, 114]⟩ : ByteArray), (⟨#[105, 102]⟩ : ByteArray), (⟨#[105, 109, 112, 111, 114, 116]⟩ : ByteArray), (⟨#[105, 110]⟩ : ByteArray), (⟨#[105, 110, 115, 116]⟩ : ByteArray), (⟨#[105, 110, 112, 117, 116]⟩ : ByteArray), (⟨#[108, 101, 116]⟩ : ByteArray), (⟨#[108, 111, 103]⟩ : ByteArray), (⟨#[109, 101, 116, 104, 111, 100]⟩ : ByteArray), (⟨#[109, 111, 100, 117, 108, 101]⟩ : ByteArray), (⟨#[111, 102]⟩ : ByteArray), (⟨#[111, 117, 116, 112, 117, 116]⟩ : ByteArray), (⟨#[112, 97, 99, 107, 97, 103, 101]⟩ : ByteArray), (⟨#[114, 101, 103]⟩ : ByteArray), (⟨#[114, 117, 108, 101]⟩ : ByteArray), (⟨#[115, 101, 120, 116, 101, 110, 100]⟩ : ByteArray), (⟨#[116, 104, 101, 110]⟩ : ByteArray), (⟨#[119, 104, 101, 110]⟩ : ByteArray), (⟨#[119, 105, 114, 101]⟩ : ByteArray)] : List ByteArray), ()), ())
noncomputable def tab_ratchetref05_Keywords : List (Plc E P_ratchetref05_Keywords) := []
theorem tab_ratchetref05_Keywords_ok : All (PlcOk 2 0 place_ratchetref05_Keywords st_ratchetref05_Keywords) tab_ratchetref05_Keywords := trivial
noncomputable def code_ratchetref05_Keywords : Code := Tryd.f11.body.getD .skip
noncomputable def spec_ratchetref05_Keywords : Spec E.S := noSpec
theorem spec_ratchetref05_Keywords_ok : SpecOk E spec_ratchetref05_Keywords := noSpec_ok
theorem good_ratchetref05_Keywords : ∀ pt r, run_ratchetref05_Keywords pt = some r → Good E Tryd.f11 code_ratchetref05_Keywords 0 (res_ratchetref05_Keywords.av r) (res_ratchetref05_Keywords.bx r) (place_ratchetref05_Keywords pt) (st_ratchetref05_Keywords pt) := by
  intro pt r hr
  cases pt <;> exact fn_step (spec := spec_ratchetref05_Keywords) (wr := (fun i => mem i [])) (l := tab_ratchetref05_Keywords) (z := 2) (p := res_ratchetref05_Keywords) (run' := fun _ => none) E_ok tab_ratchetref05_Keywords_ok.mem rfl spec_ratchetref05_Keywords_ok (fun _ _ h => by cases h) (Eq.trans (by kernel_rfl) hr)
noncomputable def con_ratchetref05_Keywords : Con E := ⟨11, Unit, Unit, RwL.nil, RdBL.nil, 0, R_ratchetref05_Keywords, fun a b => run_ratchetref05_Keywords (.start), res_ratchetref05_Keywords.av, res_ratchetref05_Keywords.bx⟩
theorem con_ratchetref05_Keywords_ok : con_ratchetref05_Keywords.Ok := fun a b r h => fn_ok (fn := Tryd.f11) (code := code_ratchetref05_Keywords) E_ok (by kernel_rfl) (by kernel_rfl) (by kernel_rfl) (Nat.le_of_ble_eq_true rfl) (good_ratchetref05_Keywords (.start) r h)

/-! ### ratchet/ratchetbase.Texts -/
inductive P_ratchetbase_Texts where
 | start (a0 : (List ByteArray)) (b1 : (List ByteArray))
 | p116 (a0 : (List ByteArray)) (b1 : (List ByteArray)) (i5 : Int)
noncomputable def place_ratchetbase_Texts : P_ratchetbase_Texts → List Bool
 | .start .. => []
 | .p116 .. => [false, false, true, false, true, true]
noncomputable def st_ratchetbase_Texts : P_ratchetbase_Texts → St E.S
 | .start a0 b1 => st0 26 [.sl 9 a0 false, .sl 9 b1 false] []
 | .p116 a0 b1 i5 => mkSt 26 [0, 1, 5] [.sl 9 a0 false, .sl 9 b1 false, .v (.int .i64 i5)] []
abbrev R_ratchetbase_Texts : Type := ((Bool × Unit) × Unit)
noncomputable def res_ratchetbase_Texts : Res E (Bool × Unit) Unit := { rows := [], flat := [], keep := 0, rl := (RdL.cons Rd.bool RdL.nil), rb := RdBL.nil }
noncomputable def run_ratchetbase_Texts : P_ratchetbase_Texts → Option R_ratchetbase_Texts
 | .start a0 b1 =>
   if ((List.length a0 : Int) != (List.length b1 : Int)) = true then
     some ((false, ()), ())
   else
     run_ratchetbase_Texts (.p116 a0 b1 (0 : Int))
 | .p116 a0 b1 i5 =>
   if (decide (i5 < (List.length a0 : Int))) = true then
     (idx a0 i5) >>= fun t1 =>
     (idx b1 i5) >>= fun t2 =>
     if (!(seq t1 t2)) = true then
       some ((false, ()), ())
     else
       run_ratchetbase_Texts (.p116 a0 b1 (IntKind.wrap .i64 (i5 + (1 : Int))))
   else
     some ((true, ()), ())
  partial_fixpoint
noncomputable def tab_ratchetbase_Texts : List (Plc E P_ratchetbase_Texts) := [⟨116, [false, false, true, false, true, true], { slots := [0, 1, 5], rows := [], flat := [], keep := 0 }, ((List ByteArray) × ((List ByteArray) × (Int × Unit))), Unit, (RdL.cons (Rd.sl 9 false) (RdL.cons (Rd.sl 9 false) (RdL.cons (Rd.int .i64) RdL.nil))), RdBL.nil, fun a b => .p116 a.1 a.2.1 a.2.2.1⟩]
theorem tab_ratchetbase_Texts_ok : All (PlcOk 26 0 place_ratchetbase_Texts st_ratchetbase_Texts) tab_ratchetbase_Texts := ⟨⟨rfl, rfl, fun _ _ => rfl, fun _ _ => rfl⟩, trivial⟩
noncomputable def code_ratchetbase_Texts : Code := Tryd.f10.body.getD .skip
noncomputable def spec_ratchetbase_Texts : Spec E.S := noSpec
theorem spec_ratchetbase_Texts_ok : SpecOk E spec_ratchetbase_Texts := noSpec_ok
theorem good_ratchetbase_Texts : ∀ pt r, run_ratchetbase_Texts pt = some r → Good E Tryd.f10 code_ratchetbase_Texts 0 (res_ratchetbase_Texts.av r) (res_ratchetbase_Texts.bx r) (place_ratchetbase_Texts pt) (st_ratchetbase_Texts pt) := by
  refine run_ratchetbase_Texts.partial_correctness (fun pt r => Good E Tryd.f10 code_ratchetbase_Texts 0 (res_ratchetbase_Texts.av r) (res_ratchetbase_Texts.bx r) (place_ratchetbase_Texts pt) (st_ratchetbase_Texts pt)) ?_
  intro run' ih pt r hr
  cases pt <;> exact fn_step (spec := spec_ratchetbase_Texts) (wr := (fun i => mem i [])) (l := tab_ratchetbase_Texts) (z := 26) (p := res_ratchetbase_Texts) E_ok tab_ratchetbase_Texts_ok.mem rfl spec_ratchetbase_Texts_ok ih (Eq.trans (by kernel_rfl) hr)
noncomputable def con_ratchetbase_Texts : Con E := ⟨10, ((List ByteArray) × ((List ByteArray) × Unit)), Unit, (RwL.cons (Rw.sl 9) (RwL.cons (Rw.sl 9) RwL.nil)), RdBL.nil, 0, R_ratchetbase_Texts, fun a b => run_ratchetbase_Texts (.start a.1 a.2.1), res_ratchetbase_Texts.av, res_ratchetbase_Texts.bx⟩
theorem con_ratchetbase_Texts_ok : con_ratchetbase_Texts.Ok := fun a b r h => fn_ok (fn := Tryd.f10) (code := code_ratchetbase_Texts) E_ok (by kernel_rfl) (by kernel_rfl) (by kernel_rfl) (Nat.le_of_ble_eq_true rfl) (good_ratchetbase_Texts (.start a.1 a.2.1) r h)

/-! ### ratchet/ratchetref05.Operators -/
inductive P_ratchetref05_Operators where
 | start
noncomputable def place_ratchetref05_Operators : P_ratchetref05_Operators → List Bool
 | .start => []
noncomputable def st_ratchetref05_Operators : P_ratchetref05_Operators → St E.S
 | .start => st0 2 [] []
abbrev R_ratchetref05_Operators : Type := (((List ByteArray) × Unit) × Unit)
noncomputable def res_ratchetref05_Operators : Res E ((List ByteArray) × Unit) Unit := { rows := [], flat := [], keep := 0, rl := (RdL.cons (Rd.sl 9 true) RdL.nil), rb := RdBL.nil }
noncomputable def run_ratchetref05_Operators : P_ratchetref05_Operators → Option R_ratchetref05_Operators
 | .start =>
   some ((([(⟨#[33]⟩ : ByteArray), (⟨#[33, 61]⟩ : ByteArray), (⟨#[38]⟩ : ByteArray), (⟨#[38, 38]⟩ : ByteArray), (⟨#[40]⟩ : ByteArray), (⟨#[41]⟩ : ByteArray), (⟨#[42]⟩ : ByteArray), (⟨#[43]⟩ : ByteArray), (⟨#[43, 43]⟩ : ByteArray), (⟨#[44]⟩ : ByteArray), (⟨#[45]⟩ : ByteArray), (⟨#[45, 62]⟩ : ByteArray), (⟨#[46]⟩ : ByteArray), (⟨#[46, 46]⟩ : ByteArray), (⟨#[58]⟩ : ByteArray), (⟨#[59]⟩ : ByteArray), (⟨#[60]⟩ : ByteArray), (⟨#[60, 60]⟩ : ByteArray), (⟨#[60, 61]⟩ : ByteArray), (⟨#[61]⟩ : ByteArray), (⟨#[61, 61]⟩ : ByteArray), (⟨#[62, 62]⟩ : ByteArray), (⟨#[91]⟩ : ByteArray), (⟨#[92]⟩ : ByteArray), (⟨#[93]⟩ : ByteArray), (⟨#[94]⟩ : ByteArray), (⟨#[95]⟩ : ByteArray), (⟨#[123]⟩ : ByteArray), (⟨#[124]⟩ : ByteArray), (⟨#[124, 124]⟩ : ByteArray), (⟨#[125]⟩ : ByteArray), (⟨#[126]⟩ : ByteArray)] : List ByteArray), ()), ())
noncomputable def tab_ratchetref05_Operators : List (Plc E P_ratchetref05_Operators) := []
theorem tab_ratchetref05_Operators_ok : All (PlcOk 2 0 place_ratchetref05_Operators st_ratchetref05_Operators) tab_ratchetref05_Operators := trivial
noncomputable def code_ratchetref05_Operators : Code := Tryd.f12.body.getD .skip
noncomputable def spec_ratchetref05_Operators : Spec E.S := noSpec
theorem spec_ratchetref05_Operators_ok : SpecOk E spec_ratchetref05_Operators := noSpec_ok
theorem good_ratchetref05_Operators : ∀ pt r, run_ratchetref05_Operators pt = some r → Good E Tryd.f12 code_ratchetref05_Operators 0 (res_ratchetref05_Operators.av r) (res_ratchetref05_Operators.bx r) (place_ratchetref05_Operators pt) (st_ratchetref05_Operators pt) := by
  intro pt r hr
  cases pt <;> exact fn_step (spec := spec_ratchetref05_Operators) (wr := (fun i => mem i [])) (l := tab_ratchetref05_Operators) (z := 2) (p := res_ratchetref05_Operators) (run' := fun _ => none) E_ok tab_ratchetref05_Operators_ok.mem rfl spec_ratchetref05_Operators_ok (fun _ _ h => by cases h) (Eq.trans (by kernel_rfl) hr)
noncomputable def con_ratchetref05_Operators : Con E := ⟨12, Unit, Unit, RwL.nil, RdBL.nil, 0, R_ratchetref05_Operators, fun a b => run_ratchetref05_Operators (.start), res_ratchetref05_Operators.av, res_ratchetref05_Operators.bx⟩
theorem con_ratchetref05_Operators_ok : con_ratchetref05_Operators.Ok := fun a b r h => fn_ok (fn := Tryd.f12) (code := code_ratchetref05_Operators) E_ok (by kernel_rfl) (by kernel_rfl) (by kernel_rfl) (Nat.le_of_ble_eq_true rfl) (good_ratchetref05_Operators (.start) r h)

/-! ### slices.Index[[]string,string] -/
inductive P_slices_Index_string_string where
 | start (s0 : (List ByteArray)) (v1 : ByteArray)
 | p52 (s0 : (List ByteArray)) (v1 : ByteArray) (s7 : Int) (s8 : Int)
noncomputable def place_slices_Index_string_string : P_slices_Index_string_string → List Bool
 | .start .. => []
 | .p52 .. => [false, false, true, false, true]
noncomputable def st_slices_Index_string_string : P_slices_Index_string_string → St E.S
 | .start s0 v1 => st0 19 [.sl 9 s0 false, .v (.string v1)] []
 | .p52 s0 v1 s7 s8 => mkSt 19 [0, 1, 7, 8] [.sl 9 s0 false, .v (.string v1), .v (.int .i64 s7), .v (.int .i64 s8)] []
abbrev R_slices_Index_string_string : Type := ((Int × Unit) × Unit)
noncomputable def res_slices_Index_string_string : Res E (Int × Unit) Unit := { rows := [], flat := [], keep := 0, rl := (RdL.cons (Rd.int .i64) RdL.nil), rb := RdBL.nil }
noncomputable def run_slices_Index_string_string : P_slices_Index_string_string → Option R_slices_Index_string_string
 | .start s0 v1 =>
   run_slices_Index_string_string (.p52 s0 v1 (List.length s0 : Int) (0 : Int))
 | .p52 s0 v1 s7 s8 =>
   if (decide (s8 < s7)) = true then
     (idx s0 s8) >>= fun t1 =>
     if (seq v1 t1) = true then
       some ((s8, ()), ())
     else
       run_slices_Index_string_string (.p52 s0 v1 s7 (IntKind.wrap .i64 (s8 + (1 : Int))))
   else
     some (((-1 : Int), ()), ())
  partial_fixpoint
noncomputable def tab_slices_Index_string_string : List (Plc E P_slices_Index_string_string) := [⟨52, [false, false, true, false, true], { slots := [0, 1, 7, 8], rows := [], flat := [], keep := 0 }, ((List ByteArray) × (ByteArray × (Int × (Int × Unit)))), Unit, (RdL.cons (Rd.sl 9 false) (RdL.cons Rd.str (RdL.cons (Rd.int .i64) (RdL.cons (Rd.int .i64) RdL.nil)))), RdBL.nil, fun a b => .p52 a.1 a.2.1 a.2.2.1 a.2.2.2.1⟩]
theorem tab_slices_Index_string_string_ok : All (PlcOk 19 0 place_slices_Index_string_string st_slices_Index_string_string) tab_slices_Index_string_string := ⟨⟨rfl, rfl, fun _ _ => rfl, fun _ _ => rfl⟩, trivial⟩
noncomputable def code_slices_Index_string_string : Code := Tryd.f47.body.getD .skip
noncomputable def spec_slices_Index_string_string : Spec E.S := noSpec
theorem spec_slices_Index_string_string_ok : SpecOk E spec_slices_Index_string_string := noSpec_ok
theorem good_slices_Index_string_string : ∀ pt r, run_slices_Index_string_string pt = some r → Good E Tryd.f47 code_slices_Index_string_string 0 (res_slices_Index_string_string.av r) (res_slices_Index_string_string.bx r) (place_slices_Index_string_string pt) (st_slices_Index_string_string pt) := by
  refine run_slices_Index_string_string.partial_correctness (fun pt r => Good E Tryd.f47 code_slices_Index_string_string 0 (res_slices_Index_string_string.av r) (res_slices_Index_string_string.bx r) (place_slices_Index_string_string pt) (st_slices_Index_string_string pt)) ?_
  intro run' ih pt r hr
  cases pt <;> exact fn_step (spec := spec_slices_Index_string_string) (wr := (fun i => mem i [])) (l := tab_slices_Index_string_string) (z := 19) (p := res_slices_Index_string_string) E_ok tab_slices_Index_string_string_ok.mem rfl spec_slices_Index_string_string_ok ih (Eq.trans (by kernel_rfl) hr)
noncomputable def con_slices_Index_string_string : Con E := ⟨47, ((List ByteArray) × (ByteArray × Unit)), Unit, (RwL.cons (Rw.sl 9) (RwL.cons Rd.str.w RwL.nil)), RdBL.nil, 0, R_slices_Index_string_string, fun a b => run_slices_Index_string_string (.start a.1 a.2.1), res_slices_Index_string_string.av, res_slices_Index_string_string.bx⟩
theorem con_slices_Index_string_string_ok : con_slices_Index_string_string.Ok := fun a b r h => fn_ok (fn := Tryd.f47) (code := code_slices_Index_string_string) E_ok (by kernel_rfl) (by kernel_rfl) (by kernel_rfl) (Nat.le_of_ble_eq_true rfl) (good_slices_Index_string_string (.start a.1 a.2.1) r h)

/-! ### slices.Contains[[]string,string] -/
inductive P_slices_Contains_string_string where
 | start (s0 : (List ByteArray)) (v1 : ByteArray)
noncomputable def place_slices_Contains_string_string : P_slices_Contains_string_string → List Bool
 | .start .. => []
noncomputable def st_slices_Contains_string_string : P_slices_Contains_string_string → St E.S
 | .start s0 v1 => st0 9 [.sl 9 s0 false, .v (.string v1)] []
abbrev R_slices_Contains_string_string : Type := ((Bool × Unit) × Unit)
noncomputable def res_slices_Contains_string_string : Res E (Bool × Unit) Unit := { rows := [], flat := [], keep := 0, rl := (RdL.cons Rd.bool RdL.nil), rb := RdBL.nil }
noncomputable def run_slices_Contains_string_string : P_slices_Contains_string_string → Option R_slices_Contains_string_string
 | .start s0 v1 =>
   (run_slices_Index_string_string (.start s0 v1)) >>= fun t1 =>
   some ((decide (t1.1.1 ≥ (0 : Int)), ()), ())
noncomputable def tab_slices_Contains_string_string : List (Plc E P_slices_Contains_string_string) := []
theorem tab_slices_Contains_string_string_ok : All (PlcOk 9 0 place_slices_Contains_string_string st_slices_Contains_string_string) tab_slices_Contains_string_string := trivial
noncomputable def code_slices_Contains_string_string : Code := Tryd.f28.body.getD .skip
noncomputable def spec_slices_Contains_string_string : Spec E.S := (Con.add con_slices_Index_string_string noSpec)
theorem spec_slices_Contains_string_string_ok : SpecOk E spec_slices_Contains_string_string := (Con.add_ok con_slices_Index_string_string_ok noSpec_ok)
theorem good_slices_Contains_string_string : ∀ pt r, run_slices_Contains_string_string pt = some r → Good E Tryd.f28 code_slices_Contains_string_string 0 (res_slices_Contains_string_string.av r) (res_slices_Contains_string_string.bx r) (place_slices_Contains_string_string pt) (st_slices_Contains_string_string pt) := by
  intro pt r hr
  cases pt <;> exact fn_step (spec := spec_slices_Contains_string_string) (wr := (fun i => mem i [])) (l := tab_slices_Contains_string_string) (z := 9) (p := res_slices_Contains_string_string) (run' := fun _ => none) E_ok tab_slices_Contains_string_string_ok.mem rfl spec_slices_Contains_string_string_ok (fun _ _ h => by cases h) (Eq.trans (by kernel_rfl) hr)
noncomputable def con_slices_Contains_string_string : Con E := ⟨28, ((List ByteArray) × (ByteArray × Unit)), Unit, (RwL.cons (Rw.sl 9) (RwL.cons Rd.str.w RwL.nil)), RdBL.nil, 0, R_slices_Contains_string_string, fun a b => run_slices_Contains_string_string (.start a.1 a.2.1), res_slices_Contains_string_string.av, res_slices_Contains_string_string.bx⟩
theorem con_slices_Contains_string_string_ok : con_slices_Contains_string_string.Ok := fun a b r h => fn_ok (fn := Tryd.f28) (code := code_slices_Contains_string_string) E_ok (by kernel_rfl) (by kernel_rfl) (by kernel_rfl) (Nat.le_of_ble_eq_true rfl) (good_slices_Contains_string_string (.start a.1 a.2.1) r h)

/-! ### ratchet/lexer.IsKeyword -/
inductive P_lexer_IsKeyword where
 | start (s0 : ByteArray)
noncomputable def place_lexer_IsKeyword : P_lexer_IsKeyword → List Bool
 | .start .. => []
noncomputable def st_lexer_IsKeyword : P_lexer_IsKeyword → St E.S
 | .start s0 => st0 6 [.v (.string s0)] []
abbrev R_lexer_IsKeyword : Type := ((Bool × Unit) × Unit)
noncomputable def res_lexer_IsKeyword : Res E (Bool × Unit) Unit := { rows := [], flat := [], keep := 0, rl := (RdL.cons Rd.bool RdL.nil), rb := RdBL.nil }
noncomputable def run_lexer_IsKeyword : P_lexer_IsKeyword → Option R_lexer_IsKeyword
 | .start s0 =>
   (run_lexer_Keywords .start) >>= fun t1 =>
   (run_slices_Contains_string_string (.start t1.1.1 s0)) >>= fun t2 =>
   some ((t2.1.1, ()), ())
noncomputable def tab_lexer_IsKeyword : List (Plc E P_lexer_IsKeyword) := []
theorem tab_lexer_IsKeyword_ok : All (PlcOk 6 0 place_lexer_IsKeyword st_lexer_IsKeyword) tab_lexer_IsKeyword := trivial
noncomputable def code_lexer_IsKeyword : Code := Tryd.f13.body.getD .skip
noncomputable def spec_lexer_IsKeyword : Spec E.S := (Con.add con_slices_Contains_string_string (Con.add con_lexer_Keywords noSpec))
theorem spec_lexer_IsKeyword_ok : SpecOk E spec_lexer_IsKeyword := (Con.add_ok con_slices_Contains_string_string_ok (Con.add_ok con_lexer_Keywords_ok noSpec_ok))
theorem good_lexer_IsKeyword : ∀ pt r, run_lexer_IsKeyword pt = some r → Good E Tryd.f13 code_lexer_IsKeyword 0 (res_lexer_IsKeyword.av r) (res_lexer_IsKeyword.bx r) (place_lexer_IsKeyword pt) (st_lexer_IsKeyword pt) := by
  intro pt r hr
  cases pt <;> exact fn_step (spec := spec_lexer_IsKeyword) (wr := (fun i => mem i [])) (l := tab_lexer_IsKeyword) (z := 6) (p := res_lexer_IsKeyword) (run' := fun _ => none) E_ok tab_lexer_IsKeyword_ok.mem rfl spec_lexer_IsKeyword_ok (fun _ _ h => by cases h) (Eq.trans (by kernel_rfl) hr)
noncomputable def con_lexer_IsKeyword : Con E := ⟨13, (ByteArray × Unit), Unit, (RwL.cons Rd.str.w RwL.nil), RdBL.nil, 0, R_lexer_IsKeyword, fun a b => run_lexer_IsKeyword (.start a.1), res_lexer_IsKeyword.av, res_lexer_IsKeyword.bx⟩
theorem con_lexer_IsKeyword_ok : con_lexer_IsKeyword.Ok := fun a b r h => fn_ok (fn := Tryd.f13) (code := code_lexer_IsKeyword) E_ok (by kernel_rfl) (by kernel_rfl) (by kernel_rfl) (Nat.le_of_ble_eq_true rfl) (good_lexer_IsKeyword (.start a.1) r h)

/-! ### ratchet/ratchetbase.HasText -/
inductive P_ratchetbase_HasText where
 | start (l0 : (List ByteArray)) (s1 : ByteArray)
 | p52 (l0 : (List ByteArray)) (s1 : ByteArray) (i5 : Int)
noncomputable def place_ratchetbase_HasText : P_ratchetbase_HasText → List Bool
 | .start .. => []
 | .p52 .. => [false, false, true, false, true]
noncomputable def st_ratchetbase_HasText : P_ratchetbase_HasText → St E.S
 | .start l0 s1 => st0 18 [.sl 9 l0 false, .v (.string s1)] []
 | .p52 l0 s1 i5 => mkSt 18 [0, 1, 5] [.sl 9 l0 false, .v (.string s1), .v (.int .i64 i5)] []
abbrev R_ratchetbase_HasText : Type := ((Bool × Unit) × Unit)
noncomputable def res_ratchetbase_HasText : Res E (Bool × Unit) Unit := { rows := [], flat := [], keep := 0, rl := (RdL.cons Rd.bool RdL.nil), rb := RdBL.nil }
noncomputable def run_ratchetbase_HasText : P_ratchetbase_HasText → Option R_ratchetbase_HasText
 | .start l0 s1 =>
   run_ratchetbase_HasText (.p52 l0 s1 (0 : Int))
 | .p52 l0 s1 i5 =>
   if (decide (i5 < (List.length l0 : Int))) = true then
     (idx l0 i5) >>= fun t1 =>
     if (seq t1 s1) = true then
       some ((true, ()), ())
     else
       run_ratchetbase_HasText (.p52 l0 s1 (IntKind.wrap .i64 (i5 + (1 : Int))))
   else
     some ((false, ()), ())
  partial_fixpoint
noncomputable def tab_ratchetbase_HasText : List (Plc E P_ratchetbase_HasText) := [⟨52, [false, false, true, false, true], { slots := [0, 1, 5], rows := [], flat := [], keep := 0 }, ((List ByteArray) × (ByteArray × (Int × Unit))), Unit, (RdL.cons (Rd.sl 9 false) (RdL.cons Rd.str (RdL.cons (Rd.int .i64) RdL.nil))), RdBL.nil, fun a b => .p52 a.1 a.2.1 a.2.2.1⟩]
theorem tab_ratchetbase_HasText_ok : All (PlcOk 18 0 place_ratchetbase_HasText st_ratchetbase_HasText) tab_ratchetbase_HasText := ⟨⟨rfl, rfl, fun _ _ => rfl, fun _ _ => rfl⟩, trivial⟩
noncomputable def code_ratchetbase_HasText : Code := Tryd.f14.body.getD .skip
noncomputable def spec_ratchetbase_HasText : Spec E.S := noSpec
theorem spec_ratchetbase_HasText_ok : SpecOk E spec_ratchetbase_HasText := noSpec_ok
theorem good_ratchetbase_HasText : ∀ pt r, run_ratchetbase_HasText pt = some r → Good E Tryd.f14 code_ratchetbase_HasText 0 (res_ratchetbase_HasText.av r) (res_ratchetbase_HasText.bx r) (place_ratchetbase_HasText pt) (st_ratchetbase_HasText pt) := by
  refine run_ratchetbase_HasText.partial_correctness (fun pt r => Good E Tryd.f14 code_ratchetbase_HasText 0 (res_ratchetbase_HasText.av r) (res_ratchetbase_HasText.bx r) (place_ratchetbase_HasText pt) (st_ratchetbase_HasText pt)) ?_
  intro run' ih pt r hr
  cases pt <;> exact fn_step (spec := spec_ratchetbase_HasText) (wr := (fun i => mem i [])) (l := tab_ratchetbase_HasText) (z := 18) (p := res_ratchetbase_HasText) E_ok tab_ratchetbase_HasText_ok.mem rfl spec_ratchetbase_HasText_ok ih (Eq.trans (by kernel_rfl) hr)
noncomputable def con_ratchetbase_HasText : Con E := ⟨14, ((List ByteArray) × (ByteArray × Unit)), Unit, (RwL.cons (Rw.sl 9) (RwL.cons Rd.str.w RwL.nil)), RdBL.nil, 0, R_ratchetbase_HasText, fun a b => run_ratchetbase_HasText (.start a.1 a.2.1), res_ratchetbase_HasText.av, res_ratchetbase_HasText.bx⟩
theorem con_ratchetbase_HasText_ok : con_ratchetbase_HasText.Ok := fun a b r h => fn_ok (fn := Tryd.f14) (code := code_ratchetbase_HasText) E_ok (by kernel_rfl) (by kernel_rfl) (by kernel_rfl) (Nat.le_of_ble_eq_true rfl) (good_ratchetbase_HasText (.start a.1 a.2.1) r h)

/-! ### ratchet/lexer.textErr -/
inductive P_lexer_textErr where
 | start (text0 : ByteArray)
noncomputable def place_lexer_textErr : P_lexer_textErr → List Bool
 | .start .. => []
noncomputable def st_lexer_textErr : P_lexer_textErr → St E.S
 | .start text0 => st0 6 [.v (.string text0)] []
abbrev R_lexer_textErr : Type := ((Int × Unit) × Unit)
noncomputable def res_lexer_textErr : Res E (Int × Unit) Unit := { rows := [], flat := [], keep := 0, rl := (RdL.cons (Rd.int .i64) RdL.nil), rb := RdBL.nil }
noncomputable def run_lexer_textErr : P_lexer_textErr → Option R_lexer_textErr
 | .start text0 =>
   if (decide ((text0.size : Int) > (60000 : Int))) = true then
     some (((8 : Int), ()), ())
   else
     some (((0 : Int), ()), ())
noncomputable def tab_lexer_textErr : List (Plc E P_lexer_textErr) := []
theorem tab_lexer_textErr_ok : All (PlcOk 6 0 place_lexer_textErr st_lexer_textErr) tab_lexer_textErr := trivial
noncomputable def code_lexer_textErr : Code := Tryd.f29.body.getD .skip
noncomputable def spec_lexer_textErr : Spec E.S := noSpec
theorem spec_lexer_textErr_ok : SpecOk E spec_lexer_textErr := noSpec_ok
theorem good_lexer_textErr : ∀ pt r, run_lexer_textErr pt = some r → Good E Tryd.f29 code_lexer_textErr 0 (res_lexer_textErr.av r) (res_lexer_textErr.bx r) (place_lexer_textErr pt) (st_lexer_textErr pt) := by
  intro pt r hr
  cases pt <;> exact fn_step (spec := spec_lexer_textErr) (wr := (fun i => mem i [])) (l := tab_lexer_textErr) (z := 6) (p := res_lexer_textErr) (run' := fun _ => none) E_ok tab_lexer_textErr_ok.mem rfl spec_lexer_textErr_ok (fun _ _ h => by cases h) (Eq.trans (by kernel_rfl) hr)
noncomputable def con_lexer_textErr : Con E := ⟨29, (ByteArray × Unit), Unit, (RwL.cons Rd.str.w RwL.nil), RdBL.nil, 0, R_lexer_textErr, fun a b => run_lexer_textErr (.start a.1), res_lexer_textErr.av, res_lexer_textErr.bx⟩
theorem con_lexer_textErr_ok : con_lexer_textErr.Ok := fun a b r h => fn_ok (fn := Tryd.f29) (code := code_lexer_textErr) E_ok (by kernel_rfl) (by kernel_rfl) (by kernel_rfl) (Nat.le_of_ble_eq_true rfl) (good_lexer_textErr (.start a.1) r h)

/-! ### (*ratchet/lexer.scanner).ended -/
inductive P_lexer_scanner_ended where
 | start (B0_0 : ByteArray) (B0_1 : Int) (B0_2 : Int)
noncomputable def place_lexer_scanner_ended : P_lexer_scanner_ended → List Bool
 | .start .. => []
noncomputable def st_lexer_scanner_ended : P_lexer_scanner_ended → St E.S
 | .start B0_0 B0_1 B0_2 => st0 20 [.bp 0 0] [.var 62 [.v (.string B0_0), .v (.int .i64 B0_1), .v (.int .i64 B0_2)]]
abbrev R_lexer_scanner_ended : Type := ((Bool × Unit) × ((ByteArray × (Int × (Int × Unit))) × Unit))
noncomputable def res_lexer_scanner_ended : Res E (Bool × Unit) ((ByteArray × (Int × (Int × Unit))) × Unit) := { rows := [], flat := [], keep := 1, rl := (RdL.cons Rd.bool RdL.nil), rb := (RdBL.cons (RdB.var 62 (RdL.cons Rd.str (RdL.cons (Rd.int .i64) (RdL.cons (Rd.int .i64) RdL.nil)))) RdBL.nil) }
noncomputable def run_lexer_scanner_ended : P_lexer_scanner_ended → Option R_lexer_scanner_ended
 | .start B0_0 B0_1 B0_2 =>
   if (B0_2 != (0 : Int)) = true then
     some ((true, ()), ((B0_0, (B0_1, (B0_2, ()))), ()))
   else
     some ((B0_1 == (B0_0.size : Int), ()), ((B0_0, (B0_1, (B0_2, ()))), ()))
noncomputable def tab_lexer_scanner_ended : List (Plc E P_lexer_scanner_ended) := []
theorem tab_lexer_scanner_ended_ok : All (PlcOk 20 1 place_lexer_scanner_ended st_lexer_scanner_ended) tab_lexer_scanner_ended := trivial
noncomputable def code_lexer_scanner_ended : Code := Tryd.f31.body.getD .skip
noncomputable def spec_lexer_scanner_ended : Spec E.S := noSpec
theorem spec_lexer_scanner_ended_ok : SpecOk E spec_lexer_scanner_ended := noSpec_ok
theorem good_lexer_scanner_ended : ∀ pt r, run_lexer_scanner_ended pt = some r → Good E Tryd.f31 code_lexer_scanner_ended 1 (res_lexer_scanner_ended.av r) (res_lexer_scanner_ended.bx r) (place_lexer_scanner_ended pt) (st_lexer_scanner_ended pt) := by
  intro pt r hr
  cases pt <;> exact fn_step (spec := spec_lexer_scanner_ended) (wr := (fun i => mem i [])) (l := tab_lexer_scanner_ended) (z := 20) (p := res_lexer_scanner_ended) (run' := fun _ => none) E_ok tab_lexer_scanner_ended_ok.mem rfl spec_lexer_scanner_ended_ok (fun _ _ h => by cases h) (Eq.trans (by kernel_rfl) hr)
noncomputable def con_lexer_scanner_ended : Con E := ⟨31, (Unit × Unit), ((ByteArray × (Int × (Int × Unit))) × Unit), (RwL.cons (Rd.bp 0 0).w RwL.nil), (RdBL.cons (RdB.var 62 (RdL.cons Rd.str (RdL.cons (Rd.int .i64) (RdL.cons (Rd.int .i64) RdL.nil)))) RdBL.nil), 1, R_lexer_scanner_ended, fun a b => run_lexer_scanner_ended (.start b.1.1 b.1.2.1 b.1.2.2.1), res_lexer_scanner_ended.av, res_lexer_scanner_ended.bx⟩
theorem con_lexer_scanner_ended_ok : con_lexer_scanner_ended.Ok := fun a b r h => fn_ok (fn := Tryd.f31) (code := code_lexer_scanner_ended) E_ok (by kernel_rfl) (by kernel_rfl) (by kernel_rfl) (Nat.le_of_ble_eq_true rfl) (good_lexer_scanner_ended (.start b.1.1 b.1.2.1 b.1.2.2.1) r h)

/-! ### ratchet/lexer.isSpace -/
inductive P_lexer_isSpace where
 | start (c0 : Int)
noncomputable def place_lexer_isSpace : P_lexer_isSpace → List Bool
 | .start .. => []
noncomputable def st_lexer_isSpace : P_lexer_isSpace → St E.S
 | .start c0 => st0 13 [.v (.int .u8 c0)] []
abbrev R_lexer_isSpace : Type := ((Bool × Unit) × Unit)
noncomputable def res_lexer_isSpace : Res E (Bool × Unit) Unit := { rows := [], flat := [], keep := 0, rl := (RdL.cons Rd.bool RdL.nil), rb := RdBL.nil }
noncomputable def run_lexer_isSpace : P_lexer_isSpace → Option R_lexer_isSpace
 | .start c0 =>
   if (c0 == (9 : Int)) = true then
     some ((true, ()), ())
   else
     if (c0 == (10 : Int)) = true then
       some ((true, ()), ())
     else
       some ((c0 == (32 : Int), ()), ())
noncomputable def tab_lexer_isSpace : List (Plc E P_lexer_isSpace) := []
theorem tab_lexer_isSpace_ok : All (PlcOk 13 0 place_lexer_isSpace st_lexer_isSpace) tab_lexer_isSpace := trivial
noncomputable def code_lexer_isSpace : Code := Tryd.f48.body.getD .skip
noncomputable def spec_lexer_isSpace : Spec E.S := noSpec
theorem spec_lexer_isSpace_ok : SpecOk E spec_lexer_isSpace := noSpec_ok
theorem good_lexer_isSpace : ∀ pt r, run_lexer_isSpace pt = some r → Good E Tryd.f48 code_lexer_isSpace 0 (res_lexer_isSpace.av r) (res_lexer_isSpace.bx r) (place_lexer_isSpace pt) (st_lexer_isSpace pt) := by
  intro pt r hr
  cases pt <;> exact fn_step (spec := spec_lexer_isSpace) (wr := (fun i => mem i [])) (l := tab_lexer_isSpace) (z := 13) (p := res_lexer_isSpace) (run' := fun _ => none) E_ok tab_lexer_isSpace_ok.mem rfl spec_lexer_isSpace_ok (fun _ _ h => by cases h) (Eq.trans (by kernel_rfl) hr)
noncomputable def con_lexer_isSpace : Con E := ⟨48, (Int × Unit), Unit, (RwL.cons (Rd.int .u8).w RwL.nil), RdBL.nil, 0, R_lexer_isSpace, fun a b => run_lexer_isSpace (.start a.1), res_lexer_isSpace.av, res_lexer_isSpace.bx⟩
theorem con_lexer_isSpace_ok : con_lexer_isSpace.Ok := fun a b r h => fn_ok (fn := Tryd.f48) (code := code_lexer_isSpace) E_ok (by kernel_rfl) (by kernel_rfl) (by kernel_rfl) (Nat.le_of_ble_eq_true rfl) (good_lexer_isSpace (.start a.1) r h)

/-! ### internal/stringslite.HasPrefix -/
inductive P_internal_stringslite_HasPrefix where
 | start (s0 : ByteArray) (prefix1 : ByteArray)
noncomputable def place_internal_stringslite_HasPrefix : P_internal_stringslite_HasPrefix → List Bool
 | .start .. => []
noncomputable def st_internal_stringslite_HasPrefix : P_internal_stringslite_HasPrefix → St E.S
 | .start s0 prefix1 => st0 18 [.v (.string s0), .v (.string prefix1)] []
abbrev R_internal_stringslite_HasPrefix : Type := ((Bool × Unit) × Unit)
noncomputable def res_internal_stringslite_HasPrefix : Res E (Bool × Unit) Unit := { rows := [], flat := [], keep := 0, rl := (RdL.cons Rd.bool RdL.nil), rb := RdBL.nil }
noncomputable def run_internal_stringslite_HasPrefix : P_internal_stringslite_HasPrefix → Option R_internal_stringslite_HasPrefix
 | .start s0 prefix1 =>
   if (decide ((s0.size : Int) ≥ (prefix1.size : Int))) = true then
     (span s0.size (0 : Int) (prefix1.size : Int)) >>= fun t1 =>
     some ((seq (s0.extract t1.1 t1.2) prefix1, ()), ())
   else
     some ((false, ()), ())
noncomputable def tab_internal_stringslite_HasPrefix : List (Plc E P_internal_stringslite_HasPrefix) := []
theorem tab_internal_stringslite_HasPrefix_ok : All (PlcOk 18 0 place_internal_stringslite_HasPrefix st_internal_stringslite_HasPrefix) tab_internal_stringslite_HasPrefix := trivial
noncomputable def code_internal_stringslite_HasPrefix : Code := Tryd.f84.body.getD .skip
noncomputable def spec_internal_stringslite_HasPrefix : Spec E.S := noSpec
theorem spec_internal_stringslite_HasPrefix_ok : SpecOk E spec_internal_stringslite_HasPrefix := noSpec_ok
theorem good_internal_stringslite_HasPrefix : ∀ pt r, run_internal_stringslite_HasPrefix pt = some r → Good E Tryd.f84 code_internal_stringslite_HasPrefix 0 (res_internal_stringslite_HasPrefix.av r) (res_internal_stringslite_HasPrefix.bx r) (place_internal_stringslite_HasPrefix pt) (st_internal_stringslite_HasPrefix pt) := by
  intro pt r hr
  cases pt <;> exact fn_step (spec := spec_internal_stringslite_HasPrefix) (wr := (fun i => mem i [])) (l := tab_internal_stringslite_HasPrefix) (z := 18) (p := res_internal_stringslite_HasPrefix) (run' := fun _ => none) E_ok tab_internal_stringslite_HasPrefix_ok.mem rfl spec_internal_stringslite_HasPrefix_ok (fun _ _ h => by cases h) (Eq.trans (by kernel_rfl) hr)
noncomputable def con_internal_stringslite_HasPrefix : Con E := ⟨84, (ByteArray × (ByteArray × Unit)), Unit, (RwL.cons Rd.str.w (RwL.cons Rd.str.w RwL.nil)), RdBL.nil, 0, R_internal_stringslite_HasPrefix, fun a b => run_internal_stringslite_HasPrefix (.start a.1 a.2.1), res_internal_stringslite_HasPrefix.av, res_internal_stringslite_HasPrefix.bx⟩
theorem con_internal_stringslite_HasPrefix_ok : con_internal_stringslite_HasPrefix.Ok := fun a b r h => fn_ok (fn := Tryd.f84) (code := code_internal_stringslite_HasPrefix) E_ok (by kernel_rfl) (by kernel_rfl) (by kernel_rfl) (Nat.le_of_ble_eq_true rfl) (good_internal_stringslite_HasPrefix (.start a.1 a.2.1) r h)

/-! ### strings.HasPrefix -/
inductive P_strings_HasPrefix where
 | start (s0 : ByteArray) (prefix1 : ByteArray)
noncomputable def place_strings_HasPrefix : P_strings_HasPrefix → List Bool
 | .start .. => []
noncomputable def st_strings_HasPrefix : P_strings_HasPrefix → St E.S
 | .start s0 prefix1 => st0 8 [.v (.string s0), .v (.string prefix1)] []
abbrev R_strings_HasPrefix : Type := ((Bool × Unit) × Unit)
noncomputable def res_strings_HasPrefix : Res E (Bool × Unit) Unit := { rows := [], flat := [], keep := 0, rl := (RdL.cons Rd.bool RdL.nil), rb := RdBL.nil }
noncomputable def run_strings_HasPrefix : P_strings_HasPrefix → Option R_strings_HasPrefix
 | .start s0 prefix1 =>
   (run_internal_stringslite_HasPrefix (.start s0 prefix1)) >>= fun t1 =>
   some ((t1.1.1, ()), ())
noncomputable def tab_strings_HasPrefix : List (Plc E P_strings_HasPrefix) := []
theorem tab_strings_HasPrefix_ok : All (PlcOk 8 0 place_strings_HasPrefix st_strings_HasPrefix) tab_strings_HasPrefix := trivial
noncomputable def code_strings_HasPrefix : Code := Tryd.f75.body.getD .skip
noncomputable def spec_strings_HasPrefix : Spec E.S := (Con.add con_internal_stringslite_HasPrefix noSpec)
theorem spec_strings_HasPrefix_ok : SpecOk E spec_strings_HasPrefix := (Con.add_ok con_internal_stringslite_HasPrefix_ok noSpec_ok)
theorem good_strings_HasPrefix : ∀ pt r, run_strings_HasPrefix pt = some r → Good E Tryd.f75 code_strings_HasPrefix 0 (res_strings_HasPrefix.av r) (res_strings_HasPrefix.bx r) (place_strings_HasPrefix pt) (st_strings_HasPrefix pt) := by
  intro pt r hr
  cases pt <;> exact fn_step (spec := spec_strings_HasPrefix) (wr := (fun i => mem i [])) (l := tab_strings_HasPrefix) (z := 8) (p := res_strings_HasPrefix) (run' := fun _ => none) E_ok tab_strings_HasPrefix_ok.mem rfl spec_strings_HasPrefix_ok (fun _ _ h => by cases h) (Eq.trans (by kernel_rfl) hr)
noncomputable def con_strings_HasPrefix : Con E := ⟨75, (ByteArray × (ByteArray × Unit)), Unit, (RwL.cons Rd.str.w (RwL.cons Rd.str.w RwL.nil)), RdBL.nil, 0, R_strings_HasPrefix, fun a b => run_strings_HasPrefix (.start a.1 a.2.1), res_strings_HasPrefix.av, res_strings_HasPrefix.bx⟩
theorem con_strings_HasPrefix_ok : con_strings_HasPrefix.Ok := fun a b r h => fn_ok (fn := Tryd.f75) (code := code_strings_HasPrefix) E_ok (by kernel_rfl) (by kernel_rfl) (by kernel_rfl) (Nat.le_of_ble_eq_true rfl) (good_strings_HasPrefix (.start a.1 a.2.1) r h)

/-! ### (*ratchet/lexer.scanner).has -/
inductive P_lexer_scanner_has where
 | start (what1 : ByteArray) (B0_0 : ByteArray) (B0_1 : Int) (B0_2 : Int)
noncomputable def place_lexer_scanner_has : P_lexer_scanner_has → List Bool
 | .start .. => []
noncomputable def st_lexer_scanner_has : P_lexer_scanner_has → St E.S
 | .start what1 B0_0 B0_1 B0_2 => st0 16 [.bp 0 0, .v (.string what1)] [.var 62 [.v (.string B0_0), .v (.int .i64 B0_1), .v (.int .i64 B0_2)]]
abbrev R_lexer_scanner_has : Type := ((Bool × Unit) × ((ByteArray × (Int × (Int × Unit))) × Unit))
noncomputable def res_lexer_scanner_has : Res E (Bool × Unit) ((ByteArray × (Int × (Int × Unit))) × Unit) := { rows := [], flat := [], keep := 1, rl := (RdL.cons Rd.bool RdL.nil), rb := (RdBL.cons (RdB.var 62 (RdL.cons Rd.str (RdL.cons (Rd.int .i64) (RdL.cons (Rd.int .i64) RdL.nil)))) RdBL.nil) }
noncomputable def run_lexer_scanner_has : P_lexer_scanner_has → Option R_lexer_scanner_has
 | .start what1 B0_0 B0_1 B0_2 =>
   (span B0_0.size B0_1 (B0_0.size : Int)) >>= fun t1 =>
   (run_strings_HasPrefix (.start (B0_0.extract t1.1 t1.2) what1)) >>= fun t2 =>
   some ((t2.1.1, ()), ((B0_0, (B0_1, (B0_2, ()))), ()))
noncomputable def tab_lexer_scanner_has : List (Plc E P_lexer_scanner_has) := []
theorem tab_lexer_scanner_has_ok : All (PlcOk 16 1 place_lexer_scanner_has st_lexer_scanner_has) tab_lexer_scanner_has := trivial
noncomputable def code_lexer_scanner_has : Code := Tryd.f57.body.getD .skip
noncomputable def spec_lexer_scanner_has : Spec E.S := (Con.add con_strings_HasPrefix noSpec)
theorem spec_lexer_scanner_has_ok : SpecOk E spec_lexer_scanner_has := (Con.add_ok con_strings_HasPrefix_ok noSpec_ok)
theorem good_lexer_scanner_has : ∀ pt r, run_lexer_scanner_has pt = some r → Good E Tryd.f57 code_lexer_scanner_has 1 (res_lexer_scanner_has.av r) (res_lexer_scanner_has.bx r) (place_lexer_scanner_has pt) (st_lexer_scanner_has pt) := by
  intro pt r hr
  cases pt <;> exact fn_step (spec := spec_lexer_scanner_has) (wr := (fun i => mem i [])) (l := tab_lexer_scanner_has) (z := 16) (p := res_lexer_scanner_has) (run' := fun _ => none) E_ok tab_lexer_scanner_has_ok.mem rfl spec_lexer_scanner_has_ok (fun _ _ h => by cases h) (Eq.trans (by kernel_rfl) hr)
noncomputable def con_lexer_scanner_has : Con E := ⟨57, (Unit × (ByteArray × Unit)), ((ByteArray × (Int × (Int × Unit))) × Unit), (RwL.cons (Rd.bp 0 0).w (RwL.cons Rd.str.w RwL.nil)), (RdBL.cons (RdB.var 62 (RdL.cons Rd.str (RdL.cons (Rd.int .i64) (RdL.cons (Rd.int .i64) RdL.nil)))) RdBL.nil), 1, R_lexer_scanner_has, fun a b => run_lexer_scanner_has (.start a.2.1 b.1.1 b.1.2.1 b.1.2.2.1), res_lexer_scanner_has.av, res_lexer_scanner_has.bx⟩
theorem con_lexer_scanner_has_ok : con_lexer_scanner_has.Ok := fun a b r h => fn_ok (fn := Tryd.f57) (code := code_lexer_scanner_has) E_ok (by kernel_rfl) (by kernel_rfl) (by kernel_rfl) (Nat.le_of_ble_eq_true rfl) (good_lexer_scanner_has (.start a.2.1 b.1.1 b.1.2.1 b.1.2.2.1) r h)

/-! ### ratchet/lexer.isPermitted -/
inductive P_lexer_isPermitted where
 | start (c0 : Int)
noncomputable def place_lexer_isPermitted : P_lexer_isPermitted → List Bool
 | .start .. => []
noncomputable def st_lexer_isPermitted : P_lexer_isPermitted → St E.S
 | .start c0 => st0 17 [.v (.int .u8 c0)] []
abbrev R_lexer_isPermitted : Type := ((Bool × Unit) × Unit)
noncomputable def res_lexer_isPermitted : Res E (Bool × Unit) Unit := { rows := [], flat := [], keep := 0, rl := (RdL.cons Rd.bool RdL.nil), rb := RdBL.nil }
noncomputable def run_lexer_isPermitted : P_lexer_isPermitted → Option R_lexer_isPermitted
 | .start c0 =>
   if (c0 == (9 : Int)) = true then
     some ((true, ()), ())
   else
     if (c0 == (10 : Int)) = true then
       some ((true, ()), ())
     else
       if (decide ((32 : Int) ≤ c0)) = true then
         some ((decide (c0 ≤ (126 : Int)), ()), ())
       else
         some ((false, ()), ())
noncomputable def tab_lexer_isPermitted : List (Plc E P_lexer_isPermitted) := []
theorem tab_lexer_isPermitted_ok : All (PlcOk 17 0 place_lexer_isPermitted st_lexer_isPermitted) tab_lexer_isPermitted := trivial
noncomputable def code_lexer_isPermitted : Code := Tryd.f59.body.getD .skip
noncomputable def spec_lexer_isPermitted : Spec E.S := noSpec
theorem spec_lexer_isPermitted_ok : SpecOk E spec_lexer_isPermitted := noSpec_ok
theorem good_lexer_isPermitted : ∀ pt r, run_lexer_isPermitted pt = some r → Good E Tryd.f59 code_lexer_isPermitted 0 (res_lexer_isPermitted.av r) (res_lexer_isPermitted.bx r) (place_lexer_isPermitted pt) (st_lexer_isPermitted pt) := by
  intro pt r hr
  cases pt <;> exact fn_step (spec := spec_lexer_isPermitted) (wr := (fun i => mem i [])) (l := tab_lexer_isPermitted) (z := 17) (p := res_lexer_isPermitted) (run' := fun _ => none) E_ok tab_lexer_isPermitted_ok.mem rfl spec_lexer_isPermitted_ok (fun _ _ h => by cases h) (Eq.trans (by kernel_rfl) hr)
noncomputable def con_lexer_isPermitted : Con E := ⟨59, (Int × Unit), Unit, (RwL.cons (Rd.int .u8).w RwL.nil), RdBL.nil, 0, R_lexer_isPermitted, fun a b => run_lexer_isPermitted (.start a.1), res_lexer_isPermitted.av, res_lexer_isPermitted.bx⟩
theorem con_lexer_isPermitted_ok : con_lexer_isPermitted.Ok := fun a b r h => fn_ok (fn := Tryd.f59) (code := code_lexer_isPermitted) E_ok (by kernel_rfl) (by kernel_rfl) (by kernel_rfl) (Nat.le_of_ble_eq_true rfl) (good_lexer_isPermitted (.start a.1) r h)

/-! ### (*ratchet/lexer.scanner).fail -/
inductive P_lexer_scanner_fail where
 | start (at1 : Int) (e2 : Int) (B0_0 : ByteArray) (B0_1 : Int) (B0_2 : Int)
noncomputable def place_lexer_scanner_fail : P_lexer_scanner_fail → List Bool
 | .start .. => []
noncomputable def st_lexer_scanner_fail : P_lexer_scanner_fail → St E.S
 | .start at1 e2 B0_0 B0_1 B0_2 => st0 19 [.bp 0 0, .v (.int .i64 at1), .v (.int .i64 e2)] [.var 62 [.v (.string B0_0), .v (.int .i64 B0_1), .v (.int .i64 B0_2)]]
abbrev R_lexer_scanner_fail : Type := (Unit × ((ByteArray × (Int × (Int × Unit))) × Unit))
noncomputable def res_lexer_scanner_fail : Res E Unit ((ByteArray × (Int × (Int × Unit))) × Unit) := { rows := [], flat := [], keep := 1, rl := RdL.nil, rb := (RdBL.cons (RdB.var 62 (RdL.cons Rd.str (RdL.cons (Rd.int .i64) (RdL.cons (Rd.int .i64) RdL.nil)))) RdBL.nil) }
noncomputable def run_lexer_scanner_fail : P_lexer_scanner_fail → Option R_lexer_scanner_fail
 | .start at1 e2 B0_0 B0_1 B0_2 =>
   if (B0_2 == (0 : Int)) = true then
     some ((), ((B0_0, (at1, (e2, ()))), ()))
   else
     some ((), ((B0_0, (B0_1, (B0_2, ()))), ()))
noncomputable def tab_lexer_scanner_fail : List (Plc E P_lexer_scanner_fail) := []
theorem tab_lexer_scanner_fail_ok : All (PlcOk 19 1 place_lexer_scanner_fail st_lexer_scanner_fail) tab_lexer_scanner_fail := trivial
noncomputable def code_lexer_scanner_fail : Code := Tryd.f60.body.getD .skip
noncomputable def spec_lexer_scanner_fail : Spec E.S := noSpec
theorem spec_lexer_scanner_fail_ok : SpecOk E spec_lexer_scanner_fail := noSpec_ok
theorem good_lexer_scanner_fail : ∀ pt r, run_lexer_scanner_fail pt = some r → Good E Tryd.f60 code_lexer_scanner_fail 1 (res_lexer_scanner_fail.av r) (res_lexer_scanner_fail.bx r) (place_lexer_scanner_fail pt) (st_lexer_scanner_fail pt) := by
  intro pt r hr
  cases pt <;> exact fn_step (spec := spec_lexer_scanner_fail) (wr := (fun i => mem i [])) (l := tab_lexer_scanner_fail) (z := 19) (p := res_lexer_scanner_fail) (run' := fun _ => none) E_ok tab_lexer_scanner_fail_ok.mem rfl spec_lexer_scanner_fail_ok (fun _ _ h => by cases h) (Eq.trans (by kernel_rfl) hr)
noncomputable def con_lexer_scanner_fail : Con E := ⟨60, (Unit × (Int × (Int × Unit))), ((ByteArray × (Int × (Int × Unit))) × Unit), (RwL.cons (Rd.bp 0 0).w (RwL.cons (Rd.int .i64).w (RwL.cons (Rd.int .i64).w RwL.nil))), (RdBL.cons (RdB.var 62 (RdL.cons Rd.str (RdL.cons (Rd.int .i64) (RdL.cons (Rd.int .i64) RdL.nil)))) RdBL.nil), 1, R_lexer_scanner_fail, fun a b => run_lexer_scanner_fail (.start a.2.1 a.2.2.1 b.1.1 b.1.2.1 b.1.2.2.1), res_lexer_scanner_fail.av, res_lexer_scanner_fail.bx⟩
theorem con_lexer_scanner_fail_ok : con_lexer_scanner_fail.Ok := fun a b r h => fn_ok (fn := Tryd.f60) (code := code_lexer_scanner_fail) E_ok (by kernel_rfl) (by kernel_rfl) (by kernel_rfl) (Nat.le_of_ble_eq_true rfl) (good_lexer_scanner_fail (.start a.2.1 a.2.2.1 b.1.1 b.1.2.1 b.1.2.2.1) r h)

/-! ### (*ratchet/lexer.scanner).step -/
inductive P_lexer_scanner_step where
 | start (B0_0 : ByteArray) (B0_1 : Int) (B0_2 : Int)
noncomputable def place_lexer_scanner_step : P_lexer_scanner_step → List Bool
 | .start .. => []
noncomputable def st_lexer_scanner_step : P_lexer_scanner_step → St E.S
 | .start B0_0 B0_1 B0_2 => st0 26 [.bp 0 0] [.var 62 [.v (.string B0_0), .v (.int .i64 B0_1), .v (.int .i64 B0_2)]]
abbrev R_lexer_scanner_step : Type := (Unit × ((ByteArray × (Int × (Int × Unit))) × Unit))
noncomputable def res_lexer_scanner_step : Res E Unit ((ByteArray × (Int × (Int × Unit))) × Unit) := { rows := [], flat := [], keep := 1, rl := RdL.nil, rb := (RdBL.cons (RdB.var 62 (RdL.cons Rd.str (RdL.cons (Rd.int .i64) (RdL.cons (Rd.int .i64) RdL.nil)))) RdBL.nil) }
noncomputable def run_lexer_scanner_step : P_lexer_scanner_step → Option R_lexer_scanner_step
 | .start B0_0 B0_1 B0_2 =>
   (sidx B0_0 B0_1) >>= fun t1 =>
   (run_lexer_isPermitted (.start t1)) >>= fun t2 =>
   if (!t2.1.1) = true then
     (run_lexer_scanner_fail (.start B0_1 (15 : Int) B0_0 B0_1 B0_2)) >>= fun t3 =>
     some ((), ((t3.2.1.1, (t3.2.1.2.1, (t3.2.1.2.2.1, ()))), ()))
   else
     some ((), ((B0_0, (IntKind.wrap .i64 (B0_1 + (1 : Int)), (B0_2, ()))), ()))
noncomputable def tab_lexer_scanner_step : List (Plc E P_lexer_scanner_step) := []
theorem tab_lexer_scanner_step_ok : All (PlcOk 26 1 place_lexer_scanner_step st_lexer_scanner_step) tab_lexer_scanner_step := trivial
noncomputable def code_lexer_scanner_step : Code := Tryd.f34.body.getD .skip
noncomputable def spec_lexer_scanner_step : Spec E.S := (Con.add con_lexer_scanner_fail (Con.add con_lexer_isPermitted noSpec))
theorem spec_lexer_scanner_step_ok : SpecOk E spec_lexer_scanner_step := (Con.add_ok con_lexer_scanner_fail_ok (Con.add_ok con_lexer_isPermitted_ok noSpec_ok))
theorem good_lexer_scanner_step : ∀ pt r, run_lexer_scanner_step pt = some r → Good E Tryd.f34 code_lexer_scanner_step 1 (res_lexer_scanner_step.av r) (res_lexer_scanner_step.bx r) (place_lexer_scanner_step pt) (st_lexer_scanner_step pt) := by
  intro pt r hr
  cases pt <;> exact fn_step (spec := spec_lexer_scanner_step) (wr := (fun i => mem i [])) (l := tab_lexer_scanner_step) (z := 26) (p := res_lexer_scanner_step) (run' := fun _ => none) E_ok tab_lexer_scanner_step_ok.mem rfl spec_lexer_scanner_step_ok (fun _ _ h => by cases h) (Eq.trans (by kernel_rfl) hr)
noncomputable def con_lexer_scanner_step : Con E := ⟨34, (Unit × Unit), ((ByteArray × (Int × (Int × Unit))) × Unit), (RwL.cons (Rd.bp 0 0).w RwL.nil), (RdBL.cons (RdB.var 62 (RdL.cons Rd.str (RdL.cons (Rd.int .i64) (RdL.cons (Rd.int .i64) RdL.nil)))) RdBL.nil), 1, R_lexer_scanner_step, fun a b => run_lexer_scanner_step (.start b.1.1 b.1.2.1 b.1.2.2.1), res_lexer_scanner_step.av, res_lexer_scanner_step.bx⟩
theorem con_lexer_scanner_step_ok : con_lexer_scanner_step.Ok := fun a b r h => fn_ok (fn := Tryd.f34) (code := code_lexer_scanner_step) E_ok (by kernel_rfl) (by kernel_rfl) (by kernel_rfl) (Nat.le_of_ble_eq_true rfl) (good_lexer_scanner_step (.start b.1.1 b.1.2.1 b.1.2.2.1) r h)

/-! ### (*ratchet/lexer.scanner).nested -/
inductive P_lexer_scanner_nested where
 | start (B0_0 : ByteArray) (B0_1 : Int) (B0_2 : Int)
 | p24 (from2 : Int) (depth3 : Int) (B0_0 : ByteArray) (B0_1 : Int) (B0_2 : Int)
 | p197 (from2 : Int) (depth3 : Int) (B0_0 : ByteArray) (B0_1 : Int) (B0_2 : Int)
noncomputable def place_lexer_scanner_nested : P_lexer_scanner_nested → List Bool
 | .start .. => []
 | .p24 .. => [false, false, false, true]
 | .p197 .. => [true, false, true, false, false, false, true]
noncomputable def st_lexer_scanner_nested : P_lexer_scanner_nested → St E.S
 | .start B0_0 B0_1 B0_2 => st0 49 [.bp 0 0] [.var 62 [.v (.string B0_0), .v (.int .i64 B0_1), .v (.int .i64 B0_2)]]
 | .p24 from2 depth3 B0_0 B0_1 B0_2 => mkSt 49 [0, 2, 3] [.bp 0 0, .v (.int .i64 from2), .v (.int .i64 depth3)] [.var 62 [.v (.string B0_0), .v (.int .i64 B0_1), .v (.int .i64 B0_2)]]
 | .p197 from2 depth3 B0_0 B0_1 B0_2 => mkSt 49 [0, 2, 3] [.bp 0 0, .v (.int .i64 from2), .v (.int .i64 depth3)] [.var 62 [.v (.string B0_0), .v (.int .i64 B0_1), .v (.int .i64 B0_2)]]
abbrev R_lexer_scanner_nested : Type := (Unit × ((ByteArray × (Int × (Int × Unit))) × Unit))
noncomputable def res_lexer_scanner_nested : Res E Unit ((ByteArray × (Int × (Int × Unit))) × Unit) := { rows := [], flat := [], keep := 1, rl := RdL.nil, rb := (RdBL.cons (RdB.var 62 (RdL.cons Rd.str (RdL.cons (Rd.int .i64) (RdL.cons (Rd.int .i64) RdL.nil)))) RdBL.nil) }
noncomputable def run_lexer_scanner_nested : P_lexer_scanner_nested → Option R_lexer_scanner_nested
 | .start B0_0 B0_1 B0_2 =>
   run_lexer_scanner_nested (.p24 B0_1 (0 : Int) B0_0 B0_1 B0_2)
 | .p24 from2 depth3 B0_0 B0_1 B0_2 =>
   (run_lexer_scanner_ended (.start B0_0 B0_1 B0_2)) >>= fun t1 =>
   if (!t1.1.1) = true then
     (run_lexer_scanner_has (.start (⟨#[47, 42]⟩ : ByteArray) t1.2.1.1 t1.2.1.2.1 t1.2.1.2.2.1)) >>= fun t2 =>
     if t2.1.1 = true then
       run_lexer_scanner_nested (.p197 from2 (IntKind.wrap .i64 (depth3 + (1 : Int))) t2.2.1.1 (IntKind.wrap .i64 (t2.2.1.2.1 + (2 : Int))) t2.2.1.2.2.1)
     else
       (run_lexer_scanner_has (.start (⟨#[42, 47]⟩ : ByteArray) t2.2.1.1 t2.2.1.2.1 t2.2.1.2.2.1)) >>= fun t3 =>
       if t3.1.1 = true then
         run_lexer_scanner_nested (.p197 from2 (IntKind.wrap .i64 (depth3 - (1 : Int))) t3.2.1.1 (IntKind.wrap .i64 (t3.2.1.2.1 + (2 : Int))) t3.2.1.2.2.1)
       else
         (run_lexer_scanner_step (.start t3.2.1.1 t3.2.1.2.1 t3.2.1.2.2.1)) >>= fun t4 =>
         run_lexer_scanner_nested (.p197 from2 depth3 t4.2.1.1 t4.2.1.2.1 t4.2.1.2.2.1)
   else
     (run_lexer_scanner_fail (.start from2 (21 : Int) t1.2.1.1 t1.2.1.2.1 t1.2.1.2.2.1)) >>= fun t5 =>
     some ((), ((t5.2.1.1, (t5.2.1.2.1, (t5.2.1.2.2.1, ()))), ()))
 | .p197 from2 depth3 B0_0 B0_1 B0_2 =>
   if (depth3 == (0 : Int)) = true then
     if (B0_2 == (0 : Int)) = true then
       some ((), ((B0_0, (B0_1, (B0_2, ()))), ()))
     else
       run_lexer_scanner_nested (.p24 from2 depth3 B0_0 B0_1 B0_2)
   else
     run_lexer_scanner_nested (.p24 from2 depth3 B0_0 B0_1 B0_2)
  partial_fixpoint
noncomputable def tab_lexer_scanner_nested : List (Plc E P_lexer_scanner_nested) := [⟨24, [false, false, false, true], { slots := [0, 2, 3], rows := [], flat := [], keep := 1 }, (Unit × (Int × (Int × Unit))), ((ByteArray × (Int × (Int × Unit))) × Unit), (RdL.cons (Rd.bp 0 0) (RdL.cons (Rd.int .i64) (RdL.cons (Rd.int .i64) RdL.nil))), (RdBL.cons (RdB.var 62 (RdL.cons Rd.str (RdL.cons (Rd.int .i64) (RdL.cons (Rd.int .i64) RdL.nil)))) RdBL.nil), fun a b => .p24 a.2.1 a.2.2.1 b.1.1 b.1.2.1 b.1.2.2.1⟩,
  ⟨197, [true, false, true, false, false, false, true], { slots := [0, 2, 3], rows := [], flat := [], keep := 1 }, (Unit × (Int × (Int × Unit))), ((ByteArray × (Int × (Int × Unit))) × Unit), (RdL.cons (Rd.bp 0 0) (RdL.cons (Rd.int .i64) (RdL.cons (Rd.int .i64) RdL.nil))), (RdBL.cons (RdB.var 62 (RdL.cons Rd.str (RdL.cons (Rd.int .i64) (RdL.cons (Rd.int .i64) RdL.nil)))) RdBL.nil), fun a b => .p197 a.2.1 a.2.2.1 b.1.1 b.1.2.1 b.1.2.2.1⟩]
theorem tab_lexer_scanner_nested_ok : All (PlcOk 49 1 place_lexer_scanner_nested st_lexer_scanner_nested) tab_lexer_scanner_nested := ⟨⟨rfl, rfl, fun _ _ => rfl, fun _ _ => rfl⟩, ⟨⟨rfl, rfl, fun _ _ => rfl, fun _ _ => rfl⟩, trivial⟩⟩
noncomputable def code_lexer_scanner_nested : Code := Tryd.f58.body.getD .skip
noncomputable def spec_lexer_scanner_nested : Spec E.S := (Con.add con_lexer_scanner_fail (Con.add con_lexer_scanner_step (Con.add con_lexer_scanner_has (Con.add con_lexer_scanner_ended noSpec))))
theorem spec_lexer_scanner_nested_ok : SpecOk E spec_lexer_scanner_nested := (Con.add_ok con_lexer_scanner_fail_ok (Con.add_ok con_lexer_scanner_step_ok (Con.add_ok con_lexer_scanner_has_ok (Con.add_ok con_lexer_scanner_ended_ok noSpec_ok))))
theorem good_lexer_scanner_nested : ∀ pt r, run_lexer_scanner_nested pt = some r → Good E Tryd.f58 code_lexer_scanner_nested 1 (res_lexer_scanner_nested.av r) (res_lexer_scanner_nested.bx r) (place_lexer_scanner_nested pt) (st_lexer_scanner_nested pt) := by
  refine run_lexer_scanner_nested.partial_correctness (fun pt r => Good E Tryd.f58 code_lexer_scanner_nested 1 (res_lexer_scanner_nested.av r) (res_lexer_scanner_nested.bx r) (place_lexer_scanner_nested pt) (st_lexer_scanner_nested pt)) ?_
  intro run' ih pt r hr
  cases pt <;> exact fn_step (spec := spec_lexer_scanner_nested) (wr := (fun i => mem i [])) (l := tab_lexer_scanner_nested) (z := 49) (p := res_lexer_scanner_nested) E_ok tab_lexer_scanner_nested_ok.mem rfl spec_lexer_scanner_nested_ok ih (Eq.trans (by kernel_rfl) hr)
noncomputable def con_lexer_scanner_nested : Con E := ⟨58, (Unit × Unit), ((ByteArray × (Int × (Int × Unit))) × Unit), (RwL.cons (Rd.bp 0 0).w RwL.nil), (RdBL.cons (RdB.var 62 (RdL.cons Rd.str (RdL.cons (Rd.int .i64) (RdL.cons (Rd.int .i64) RdL.nil)))) RdBL.nil), 1, R_lexer_scanner_nested, fun a b => run_lexer_scanner_nested (.start b.1.1 b.1.2.1 b.1.2.2.1), res_lexer_scanner_nested.av, res_lexer_scanner_nested.bx⟩
theorem con_lexer_scanner_nested_ok : con_lexer_scanner_nested.Ok := fun a b r h => fn_ok (fn := Tryd.f58) (code := code_lexer_scanner_nested) E_ok (by kernel_rfl) (by kernel_rfl) (by kernel_rfl) (Nat.le_of_ble_eq_true rfl) (good_lexer_scanner_nested (.start b.1.1 b.1.2.1 b.1.2.2.1) r h)

/-! ### (*ratchet/lexer.scanner).comment -/
inductive P_lexer_scanner_comment where
 | start (B0_0 : ByteArray) (B0_1 : Int) (B0_2 : Int)
 | p200 (B0_0 : ByteArray) (B0_1 : Int) (B0_2 : Int)
noncomputable def place_lexer_scanner_comment : P_lexer_scanner_comment → List Bool
 | .start .. => []
 | .p200 .. => [false, false, false, true, false, false, true]
noncomputable def st_lexer_scanner_comment : P_lexer_scanner_comment → St E.S
 | .start B0_0 B0_1 B0_2 => st0 28 [.bp 0 0] [.var 62 [.v (.string B0_0), .v (.int .i64 B0_1), .v (.int .i64 B0_2)]]
 | .p200 B0_0 B0_1 B0_2 => mkSt 28 [0] [.bp 0 0] [.var 62 [.v (.string B0_0), .v (.int .i64 B0_1), .v (.int .i64 B0_2)]]
abbrev R_lexer_scanner_comment : Type := ((Bool × Unit) × ((ByteArray × (Int × (Int × Unit))) × Unit))
noncomputable def res_lexer_scanner_comment : Res E (Bool × Unit) ((ByteArray × (Int × (Int × Unit))) × Unit) := { rows := [], flat := [], keep := 1, rl := (RdL.cons Rd.bool RdL.nil), rb := (RdBL.cons (RdB.var 62 (RdL.cons Rd.str (RdL.cons (Rd.int .i64) (RdL.cons (Rd.int .i64) RdL.nil)))) RdBL.nil) }
noncomputable def run_lexer_scanner_comment : P_lexer_scanner_comment → Option R_lexer_scanner_comment
 | .start B0_0 B0_1 B0_2 =>
   (run_lexer_scanner_has (.start (⟨#[47, 47]⟩ : ByteArray) B0_0 B0_1 B0_2)) >>= fun t1 =>
   if t1.1.1 = true then
     run_lexer_scanner_comment (.p200 t1.2.1.1 t1.2.1.2.1 t1.2.1.2.2.1)
   else
     (run_lexer_scanner_has (.start (⟨#[47, 42]⟩ : ByteArray) t1.2.1.1 t1.2.1.2.1 t1.2.1.2.2.1)) >>= fun t2 =>
     if t2.1.1 = true then
       (run_lexer_scanner_nested (.start t2.2.1.1 t2.2.1.2.1 t2.2.1.2.2.1)) >>= fun t3 =>
       some ((true, ()), ((t3.2.1.1, (t3.2.1.2.1, (t3.2.1.2.2.1, ()))), ()))
     else
       some ((false, ()), ((t2.2.1.1, (t2.2.1.2.1, (t2.2.1.2.2.1, ()))), ()))
 | .p200 B0_0 B0_1 B0_2 =>
   (run_lexer_scanner_ended (.start B0_0 B0_1 B0_2)) >>= fun t1 =>
   if (!t1.1.1) = true then
     (sidx t1.2.1.1 t1.2.1.2.1) >>= fun t2 =>
     if (t2 != (10 : Int)) = true then
       (run_lexer_scanner_step (.start t1.2.1.1 t1.2.1.2.1 t1.2.1.2.2.1)) >>= fun t3 =>
       run_lexer_scanner_comment (.p200 t3.2.1.1 t3.2.1.2.1 t3.2.1.2.2.1)
     else
       some ((true, ()), ((t1.2.1.1, (t1.2.1.2.1, (t1.2.1.2.2.1, ()))), ()))
   else
     some ((true, ()), ((t1.2.1.1, (t1.2.1.2.1, (t1.2.1.2.2.1, ()))), ()))
  partial_fixpoint
noncomputable def tab_lexer_scanner_comment : List (Plc E P_lexer_scanner_comment) := [⟨200, [false, false, false, true, false, false, true], { slots := [0], rows := [], flat := [], keep := 1 }, (Unit × Unit), ((ByteArray × (Int × (Int × Unit))) × Unit), (RdL.cons (Rd.bp 0 0) RdL.nil), (RdBL.cons (RdB.var 62 (RdL.cons Rd.str (RdL.cons (Rd.int .i64) (RdL.cons (Rd.int .i64) RdL.nil)))) RdBL.nil), fun a b => .p200 b.1.1 b.1.2.1 b.1.2.2.1⟩]
theorem tab_lexer_scanner_comment_ok : All (PlcOk 28 1 place_lexer_scanner_comment st_lexer_scanner_comment) tab_lexer_scanner_comment := ⟨⟨rfl, rfl, fun _ _ => rfl, fun _ _ => rfl⟩, trivial⟩
noncomputable def code_lexer_scanner_comment : Code := Tryd.f33.body.getD .skip
noncomputable def spec_lexer_scanner_comment : Spec E.S := (Con.add con_lexer_scanner_step (Con.add con_lexer_scanner_ended (Con.add con_lexer_scanner_nested (Con.add con_lexer_scanner_has noSpec))))
theorem spec_lexer_scanner_comment_ok : SpecOk E spec_lexer_scanner_comment := (Con.add_ok con_lexer_scanner_step_ok (Con.add_ok con_lexer_scanner_ended_ok (Con.add_ok con_lexer_scanner_nested_ok (Con.add_ok con_lexer_scanner_has_ok noSpec_ok))))
theorem good_lexer_scanner_comment : ∀ pt r, run_lexer_scanner_comment pt = some r → Good E Tryd.f33 code_lexer_scanner_comment 1 (res_lexer_scanner_comment.av r) (res_lexer_scanner_comment.bx r) (place_lexer_scanner_comment pt) (st_lexer_scanner_comment pt) := by
  refine run_lexer_scanner_comment.partial_correctness (fun pt r => Good E Tryd.f33 code_lexer_scanner_comment 1 (res_lexer_scanner_comment.av r) (res_lexer_scanner_comment.bx r) (place_lexer_scanner_comment pt) (st_lexer_scanner_comment pt)) ?_
  intro run' ih pt r hr
  cases pt <;> exact fn_step (spec := spec_lexer_scanner_comment) (wr := (fun i => mem i [])) (l := tab_lexer_scanner_comment) (z := 28) (p := res_lexer_scanner_comment) E_ok tab_lexer_scanner_comment_ok.mem rfl spec_lexer_scanner_comment_ok ih (Eq.trans (by kernel_rfl) hr)
noncomputable def con_lexer_scanner_comment : Con E := ⟨33, (Unit × Unit), ((ByteArray × (Int × (Int × Unit))) × Unit), (RwL.cons (Rd.bp 0 0).w RwL.nil), (RdBL.cons (RdB.var 62 (RdL.cons Rd.str (RdL.cons (Rd.int .i64) (RdL.cons (Rd.int .i64) RdL.nil)))) RdBL.nil), 1, R_lexer_scanner_comment, fun a b => run_lexer_scanner_comment (.start b.1.1 b.1.2.1 b.1.2.2.1), res_lexer_scanner_comment.av, res_lexer_scanner_comment.bx⟩
theorem con_lexer_scanner_comment_ok : con_lexer_scanner_comment.Ok := fun a b r h => fn_ok (fn := Tryd.f33) (code := code_lexer_scanner_comment) E_ok (by kernel_rfl) (by kernel_rfl) (by kernel_rfl) (Nat.le_of_ble_eq_true rfl) (good_lexer_scanner_comment (.start b.1.1 b.1.2.1 b.1.2.2.1) r h)

/-! ### (*ratchet/lexer.scanner).skip -/
inductive P_lexer_scanner_skip where
 | start (B0_0 : ByteArray) (B0_1 : Int) (B0_2 : Int)
 | p4 (B0_0 : ByteArray) (B0_1 : Int) (B0_2 : Int)
noncomputable def place_lexer_scanner_skip : P_lexer_scanner_skip → List Bool
 | .start .. => []
 | .p4 .. => [false, false]
noncomputable def st_lexer_scanner_skip : P_lexer_scanner_skip → St E.S
 | .start B0_0 B0_1 B0_2 => st0 27 [.bp 0 0] [.var 62 [.v (.string B0_0), .v (.int .i64 B0_1), .v (.int .i64 B0_2)]]
 | .p4 B0_0 B0_1 B0_2 => mkSt 27 [0] [.bp 0 0] [.var 62 [.v (.string B0_0), .v (.int .i64 B0_1), .v (.int .i64 B0_2)]]
abbrev R_lexer_scanner_skip : Type := (Unit × ((ByteArray × (Int × (Int × Unit))) × Unit))
noncomputable def res_lexer_scanner_skip : Res E Unit ((ByteArray × (Int × (Int × Unit))) × Unit) := { rows := [], flat := [], keep := 1, rl := RdL.nil, rb := (RdBL.cons (RdB.var 62 (RdL.cons Rd.str (RdL.cons (Rd.int .i64) (RdL.cons (Rd.int .i64) RdL.nil)))) RdBL.nil) }
noncomputable def run_lexer_scanner_skip : P_lexer_scanner_skip → Option R_lexer_scanner_skip
 | .start B0_0 B0_1 B0_2 =>
   run_lexer_scanner_skip (.p4 B0_0 B0_1 B0_2)
 | .p4 B0_0 B0_1 B0_2 =>
   (run_lexer_scanner_ended (.start B0_0 B0_1 B0_2)) >>= fun t1 =>
   if (!t1.1.1) = true then
     (sidx t1.2.1.1 t1.2.1.2.1) >>= fun t2 =>
     (run_lexer_isSpace (.start t2)) >>= fun t3 =>
     if t3.1.1 = true then
       run_lexer_scanner_skip (.p4 t1.2.1.1 (IntKind.wrap .i64 (t1.2.1.2.1 + (1 : Int))) t1.2.1.2.2.1)
     else
       (run_lexer_scanner_comment (.start t1.2.1.1 t1.2.1.2.1 t1.2.1.2.2.1)) >>= fun t4 =>
       if (!t4.1.1) = true then
         some ((), ((t4.2.1.1, (t4.2.1.2.1, (t4.2.1.2.2.1, ()))), ()))
       else
         run_lexer_scanner_skip (.p4 t4.2.1.1 t4.2.1.2.1 t4.2.1.2.2.1)
   else
     some ((), ((t1.2.1.1, (t1.2.1.2.1, (t1.2.1.2.2.1, ()))), ()))
  partial_fixpoint
noncomputable def tab_lexer_scanner_skip : List (Plc E P_lexer_scanner_skip) := [⟨4, [false, false], { slots := [0], rows := [], flat := [], keep := 1 }, (Unit × Unit), ((ByteArray × (Int × (Int × Unit))) × Unit), (RdL.cons (Rd.bp 0 0) RdL.nil), (RdBL.cons (RdB.var 62 (RdL.cons Rd.str (RdL.cons (Rd.int .i64) (RdL.cons (Rd.int .i64) RdL.nil)))) RdBL.nil), fun a b => .p4 b.1.1 b.1.2.1 b.1.2.2.1⟩]
theorem tab_lexer_scanner_skip_ok : All (PlcOk 27 1 place_lexer_scanner_skip st_lexer_scanner_skip) tab_lexer_scanner_skip := ⟨⟨rfl, rfl, fun _ _ => rfl, fun _ _ => rfl⟩, trivial⟩
noncomputable def code_lexer_scanner_skip : Code := Tryd.f30.body.getD .skip
noncomputable def spec_lexer_scanner_skip : Spec E.S := (Con.add con_lexer_scanner_comment (Con.add con_lexer_isSpace (Con.add con_lexer_scanner_ended noSpec)))
theorem spec_lexer_scanner_skip_ok : SpecOk E spec_lexer_scanner_skip := (Con.add_ok con_lexer_scanner_comment_ok (Con.add_ok con_lexer_isSpace_ok (Con.add_ok con_lexer_scanner_ended_ok noSpec_ok)))
theorem good_lexer_scanner_skip : ∀ pt r, run_lexer_scanner_skip pt = some r → Good E Tryd.f30 code_lexer_scanner_skip 1 (res_lexer_scanner_skip.av r) (res_lexer_scanner_skip.bx r) (place_lexer_scanner_skip pt) (st_lexer_scanner_skip pt) := by
  refine run_lexer_scanner_skip.partial_correctness (fun pt r => Good E Tryd.f30 code_lexer_scanner_skip 1 (res_lexer_scanner_skip.av r) (res_lexer_scanner_skip.bx r) (place_lexer_scanner_skip pt) (st_lexer_scanner_skip pt)) ?_
  intro run' ih pt r hr
  cases pt <;> exact fn_step (spec := spec_lexer_scanner_skip) (wr := (fun i => mem i [])) (l := tab_lexer_scanner_skip) (z := 27) (p := res_lexer_scanner_skip) E_ok tab_lexer_scanner_skip_ok.mem rfl spec_lexer_scanner_skip_ok ih (Eq.trans (by kernel_rfl) hr)
noncomputable def con_lexer_scanner_skip : Con E := ⟨30, (Unit × Unit), ((ByteArray × (Int × (Int × Unit))) × Unit), (RwL.cons (Rd.bp 0 0).w RwL.nil), (RdBL.cons (RdB.var 62 (RdL.cons Rd.str (RdL.cons (Rd.int .i64) (RdL.cons (Rd.int .i64) RdL.nil)))) RdBL.nil), 1, R_lexer_scanner_skip, fun a b => run_lexer_scanner_skip (.start b.1.1 b.1.2.1 b.1.2.2.1), res_lexer_scanner_skip.av, res_lexer_scanner_skip.bx⟩
theorem con_lexer_scanner_skip_ok : con_lexer_scanner_skip.Ok := fun a b r h => fn_ok (fn := Tryd.f30) (code := code_lexer_scanner_skip) E_ok (by kernel_rfl) (by kernel_rfl) (by kernel_rfl) (Nat.le_of_ble_eq_true rfl) (good_lexer_scanner_skip (.start b.1.1 b.1.2.1 b.1.2.2.1) r h)

/-! ### ratchet/lexer.isCapital -/
inductive P_lexer_isCapital where
 | start (c0 : Int)
noncomputable def place_lexer_isCapital : P_lexer_isCapital → List Bool
 | .start .. => []
noncomputable def st_lexer_isCapital : P_lexer_isCapital → St E.S
 | .start c0 => st0 9 [.v (.int .u8 c0)] []
abbrev R_lexer_isCapital : Type := ((Bool × Unit) × Unit)
noncomputable def res_lexer_isCapital : Res E (Bool × Unit) Unit := { rows := [], flat := [], keep := 0, rl := (RdL.cons Rd.bool RdL.nil), rb := RdBL.nil }
noncomputable def run_lexer_isCapital : P_lexer_isCapital → Option R_lexer_isCapital
 | .start c0 =>
   if (decide ((65 : Int) ≤ c0)) = true then
     some ((decide (c0 ≤ (90 : Int)), ()), ())
   else
     some ((false, ()), ())
noncomputable def tab_lexer_isCapital : List (Plc E P_lexer_isCapital) := []
theorem tab_lexer_isCapital_ok : All (PlcOk 9 0 place_lexer_isCapital st_lexer_isCapital) tab_lexer_isCapital := trivial
noncomputable def code_lexer_isCapital : Code := Tryd.f72.body.getD .skip
noncomputable def spec_lexer_isCapital : Spec E.S := noSpec
theorem spec_lexer_isCapital_ok : SpecOk E spec_lexer_isCapital := noSpec_ok
theorem good_lexer_isCapital : ∀ pt r, run_lexer_isCapital pt = some r → Good E Tryd.f72 code_lexer_isCapital 0 (res_lexer_isCapital.av r) (res_lexer_isCapital.bx r) (place_lexer_isCapital pt) (st_lexer_isCapital pt) := by
  intro pt r hr
  cases pt <;> exact fn_step (spec := spec_lexer_isCapital) (wr := (fun i => mem i [])) (l := tab_lexer_isCapital) (z := 9) (p := res_lexer_isCapital) (run' := fun _ => none) E_ok tab_lexer_isCapital_ok.mem rfl spec_lexer_isCapital_ok (fun _ _ h => by cases h) (Eq.trans (by kernel_rfl) hr)
noncomputable def con_lexer_isCapital : Con E := ⟨72, (Int × Unit), Unit, (RwL.cons (Rd.int .u8).w RwL.nil), RdBL.nil, 0, R_lexer_isCapital, fun a b => run_lexer_isCapital (.start a.1), res_lexer_isCapital.av, res_lexer_isCapital.bx⟩
theorem con_lexer_isCapital_ok : con_lexer_isCapital.Ok := fun a b r h => fn_ok (fn := Tryd.f72) (code := code_lexer_isCapital) E_ok (by kernel_rfl) (by kernel_rfl) (by kernel_rfl) (Nat.le_of_ble_eq_true rfl) (good_lexer_isCapital (.start a.1) r h)

/-! ### ratchet/lexer.isLetter -/
inductive P_lexer_isLetter where
 | start (c0 : Int)
noncomputable def place_lexer_isLetter : P_lexer_isLetter → List Bool
 | .start .. => []
noncomputable def st_lexer_isLetter : P_lexer_isLetter → St E.S
 | .start c0 => st0 13 [.v (.int .u8 c0)] []
abbrev R_lexer_isLetter : Type := ((Bool × Unit) × Unit)
noncomputable def res_lexer_isLetter : Res E (Bool × Unit) Unit := { rows := [], flat := [], keep := 0, rl := (RdL.cons Rd.bool RdL.nil), rb := RdBL.nil }
noncomputable def run_lexer_isLetter : P_lexer_isLetter → Option R_lexer_isLetter
 | .start c0 =>
   (run_lexer_isCapital (.start c0)) >>= fun t1 =>
   if t1.1.1 = true then
     some ((true, ()), ())
   else
     if (decide ((97 : Int) ≤ c0)) = true then
       some ((decide (c0 ≤ (122 : Int)), ()), ())
     else
       some ((false, ()), ())
noncomputable def tab_lexer_isLetter : List (Plc E P_lexer_isLetter) := []
theorem tab_lexer_isLetter_ok : All (PlcOk 13 0 place_lexer_isLetter st_lexer_isLetter) tab_lexer_isLetter := trivial
noncomputable def code_lexer_isLetter : Code := Tryd.f49.body.getD .skip
noncomputable def spec_lexer_isLetter : Spec E.S := (Con.add con_lexer_isCapital noSpec)
theorem spec_lexer_isLetter_ok : SpecOk E spec_lexer_isLetter := (Con.add_ok con_lexer_isCapital_ok noSpec_ok)
theorem good_lexer_isLetter : ∀ pt r, run_lexer_isLetter pt = some r → Good E Tryd.f49 code_lexer_isLetter 0 (res_lexer_isLetter.av r) (res_lexer_isLetter.bx r) (place_lexer_isLetter pt) (st_lexer_isLetter pt) := by
  intro pt r hr
  cases pt <;> exact fn_step (spec := spec_lexer_isLetter) (wr := (fun i => mem i [])) (l := tab_lexer_isLetter) (z := 13) (p := res_lexer_isLetter) (run' := fun _ => none) E_ok tab_lexer_isLetter_ok.mem rfl spec_lexer_isLetter_ok (fun _ _ h => by cases h) (Eq.trans (by kernel_rfl) hr)
noncomputable def con_lexer_isLetter : Con E := ⟨49, (Int × Unit), Unit, (RwL.cons (Rd.int .u8).w RwL.nil), RdBL.nil, 0, R_lexer_isLetter, fun a b => run_lexer_isLetter (.start a.1), res_lexer_isLetter.av, res_lexer_isLetter.bx⟩
theorem con_lexer_isLetter_ok : con_lexer_isLetter.Ok := fun a b r h => fn_ok (fn := Tryd.f49) (code := code_lexer_isLetter) E_ok (by kernel_rfl) (by kernel_rfl) (by kernel_rfl) (Nat.le_of_ble_eq_true rfl) (good_lexer_isLetter (.start a.1) r h)

/-! ### ratchet/lexer.isDigit -/
inductive P_lexer_isDigit where
 | start (c0 : Int)
noncomputable def place_lexer_isDigit : P_lexer_isDigit → List Bool
 | .start .. => []
noncomputable def st_lexer_isDigit : P_lexer_isDigit → St E.S
 | .start c0 => st0 9 [.v (.int .u8 c0)] []
abbrev R_lexer_isDigit : Type := ((Bool × Unit) × Unit)
noncomputable def res_lexer_isDigit : Res E (Bool × Unit) Unit := { rows := [], flat := [], keep := 0, rl := (RdL.cons Rd.bool RdL.nil), rb := RdBL.nil }
noncomputable def run_lexer_isDigit : P_lexer_isDigit → Option R_lexer_isDigit
 | .start c0 =>
   if (decide ((48 : Int) ≤ c0)) = true then
     some ((decide (c0 ≤ (57 : Int)), ()), ())
   else
     some ((false, ()), ())
noncomputable def tab_lexer_isDigit : List (Plc E P_lexer_isDigit) := []
theorem tab_lexer_isDigit_ok : All (PlcOk 9 0 place_lexer_isDigit st_lexer_isDigit) tab_lexer_isDigit := trivial
noncomputable def code_lexer_isDigit : Code := Tryd.f51.body.getD .skip
noncomputable def spec_lexer_isDigit : Spec E.S := noSpec
theorem spec_lexer_isDigit_ok : SpecOk E spec_lexer_isDigit := noSpec_ok
theorem good_lexer_isDigit : ∀ pt r, run_lexer_isDigit pt = some r → Good E Tryd.f51 code_lexer_isDigit 0 (res_lexer_isDigit.av r) (res_lexer_isDigit.bx r) (place_lexer_isDigit pt) (st_lexer_isDigit pt) := by
  intro pt r hr
  cases pt <;> exact fn_step (spec := spec_lexer_isDigit) (wr := (fun i => mem i [])) (l := tab_lexer_isDigit) (z := 9) (p := res_lexer_isDigit) (run' := fun _ => none) E_ok tab_lexer_isDigit_ok.mem rfl spec_lexer_isDigit_ok (fun _ _ h => by cases h) (Eq.trans (by kernel_rfl) hr)
noncomputable def con_lexer_isDigit : Con E := ⟨51, (Int × Unit), Unit, (RwL.cons (Rd.int .u8).w RwL.nil), RdBL.nil, 0, R_lexer_isDigit, fun a b => run_lexer_isDigit (.start a.1), res_lexer_isDigit.av, res_lexer_isDigit.bx⟩
theorem con_lexer_isDigit_ok : con_lexer_isDigit.Ok := fun a b r h => fn_ok (fn := Tryd.f51) (code := code_lexer_isDigit) E_ok (by kernel_rfl) (by kernel_rfl) (by kernel_rfl) (Nat.le_of_ble_eq_true rfl) (good_lexer_isDigit (.start a.1) r h)

/-! ### ratchet/lexer.isWord -/
inductive P_lexer_isWord where
 | start (c0 : Int)
noncomputable def place_lexer_isWord : P_lexer_isWord → List Bool
 | .start .. => []
noncomputable def st_lexer_isWord : P_lexer_isWord → St E.S
 | .start c0 => st0 13 [.v (.int .u8 c0)] []
abbrev R_lexer_isWord : Type := ((Bool × Unit) × Unit)
noncomputable def res_lexer_isWord : Res E (Bool × Unit) Unit := { rows := [], flat := [], keep := 0, rl := (RdL.cons Rd.bool RdL.nil), rb := RdBL.nil }
noncomputable def run_lexer_isWord : P_lexer_isWord → Option R_lexer_isWord
 | .start c0 =>
   (run_lexer_isLetter (.start c0)) >>= fun t1 =>
   if t1.1.1 = true then
     some ((true, ()), ())
   else
     (run_lexer_isDigit (.start c0)) >>= fun t2 =>
     if t2.1.1 = true then
       some ((true, ()), ())
     else
       some ((c0 == (95 : Int), ()), ())
noncomputable def tab_lexer_isWord : List (Plc E P_lexer_isWord) := []
theorem tab_lexer_isWord_ok : All (PlcOk 13 0 place_lexer_isWord st_lexer_isWord) tab_lexer_isWord := trivial
noncomputable def code_lexer_isWord : Code := Tryd.f54.body.getD .skip
noncomputable def spec_lexer_isWord : Spec E.S := (Con.add con_lexer_isDigit (Con.add con_lexer_isLetter noSpec))
theorem spec_lexer_isWord_ok : SpecOk E spec_lexer_isWord := (Con.add_ok con_lexer_isDigit_ok (Con.add_ok con_lexer_isLetter_ok noSpec_ok))
theorem good_lexer_isWord : ∀ pt r, run_lexer_isWord pt = some r → Good E Tryd.f54 code_lexer_isWord 0 (res_lexer_isWord.av r) (res_lexer_isWord.bx r) (place_lexer_isWord pt) (st_lexer_isWord pt) := by
  intro pt r hr
  cases pt <;> exact fn_step (spec := spec_lexer_isWord) (wr := (fun i => mem i [])) (l := tab_lexer_isWord) (z := 13) (p := res_lexer_isWord) (run' := fun _ => none) E_ok tab_lexer_isWord_ok.mem rfl spec_lexer_isWord_ok (fun _ _ h => by cases h) (Eq.trans (by kernel_rfl) hr)
noncomputable def con_lexer_isWord : Con E := ⟨54, (Int × Unit), Unit, (RwL.cons (Rd.int .u8).w RwL.nil), RdBL.nil, 0, R_lexer_isWord, fun a b => run_lexer_isWord (.start a.1), res_lexer_isWord.av, res_lexer_isWord.bx⟩
theorem con_lexer_isWord_ok : con_lexer_isWord.Ok := fun a b r h => fn_ok (fn := Tryd.f54) (code := code_lexer_isWord) E_ok (by kernel_rfl) (by kernel_rfl) (by kernel_rfl) (Nat.le_of_ble_eq_true rfl) (good_lexer_isWord (.start a.1) r h)

/-! ### (*ratchet/lexer.scanner).run$1 -/
inductive P_lexer_scanner_run_1 where
 | start (r0 : Int)
noncomputable def place_lexer_scanner_run_1 : P_lexer_scanner_run_1 → List Bool
 | .start .. => []
noncomputable def st_lexer_scanner_run_1 : P_lexer_scanner_run_1 → St E.S
 | .start r0 => st0 13 [.v (.int .i32 r0), .bp 0 0] [.var 68 [.fn 54 []]]
abbrev R_lexer_scanner_run_1 : Type := ((Bool × Unit) × ((Unit × Unit) × Unit))
noncomputable def res_lexer_scanner_run_1 : Res E (Bool × Unit) ((Unit × Unit) × Unit) := { rows := [], flat := [], keep := 1, rl := (RdL.cons Rd.bool RdL.nil), rb := (RdBL.cons (RdB.var 68 (RdL.cons (Rd.fn 54 RdL.nil) RdL.nil)) RdBL.nil) }
noncomputable def run_lexer_scanner_run_1 : P_lexer_scanner_run_1 → Option R_lexer_scanner_run_1
 | .start r0 =>
   if (decide (r0 > (126 : Int))) = true then
     some ((true, ()), (((), ()), ()))
   else
     (run_lexer_isWord (.start (IntKind.wrap .u8 r0))) >>= fun t1 =>
     some ((!t1.1.1, ()), (((), ()), ()))
noncomputable def tab_lexer_scanner_run_1 : List (Plc E P_lexer_scanner_run_1) := []
theorem tab_lexer_scanner_run_1_ok : All (PlcOk 13 1 place_lexer_scanner_run_1 st_lexer_scanner_run_1) tab_lexer_scanner_run_1 := trivial
noncomputable def code_lexer_scanner_run_1 : Code := Tryd.f74.body.getD .skip
noncomputable def spec_lexer_scanner_run_1 : Spec E.S := (Con.add con_lexer_isWord noSpec)
theorem spec_lexer_scanner_run_1_ok : SpecOk E spec_lexer_scanner_run_1 := (Con.add_ok con_lexer_isWord_ok noSpec_ok)
theorem good_lexer_scanner_run_1 : ∀ pt r, run_lexer_scanner_run_1 pt = some r → Good E Tryd.f74 code_lexer_scanner_run_1 1 (res_lexer_scanner_run_1.av r) (res_lexer_scanner_run_1.bx r) (place_lexer_scanner_run_1 pt) (st_lexer_scanner_run_1 pt) := by
  intro pt r hr
  cases pt <;> exact fn_step (spec := spec_lexer_scanner_run_1) (wr := (fun i => mem i [])) (l := tab_lexer_scanner_run_1) (z := 13) (p := res_lexer_scanner_run_1) (run' := fun _ => none) E_ok tab_lexer_scanner_run_1_ok.mem rfl spec_lexer_scanner_run_1_ok (fun _ _ h => by cases h) (Eq.trans (by kernel_rfl) hr)
noncomputable def con_lexer_scanner_run_1 : Con E := ⟨74, (Int × (Unit × Unit)), ((Unit × Unit) × Unit), (RwL.cons (Rd.int .i32).w (RwL.cons (Rd.bp 0 0).w RwL.nil)), (RdBL.cons (RdB.var 68 (RdL.cons (Rd.fn 54 RdL.nil) RdL.nil)) RdBL.nil), 1, R_lexer_scanner_run_1, fun a b => run_lexer_scanner_run_1 (.start a.1), res_lexer_scanner_run_1.av, res_lexer_scanner_run_1.bx⟩
theorem con_lexer_scanner_run_1_ok : con_lexer_scanner_run_1.Ok := fun a b r h => fn_ok (fn := Tryd.f74) (code := code_lexer_scanner_run_1) E_ok (by kernel_rfl) (by kernel_rfl) (by kernel_rfl) (Nat.le_of_ble_eq_true rfl) (good_lexer_scanner_run_1 (.start a.1) r h)

/-! ### strings.indexFunc -/
inductive P_strings_indexFunc where
 | start (s0 : ByteArray) (truth2 : Bool)
 | p52 (truth2 : Bool) (B1_0 : ByteArray) (B1_1 : Nat)
noncomputable def place_strings_indexFunc : P_strings_indexFunc → List Bool
 | .start .. => []
 | .p52 .. => [false, false, true, false, true]
noncomputable def st_strings_indexFunc : P_strings_indexFunc → St E.S
 | .start s0 truth2 => st0 21 [.v (.string s0), .fn 74 [.bp 0 0], .v (.bool truth2)] [.var 68 [.fn 54 []]]
 | .p52 truth2 B1_0 B1_1 => mkSt 21 [1, 2, 10] [.fn 74 [.bp 0 0], .v (.bool truth2), .bp 1 0] [.var 68 [.fn 54 []], .iter B1_0 B1_1]
abbrev R_strings_indexFunc : Type := ((Int × Unit) × ((Unit × Unit) × Unit))
noncomputable def res_strings_indexFunc : Res E (Int × Unit) ((Unit × Unit) × Unit) := { rows := [], flat := [], keep := 1, rl := (RdL.cons (Rd.int .i64) RdL.nil), rb := (RdBL.cons (RdB.var 68 (RdL.cons (Rd.fn 54 RdL.nil) RdL.nil)) RdBL.nil) }
noncomputable def run_strings_indexFunc : P_strings_indexFunc → Option R_strings_indexFunc
 | .start s0 truth2 =>
   run_strings_indexFunc (.p52 truth2 s0 (0 : Nat))
 | .p52 truth2 B1_0 B1_1 =>
   if (decide (B1_1 < B1_0.size)) = true then
     (run_lexer_scanner_run_1 (.start ((Utf8.decode B1_0 B1_1).1 : Int))) >>= fun t1 =>
     if (t1.1.1 == truth2) = true then
       some (((B1_1 : Int), ()), (((), ()), ()))
     else
       run_strings_indexFunc (.p52 truth2 B1_0 (B1_1 + (Utf8.decode B1_0 B1_1).2))
   else
     some (((-1 : Int), ()), (((), ()), ()))
  partial_fixpoint
noncomputable def tab_strings_indexFunc : List (Plc E P_strings_indexFunc) := [⟨52, [false, false, true, false, true], { slots := [1, 2, 10], rows := [], flat := [], keep := 1 }, ((Unit × Unit) × (Bool × (Unit × Unit))), ((Unit × Unit) × ((ByteArray × (Nat × Unit)) × Unit)), (RdL.cons (Rd.fn 74 (RdL.cons (Rd.bp 0 0) RdL.nil)) (RdL.cons Rd.bool (RdL.cons (Rd.bp 1 0) RdL.nil))), (RdBL.cons (RdB.var 68 (RdL.cons (Rd.fn 54 RdL.nil) RdL.nil)) (RdBL.cons RdB.iter RdBL.nil)), fun a b => .p52 a.2.1 b.2.1.1 b.2.1.2.1⟩]
theorem tab_strings_indexFunc_ok : All (PlcOk 21 1 place_strings_indexFunc st_strings_indexFunc) tab_strings_indexFunc := ⟨⟨rfl, rfl, fun _ _ => rfl, fun _ _ => rfl⟩, trivial⟩
noncomputable def code_strings_indexFunc : Code := Tryd.f83.body.getD .skip
noncomputable def spec_strings_indexFunc : Spec E.S := (Con.add con_lexer_scanner_run_1 noSpec)
theorem spec_strings_indexFunc_ok : SpecOk E spec_strings_indexFunc := (Con.add_ok con_lexer_scanner_run_1_ok noSpec_ok)
theorem good_strings_indexFunc : ∀ pt r, run_strings_indexFunc pt = some r → Good E Tryd.f83 code_strings_indexFunc 1 (res_strings_indexFunc.av r) (res_strings_indexFunc.bx r) (place_strings_indexFunc pt) (st_strings_indexFunc pt) := by
  refine run_strings_indexFunc.partial_correctness (fun pt r => Good E Tryd.f83 code_strings_indexFunc 1 (res_strings_indexFunc.av r) (res_strings_indexFunc.bx r) (place_strings_indexFunc pt) (st_strings_indexFunc pt)) ?_
  intro run' ih pt r hr
  cases pt <;> exact fn_step (spec := spec_strings_indexFunc) (wr := (fun i => mem i [])) (l := tab_strings_indexFunc) (z := 21) (p := res_strings_indexFunc) E_ok tab_strings_indexFunc_ok.mem rfl spec_strings_indexFunc_ok ih (Eq.trans (by kernel_rfl) hr)
noncomputable def con_strings_indexFunc : Con E := ⟨83, (ByteArray × ((Unit × Unit) × (Bool × Unit))), ((Unit × Unit) × Unit), (RwL.cons Rd.str.w (RwL.cons (Rd.fn 74 (RdL.cons (Rd.bp 0 0) RdL.nil)).w (RwL.cons Rd.bool.w RwL.nil))), (RdBL.cons (RdB.var 68 (RdL.cons (Rd.fn 54 RdL.nil) RdL.nil)) RdBL.nil), 1, R_strings_indexFunc, fun a b => run_strings_indexFunc (.start a.1 a.2.2.1), res_strings_indexFunc.av, res_strings_indexFunc.bx⟩
theorem con_strings_indexFunc_ok : con_strings_indexFunc.Ok := fun a b r h => fn_ok (fn := Tryd.f83) (code := code_strings_indexFunc) E_ok (by kernel_rfl) (by kernel_rfl) (by kernel_rfl) (Nat.le_of_ble_eq_true rfl) (good_strings_indexFunc (.start a.1 a.2.2.1) r h)

/-! ### strings.IndexFunc -/
inductive P_strings_IndexFunc where
 | start (s0 : ByteArray)
noncomputable def place_strings_IndexFunc : P_strings_IndexFunc → List Bool
 | .start .. => []
noncomputable def st_strings_IndexFunc : P_strings_IndexFunc → St E.S
 | .start s0 => st0 8 [.v (.string s0), .fn 74 [.bp 0 0]] [.var 68 [.fn 54 []]]
abbrev R_strings_IndexFunc : Type := ((Int × Unit) × ((Unit × Unit) × Unit))
noncomputable def res_strings_IndexFunc : Res E (Int × Unit) ((Unit × Unit) × Unit) := { rows := [], flat := [], keep := 1, rl := (RdL.cons (Rd.int .i64) RdL.nil), rb := (RdBL.cons (RdB.var 68 (RdL.cons (Rd.fn 54 RdL.nil) RdL.nil)) RdBL.nil) }
noncomputable def run_strings_IndexFunc : P_strings_IndexFunc → Option R_strings_IndexFunc
 | .start s0 =>
   (run_strings_indexFunc (.start s0 true)) >>= fun t1 =>
   some ((t1.1.1, ()), (((), ()), ()))
noncomputable def tab_strings_IndexFunc : List (Plc E P_strings_IndexFunc) := []
theorem tab_strings_IndexFunc_ok : All (PlcOk 8 1 place_strings_IndexFunc st_strings_IndexFunc) tab_strings_IndexFunc := trivial
noncomputable def code_strings_IndexFunc : Code := Tryd.f73.body.getD .skip
noncomputable def spec_strings_IndexFunc : Spec E.S := (Con.add con_strings_indexFunc noSpec)
theorem spec_strings_IndexFunc_ok : SpecOk E spec_strings_IndexFunc := (Con.add_ok con_strings_indexFunc_ok noSpec_ok)
theorem good_strings_IndexFunc : ∀ pt r, run_strings_IndexFunc pt = some r → Good E Tryd.f73 code_strings_IndexFunc 1 (res_strings_IndexFunc.av r) (res_strings_IndexFunc.bx r) (place_strings_IndexFunc pt) (st_strings_IndexFunc pt) := by
  intro pt r hr
  cases pt <;> exact fn_step (spec := spec_strings_IndexFunc) (wr := (fun i => mem i [])) (l := tab_strings_IndexFunc) (z := 8) (p := res_strings_IndexFunc) (run' := fun _ => none) E_ok tab_strings_IndexFunc_ok.mem rfl spec_strings_IndexFunc_ok (fun _ _ h => by cases h) (Eq.trans (by kernel_rfl) hr)
noncomputable def con_strings_IndexFunc : Con E := ⟨73, (ByteArray × ((Unit × Unit) × Unit)), ((Unit × Unit) × Unit), (RwL.cons Rd.str.w (RwL.cons (Rd.fn 74 (RdL.cons (Rd.bp 0 0) RdL.nil)).w RwL.nil)), (RdBL.cons (RdB.var 68 (RdL.cons (Rd.fn 54 RdL.nil) RdL.nil)) RdBL.nil), 1, R_strings_IndexFunc, fun a b => run_strings_IndexFunc (.start a.1), res_strings_IndexFunc.av, res_strings_IndexFunc.bx⟩
theorem con_strings_IndexFunc_ok : con_strings_IndexFunc.Ok := fun a b r h => fn_ok (fn := Tryd.f73) (code := code_strings_IndexFunc) E_ok (by kernel_rfl) (by kernel_rfl) (by kernel_rfl) (Nat.le_of_ble_eq_true rfl) (good_strings_IndexFunc (.start a.1) r h)

/-! ### (*ratchet/lexer.scanner).run -/
inductive P_lexer_scanner_run where
 | start (B0_0 : ByteArray) (B0_1 : Int) (B0_2 : Int)
noncomputable def place_lexer_scanner_run : P_lexer_scanner_run → List Bool
 | .start .. => []
noncomputable def st_lexer_scanner_run : P_lexer_scanner_run → St E.S
 | .start B0_0 B0_1 B0_2 => st0 25 [.bp 0 0, .fn 54 []] [.var 62 [.v (.string B0_0), .v (.int .i64 B0_1), .v (.int .i64 B0_2)]]
abbrev R_lexer_scanner_run : Type := ((ByteArray × Unit) × ((ByteArray × (Int × (Int × Unit))) × Unit))
noncomputable def res_lexer_scanner_run : Res E (ByteArray × Unit) ((ByteArray × (Int × (Int × Unit))) × Unit) := { rows := [], flat := [], keep := 1, rl := (RdL.cons Rd.str RdL.nil), rb := (RdBL.cons (RdB.var 62 (RdL.cons Rd.str (RdL.cons (Rd.int .i64) (RdL.cons (Rd.int .i64) RdL.nil)))) RdBL.nil) }
noncomputable def run_lexer_scanner_run : P_lexer_scanner_run → Option R_lexer_scanner_run
 | .start B0_0 B0_1 B0_2 =>
   (span B0_0.size B0_1 (B0_0.size : Int)) >>= fun t1 =>
   (run_strings_IndexFunc (.start (B0_0.extract t1.1 t1.2))) >>= fun t2 =>
   if (decide (t2.1.1 ≥ (0 : Int))) = true then
     (span (B0_0.extract t1.1 t1.2).size (0 : Int) t2.1.1) >>= fun t3 =>
     some (((B0_0.extract t1.1 t1.2).extract t3.1 t3.2, ()), ((B0_0, (B0_1, (B0_2, ()))), ()))
   else
     some ((B0_0.extract t1.1 t1.2, ()), ((B0_0, (B0_1, (B0_2, ()))), ()))
noncomputable def tab_lexer_scanner_run : List (Plc E P_lexer_scanner_run) := []
theorem tab_lexer_scanner_run_ok : All (PlcOk 25 1 place_lexer_scanner_run st_lexer_scanner_run) tab_lexer_scanner_run := trivial
noncomputable def code_lexer_scanner_run : Code := Tryd.f52.body.getD .skip
noncomputable def spec_lexer_scanner_run : Spec E.S := (Con.add con_strings_IndexFunc noSpec)
theorem spec_lexer_scanner_run_ok : SpecOk E spec_lexer_scanner_run := (Con.add_ok con_strings_IndexFunc_ok noSpec_ok)
theorem good_lexer_scanner_run : ∀ pt r, run_lexer_scanner_run pt = some r → Good E Tryd.f52 code_lexer_scanner_run 1 (res_lexer_scanner_run.av r) (res_lexer_scanner_run.bx r) (place_lexer_scanner_run pt) (st_lexer_scanner_run pt) := by
  intro pt r hr
  cases pt <;> exact fn_step (spec := spec_lexer_scanner_run) (wr := (fun i => mem i [])) (l := tab_lexer_scanner_run) (z := 25) (p := res_lexer_scanner_run) (run' := fun _ => none) E_ok tab_lexer_scanner_run_ok.mem rfl spec_lexer_scanner_run_ok (fun _ _ h => by cases h) (Eq.trans (by kernel_rfl) hr)
noncomputable def con_lexer_scanner_run : Con E := ⟨52, (Unit × (Unit × Unit)), ((ByteArray × (Int × (Int × Unit))) × Unit), (RwL.cons (Rd.bp 0 0).w (RwL.cons (Rd.fn 54 RdL.nil).w RwL.nil)), (RdBL.cons (RdB.var 62 (RdL.cons Rd.str (RdL.cons (Rd.int .i64) (RdL.cons (Rd.int .i64) RdL.nil)))) RdBL.nil), 1, R_lexer_scanner_run, fun a b => run_lexer_scanner_run (.start b.1.1 b.1.2.1 b.1.2.2.1), res_lexer_scanner_run.av, res_lexer_scanner_run.bx⟩
theorem con_lexer_scanner_run_ok : con_lexer_scanner_run.Ok := fun a b r h => fn_ok (fn := Tryd.f52) (code := code_lexer_scanner_run) E_ok (by kernel_rfl) (by kernel_rfl) (by kernel_rfl) (Nat.le_of_ble_eq_true rfl) (good_lexer_scanner_run (.start b.1.1 b.1.2.1 b.1.2.2.1) r h)

/-! ### (*ratchet/lexer.scanner).word -/
inductive P_lexer_scanner_word where
 | start (B0_0 : ByteArray) (B0_1 : Int) (B0_2 : Int)
noncomputable def place_lexer_scanner_word : P_lexer_scanner_word → List Bool
 | .start .. => []
noncomputable def st_lexer_scanner_word : P_lexer_scanner_word → St E.S
 | .start B0_0 B0_1 B0_2 => st0 27 [.bp 0 0] [.var 62 [.v (.string B0_0), .v (.int .i64 B0_1), .v (.int .i64 B0_2)]]
abbrev R_lexer_scanner_word : Type := ((Int × (ByteArray × Unit)) × ((ByteArray × (Int × (Int × Unit))) × Unit))
noncomputable def res_lexer_scanner_word : Res E (Int × (ByteArray × Unit)) ((ByteArray × (Int × (Int × Unit))) × Unit) := { rows := [], flat := [], keep := 1, rl := (RdL.cons (Rd.int .i64) (RdL.cons Rd.str RdL.nil)), rb := (RdBL.cons (RdB.var 62 (RdL.cons Rd.str (RdL.cons (Rd.int .i64) (RdL.cons (Rd.int .i64) RdL.nil)))) RdBL.nil) }
noncomputable def run_lexer_scanner_word : P_lexer_scanner_word → Option R_lexer_scanner_word
 | .start B0_0 B0_1 B0_2 =>
   (run_lexer_scanner_run (.start B0_0 B0_1 B0_2)) >>= fun t1 =>
   if (decide ((t1.1.1.size : Int) > (16 : Int))) = true then
     (run_lexer_scanner_fail (.start t1.2.1.2.1 (4 : Int) t1.2.1.1 t1.2.1.2.1 t1.2.1.2.2.1)) >>= fun t2 =>
     some (((0 : Int), (t1.1.1, ())), ((t2.2.1.1, (t2.2.1.2.1, (t2.2.1.2.2.1, ()))), ()))
   else
     (run_lexer_IsKeyword (.start t1.1.1)) >>= fun t3 =>
     if t3.1.1 = true then
       some (((2 : Int), (t1.1.1, ())), ((t1.2.1.1, (t1.2.1.2.1, (t1.2.1.2.2.1, ()))), ()))
     else
       (sidx t1.1.1 (0 : Int)) >>= fun t4 =>
       (run_lexer_isCapital (.start t4)) >>= fun t5 =>
       if t5.1.1 = true then
         some (((1 : Int), (t1.1.1, ())), ((t1.2.1.1, (t1.2.1.2.1, (t1.2.1.2.2.1, ()))), ()))
       else
         some (((0 : Int), (t1.1.1, ())), ((t1.2.1.1, (t1.2.1.2.1, (t1.2.1.2.2.1, ()))), ()))
noncomputable def tab_lexer_scanner_word : List (Plc E P_lexer_scanner_word) := []
theorem tab_lexer_scanner_word_ok : All (PlcOk 27 1 place_lexer_scanner_word st_lexer_scanner_word) tab_lexer_scanner_word := trivial
noncomputable def code_lexer_scanner_word : Code := Tryd.f50.body.getD .skip
noncomputable def spec_lexer_scanner_word : Spec E.S := (Con.add con_lexer_isCapital (Con.add con_lexer_IsKeyword (Con.add con_lexer_scanner_fail (Con.add con_lexer_scanner_run noSpec))))
theorem spec_lexer_scanner_word_ok : SpecOk E spec_lexer_scanner_word := (Con.add_ok con_lexer_isCapital_ok (Con.add_ok con_lexer_IsKeyword_ok (Con.add_ok con_lexer_scanner_fail_ok (Con.add_ok con_lexer_scanner_run_ok noSpec_ok))))
theorem good_lexer_scanner_word : ∀ pt r, run_lexer_scanner_word pt = some r → Good E Tryd.f50 code_lexer_scanner_word 1 (res_lexer_scanner_word.av r) (res_lexer_scanner_word.bx r) (place_lexer_scanner_word pt) (st_lexer_scanner_word pt) := by
  intro pt r hr
  cases pt <;> exact fn_step (spec := spec_lexer_scanner_word) (wr := (fun i => mem i [])) (l := tab_lexer_scanner_word) (z := 27) (p := res_lexer_scanner_word) (run' := fun _ => none) E_ok tab_lexer_scanner_word_ok.mem rfl spec_lexer_scanner_word_ok (fun _ _ h => by cases h) (Eq.trans (by kernel_rfl) hr)
noncomputable def con_lexer_scanner_word : Con E := ⟨50, (Unit × Unit), ((ByteArray × (Int × (Int × Unit))) × Unit), (RwL.cons (Rd.bp 0 0).w RwL.nil), (RdBL.cons (RdB.var 62 (RdL.cons Rd.str (RdL.cons (Rd.int .i64) (RdL.cons (Rd.int .i64) RdL.nil)))) RdBL.nil), 1, R_lexer_scanner_word, fun a b => run_lexer_scanner_word (.start b.1.1 b.1.2.1 b.1.2.2.1), res_lexer_scanner_word.av, res_lexer_scanner_word.bx⟩
theorem con_lexer_scanner_word_ok : con_lexer_scanner_word.Ok := fun a b r h => fn_ok (fn := Tryd.f50) (code := code_lexer_scanner_word) E_ok (by kernel_rfl) (by kernel_rfl) (by kernel_rfl) (Nat.le_of_ble_eq_true rfl) (good_lexer_scanner_word (.start b.1.1 b.1.2.1 b.1.2.2.1) r h)

/-! ### (*ratchet/lexer.scanner).token$1 -/
inductive P_lexer_scanner_token_1 where
 | start (c0 : Int)
noncomputable def place_lexer_scanner_token_1 : P_lexer_scanner_token_1 → List Bool
 | .start .. => []
noncomputable def st_lexer_scanner_token_1 : P_lexer_scanner_token_1 → St E.S
 | .start c0 => st0 9 [.v (.int .u8 c0)] []
abbrev R_lexer_scanner_token_1 : Type := ((Bool × Unit) × Unit)
noncomputable def res_lexer_scanner_token_1 : Res E (Bool × Unit) Unit := { rows := [], flat := [], keep := 0, rl := (RdL.cons Rd.bool RdL.nil), rb := RdBL.nil }
noncomputable def run_lexer_scanner_token_1 : P_lexer_scanner_token_1 → Option R_lexer_scanner_token_1
 | .start c0 =>
   (run_lexer_isWord (.start c0)) >>= fun t1 =>
   if t1.1.1 = true then
     some ((true, ()), ())
   else
     some ((c0 == (39 : Int), ()), ())
noncomputable def tab_lexer_scanner_token_1 : List (Plc E P_lexer_scanner_token_1) := []
theorem tab_lexer_scanner_token_1_ok : All (PlcOk 9 0 place_lexer_scanner_token_1 st_lexer_scanner_token_1) tab_lexer_scanner_token_1 := trivial
noncomputable def code_lexer_scanner_token_1 : Code := Tryd.f53.body.getD .skip
noncomputable def spec_lexer_scanner_token_1 : Spec E.S := (Con.add con_lexer_isWord noSpec)
theorem spec_lexer_scanner_token_1_ok : SpecOk E spec_lexer_scanner_token_1 := (Con.add_ok con_lexer_isWord_ok noSpec_ok)
theorem good_lexer_scanner_token_1 : ∀ pt r, run_lexer_scanner_token_1 pt = some r → Good E Tryd.f53 code_lexer_scanner_token_1 0 (res_lexer_scanner_token_1.av r) (res_lexer_scanner_token_1.bx r) (place_lexer_scanner_token_1 pt) (st_lexer_scanner_token_1 pt) := by
  intro pt r hr
  cases pt <;> exact fn_step (spec := spec_lexer_scanner_token_1) (wr := (fun i => mem i [])) (l := tab_lexer_scanner_token_1) (z := 9) (p := res_lexer_scanner_token_1) (run' := fun _ => none) E_ok tab_lexer_scanner_token_1_ok.mem rfl spec_lexer_scanner_token_1_ok (fun _ _ h => by cases h) (Eq.trans (by kernel_rfl) hr)
noncomputable def con_lexer_scanner_token_1 : Con E := ⟨53, (Int × Unit), Unit, (RwL.cons (Rd.int .u8).w RwL.nil), RdBL.nil, 0, R_lexer_scanner_token_1, fun a b => run_lexer_scanner_token_1 (.start a.1), res_lexer_scanner_token_1.av, res_lexer_scanner_token_1.bx⟩
theorem con_lexer_scanner_token_1_ok : con_lexer_scanner_token_1.Ok := fun a b r h => fn_ok (fn := Tryd.f53) (code := code_lexer_scanner_token_1) E_ok (by kernel_rfl) (by kernel_rfl) (by kernel_rfl) (Nat.le_of_ble_eq_true rfl) (good_lexer_scanner_token_1 (.start a.1) r h)

/-! ### (*ratchet/lexer.scanner).run$1 -/
inductive P_lexer_scanner_run_1_v1 where
 | start (r0 : Int)
noncomputable def place_lexer_scanner_run_1_v1 : P_lexer_scanner_run_1_v1 → List Bool
 | .start .. => []
noncomputable def st_lexer_scanner_run_1_v1 : P_lexer_scanner_run_1_v1 → St E.S
 | .start r0 => st0 13 [.v (.int .i32 r0), .bp 0 0] [.var 68 [.fn 53 []]]
abbrev R_lexer_scanner_run_1_v1 : Type := ((Bool × Unit) × ((Unit × Unit) × Unit))
noncomputable def res_lexer_scanner_run_1_v1 : Res E (Bool × Unit) ((Unit × Unit) × Unit) := { rows := [], flat := [], keep := 1, rl := (RdL.cons Rd.bool RdL.nil), rb := (RdBL.cons (RdB.var 68 (RdL.cons (Rd.fn 53 RdL.nil) RdL.nil)) RdBL.nil) }
noncomputable def run_lexer_scanner_run_1_v1 : P_lexer_scanner_run_1_v1 → Option R_lexer_scanner_run_1_v1
 | .start r0 =>
   if (decide (r0 > (126 : Int))) = true then
     some ((true, ()), (((), ()), ()))
   else
     (run_lexer_scanner_token_1 (.start (IntKind.wrap .u8 r0))) >>= fun t1 =>
     some ((!t1.1.1, ()), (((), ()), ()))
noncomputable def tab_lexer_scanner_run_1_v1 : List (Plc E P_lexer_scanner_run_1_v1) := []
theorem tab_lexer_scanner_run_1_v1_ok : All (PlcOk 13 1 place_lexer_scanner_run_1_v1 st_lexer_scanner_run_1_v1) tab_lexer_scanner_run_1_v1 := trivial
noncomputable def code_lexer_scanner_run_1_v1 : Code := Tryd.f74.body.getD .skip
noncomputable def spec_lexer_scanner_run_1_v1 : Spec E.S := (Con.add con_lexer_scanner_token_1 noSpec)
theorem spec_lexer_scanner_run_1_v1_ok : SpecOk E spec_lexer_scanner_run_1_v1 := (Con.add_ok con_lexer_scanner_token_1_ok noSpec_ok)
theorem good_lexer_scanner_run_1_v1 : ∀ pt r, run_lexer_scanner_run_1_v1 pt = some r → Good E Tryd.f74 code_lexer_scanner_run_1_v1 1 (res_lexer_scanner_run_1_v1.av r) (res_lexer_scanner_run_1_v1.bx r) (place_lexer_scanner_run_1_v1 pt) (st_lexer_scanner_run_1_v1 pt) := by
  intro pt r hr
  cases pt <;> exact fn_step (spec := spec_lexer_scanner_run_1_v1) (wr := (fun i => mem i [])) (l := tab_lexer_scanner_run_1_v1) (z := 13) (p := res_lexer_scanner_run_1_v1) (run' := fun _ => none) E_ok tab_lexer_scanner_run_1_v1_ok.mem rfl spec_lexer_scanner_run_1_v1_ok (fun _ _ h => by cases h) (Eq.trans (by kernel_rfl) hr)
noncomputable def con_lexer_scanner_run_1_v1 : Con E := ⟨74, (Int × (Unit × Unit)), ((Unit × Unit) × Unit), (RwL.cons (Rd.int .i32).w (RwL.cons (Rd.bp 0 0).w RwL.nil)), (RdBL.cons (RdB.var 68 (RdL.cons (Rd.fn 53 RdL.nil) RdL.nil)) RdBL.nil), 1, R_lexer_scanner_run_1_v1, fun a b => run_lexer_scanner_run_1_v1 (.start a.1), res_lexer_scanner_run_1_v1.av, res_lexer_scanner_run_1_v1.bx⟩
theorem con_lexer_scanner_run_1_v1_ok : con_lexer_scanner_run_1_v1.Ok := fun a b r h => fn_ok (fn := Tryd.f74) (code := code_lexer_scanner_run_1_v1) E_ok (by kernel_rfl) (by kernel_rfl) (by kernel_rfl) (Nat.le_of_ble_eq_true rfl) (good_lexer_scanner_run_1_v1 (.start a.1) r h)

/-! ### strings.indexFunc -/
inductive P_strings_indexFunc_v1 where
 | start (s0 : ByteArray) (truth2 : Bool)
 | p52 (truth2 : Bool) (B1_0 : ByteArray) (B1_1 : Nat)
noncomputable def place_strings_indexFunc_v1 : P_strings_indexFunc_v1 → List Bool
 | .start .. => []
 | .p52 .. => [false, false, true, false, true]
noncomputable def st_strings_indexFunc_v1 : P_strings_indexFunc_v1 → St E.S
 | .start s0 truth2 => st0 21 [.v (.string s0), .fn 74 [.bp 0 0], .v (.bool truth2)] [.var 68 [.fn 53 []]]
 | .p52 truth2 B1_0 B1_1 => mkSt 21 [1, 2, 10] [.fn 74 [.bp 0 0], .v (.bool truth2), .bp 1 0] [.var 68 [.fn 53 []], .iter B1_0 B1_1]
abbrev R_strings_indexFunc_v1 : Type := ((Int × Unit) × ((Unit × Unit) × Unit))
noncomputable def res_strings_indexFunc_v1 : Res E (Int × Unit) ((Unit × Unit) × Unit) := { rows := [], flat := [], keep := 1, rl := (RdL.cons (Rd.int .i64) RdL.nil), rb := (RdBL.cons (RdB.var 68 (RdL.cons (Rd.fn 53 RdL.nil) RdL.nil)) RdBL.nil) }
noncomputable def run_strings_indexFunc_v1 : P_strings_indexFunc_v1 → Option R_strings_indexFunc_v1
 | .start s0 truth2 =>
   run_strings_indexFunc_v1 (.p52 truth2 s0 (0 : Nat))
 | .p52 truth2 B1_0 B1_1 =>
   if (decide (B1_1 < B1_0.size)) = true then
     (run_lexer_scanner_run_1_v1 (.start ((Utf8.decode B1_0 B1_1).1 : Int))) >>= fun t1 =>
     if (t1.1.1 == truth2) = true then
       some (((B1_1 : Int), ()), (((), ()), ()))
     else
       run_strings_indexFunc_v1 (.p52 truth2 B1_0 (B1_1 + (Utf8.decode B1_0 B1_1).2))
   else
     some (((-1 : Int), ()), (((), ()), ()))
  partial_fixpoint
noncomputable def tab_strings_indexFunc_v1 : List (Plc E P_strings_indexFunc_v1) := [⟨52, [false, false, true, false, true], { slots := [1, 2, 10], rows := [], flat := [], keep := 1 }, ((Unit × Unit) × (Bool × (Unit × Unit))), ((Unit × Unit) × ((ByteArray × (Nat × Unit)) × Unit)), (RdL.cons (Rd.fn 74 (RdL.cons (Rd.bp 0 0) RdL.nil)) (RdL.cons Rd.bool (RdL.cons (Rd.bp 1 0) RdL.nil))), (RdBL.cons (RdB.var 68 (RdL.cons (Rd.fn 53 RdL.nil) RdL.nil)) (RdBL.cons RdB.iter RdBL.nil)), fun a b => .p52 a.2.1 b.2.1.1 b.2.1.2.1⟩]
theorem tab_strings_indexFunc_v1_ok : All (PlcOk 21 1 place_strings_indexFunc_v1 st_strings_indexFunc_v1) tab_strings_indexFunc_v1 := ⟨⟨rfl, rfl, fun _ _ => rfl, fun _ _ => rfl⟩, trivial⟩
noncomputable def code_strings_indexFunc_v1 : Code := Tryd.f83.body.getD .skip
noncomputable def spec_strings_indexFunc_v1 : Spec E.S := (Con.add con_lexer_scanner_run_1_v1 noSpec)
theorem spec_strings_indexFunc_v1_ok : SpecOk E spec_strings_indexFunc_v1 := (Con.add_ok con_lexer_scanner_run_1_v1_ok noSpec_ok)
theorem good_strings_indexFunc_v1 : ∀ pt r, run_strings_indexFunc_v1 pt = some r → Good E Tryd.f83 code_strings_indexFunc_v1 1 (res_strings_indexFunc_v1.av r) (res_strings_indexFunc_v1.bx r) (place_strings_indexFunc_v1 pt) (st_strings_indexFunc_v1 pt) := by
  refine run_strings_indexFunc_v1.partial_correctness (fun pt r => Good E Tryd.f83 code_strings_indexFunc_v1 1 (res_strings_indexFunc_v1.av r) (res_strings_indexFunc_v1.bx r) (place_strings_indexFunc_v1 pt) (st_strings_indexFunc_v1 pt)) ?_
  intro run' ih pt r hr
  cases pt <;> exact fn_step (spec := spec_strings_indexFunc_v1) (wr := (fun i => mem i [])) (l := tab_strings_indexFunc_v1) (z := 21) (p := res_strings_indexFunc_v1) E_ok tab_strings_indexFunc_v1_ok.mem rfl spec_strings_indexFunc_v1_ok ih (Eq.trans (by kernel_rfl) hr)
noncomputable def con_strings_indexFunc_v1 : Con E := ⟨83, (ByteArray × ((Unit × Unit) × (Bool × Unit))), ((Unit × Unit) × Unit), (RwL.cons Rd.str.w (RwL.cons (Rd.fn 74 (RdL.cons (Rd.bp 0 0) RdL.nil)).w (RwL.cons Rd.bool.w RwL.nil))), (RdBL.cons (RdB.var 68 (RdL.cons (Rd.fn 53 RdL.nil) RdL.nil)) RdBL.nil), 1, R_strings_indexFunc_v1, fun a b => run_strings_indexFunc_v1 (.start a.1 a.2.2.1), res_strings_indexFunc_v1.av, res_strings_indexFunc_v1.bx⟩
theorem con_strings_indexFunc_v1_ok : con_strings_indexFunc_v1.Ok := fun a b r h => fn_ok (fn := Tryd.f83) (code := code_strings_indexFunc_v1) E_ok (by kernel_rfl) (by kernel_rfl) (by kernel_rfl) (Nat.le_of_ble_eq_true rfl) (good_strings_indexFunc_v1 (.start a.1 a.2.2.1) r h)

/-! ### strings.IndexFunc -/
inductive P_strings_IndexFunc_v1 where
 | start (s0 : ByteArray)
noncomputable def place_strings_IndexFunc_v1 : P_strings_IndexFunc_v1 → List Bool
 | .start .. => []
noncomputable def st_strings_IndexFunc_v1 : P_strings_IndexFunc_v1 → St E.S
 | .start s0 => st0 8 [.v (.string s0), .fn 74 [.bp 0 0]] [.var 68 [.fn 53 []]]
abbrev R_strings_IndexFunc_v1 : Type := ((Int × Unit) × ((Unit × Unit) × Unit))
noncomputable def res_strings_IndexFunc_v1 : Res E (Int × Unit) ((Unit × Unit) × Unit) := { rows := [], flat := [], keep := 1, rl := (RdL.cons (Rd.int .i64) RdL.nil), rb := (RdBL.cons (RdB.var 68 (RdL.cons (Rd.fn 53 RdL.nil) RdL.nil)) RdBL.nil) }
noncomputable def run_strings_IndexFunc_v1 : P_strings_IndexFunc_v1 → Option R_strings_IndexFunc_v1
 | .start s0 =>
   (run_strings_indexFunc_v1 (.start s0 true)) >>= fun t1 =>
   some ((t1.1.1, ()), (((), ()), ()))
noncomputable def tab_strings_IndexFunc_v1 : List (Plc E P_strings_IndexFunc_v1) := []
theorem tab_strings_IndexFunc_v1_ok : All (PlcOk 8 1 place_strings_IndexFunc_v1 st_strings_IndexFunc_v1) tab_strings_IndexFunc_v1 := trivial
noncomputable def code_strings_IndexFunc_v1 : Code := Tryd.f73.body.getD .skip
noncomputable def spec_strings_IndexFunc_v1 : Spec E.S := (Con.add con_strings_indexFunc_v1 noSpec)
theorem spec_strings_IndexFunc_v1_ok : SpecOk E spec_strings_IndexFunc_v1 := (Con.add_ok con_strings_indexFunc_v1_ok noSpec_ok)
theorem good_strings_IndexFunc_v1 : ∀ pt r, run_strings_IndexFunc_v1 pt = some r → Good E Tryd.f73 code_strings_IndexFunc_v1 1 (res_strings_IndexFunc_v1.av r) (res_strings_IndexFunc_v1.bx r) (place_strings_IndexFunc_v1 pt) (st_strings_IndexFunc_v1 pt) := by
  intro pt r hr
  cases pt <;> exact fn_step (spec := spec_strings_IndexFunc_v1) (wr := (fun i => mem i [])) (l := tab_strings_IndexFunc_v1) (z := 8) (p := res_strings_IndexFunc_v1) (run' := fun _ => none) E_ok tab_strings_IndexFunc_v1_ok.mem rfl spec_strings_IndexFunc_v1_ok (fun _ _ h => by cases h) (Eq.trans (by kernel_rfl) hr)
noncomputable def con_strings_IndexFunc_v1 : Con E := ⟨73, (ByteArray × ((Unit × Unit) × Unit)), ((Unit × Unit) × Unit), (RwL.cons Rd.str.w (RwL.cons (Rd.fn 74 (RdL.cons (Rd.bp 0 0) RdL.nil)).w RwL.nil)), (RdBL.cons (RdB.var 68 (RdL.cons (Rd.fn 53 RdL.nil) RdL.nil)) RdBL.nil), 1, R_strings_IndexFunc_v1, fun a b => run_strings_IndexFunc_v1 (.start a.1), res_strings_IndexFunc_v1.av, res_strings_IndexFunc_v1.bx⟩
theorem con_strings_IndexFunc_v1_ok : con_strings_IndexFunc_v1.Ok := fun a b r h => fn_ok (fn := Tryd.f73) (code := code_strings_IndexFunc_v1) E_ok (by kernel_rfl) (by kernel_rfl) (by kernel_rfl) (Nat.le_of_ble_eq_true rfl) (good_strings_IndexFunc_v1 (.start a.1) r h)

/-! ### (*ratchet/lexer.scanner).run -/
inductive P_lexer_scanner_run_v1 where
 | start (B0_0 : ByteArray) (B0_1 : Int) (B0_2 : Int)
noncomputable def place_lexer_scanner_run_v1 : P_lexer_scanner_run_v1 → List Bool
 | .start .. => []
noncomputable def st_lexer_scanner_run_v1 : P_lexer_scanner_run_v1 → St E.S
 | .start B0_0 B0_1 B0_2 => st0 25 [.bp 0 0, .fn 53 []] [.var 62 [.v (.string B0_0), .v (.int .i64 B0_1), .v (.int .i64 B0_2)]]
abbrev R_lexer_scanner_run_v1 : Type := ((ByteArray × Unit) × ((ByteArray × (Int × (Int × Unit))) × Unit))
noncomputable def res_lexer_scanner_run_v1 : Res E (ByteArray × Unit) ((ByteArray × (Int × (Int × Unit))) × Unit) := { rows := [], flat := [], keep := 1, rl := (RdL.cons Rd.str RdL.nil), rb := (RdBL.cons (RdB.var 62 (RdL.cons Rd.str (RdL.cons (Rd.int .i64) (RdL.cons (Rd.int .i64) RdL.nil)))) RdBL.nil) }
noncomputable def run_lexer_scanner_run_v1 : P_lexer_scanner_run_v1 → Option R_lexer_scanner_run_v1
 | .start B0_0 B0_1 B0_2 =>
   (span B0_0.size B0_1 (B0_0.size : Int)) >>= fun t1 =>
   (run_strings_IndexFunc_v1 (.start (B0_0.extract t1.1 t1.2))) >>= fun t2 =>
   if (decide (t2.1.1 ≥ (0 : Int))) = true then
     (span (B0_0.extract t1.1 t1.2).size (0 : Int) t2.1.1) >>= fun t3 =>
     some (((B0_0.extract t1.1 t1.2).extract t3.1 t3.2, ()), ((B0_0, (B0_1, (B0_2, ()))), ()))
   else
     some ((B0_0.extract t1.1 t1.2, ()), ((B0_0, (B0_1, (B0_2, ()))), ()))
noncomputable def tab_lexer_scanner_run_v1 : List (Plc E P_lexer_scanner_run_v1) := []
theorem tab_lexer_scanner_run_v1_ok : All (PlcOk 25 1 place_lexer_scanner_run_v1 st_lexer_scanner_run_v1) tab_lexer_scanner_run_v1 := trivial
noncomputable def code_lexer_scanner_run_v1 : Code := Tryd.f52.body.getD .skip
noncomputable def spec_lexer_scanner_run_v1 : Spec E.S := (Con.add con_strings_IndexFunc_v1 noSpec)
theorem spec_lexer_scanner_run_v1_ok : SpecOk E spec_lexer_scanner_run_v1 := (Con.add_ok con_strings_IndexFunc_v1_ok noSpec_ok)
theorem good_lexer_scanner_run_v1 : ∀ pt r, run_lexer_scanner_run_v1 pt = some r → Good E Tryd.f52 code_lexer_scanner_run_v1 1 (res_lexer_scanner_run_v1.av r) (res_lexer_scanner_run_v1.bx r) (place_lexer_scanner_run_v1 pt) (st_lexer_scanner_run_v1 pt) := by
  intro pt r hr
  cases pt <;> exact fn_step (spec := spec_lexer_scanner_run_v1) (wr := (fun i => mem i [])) (l := tab_lexer_scanner_run_v1) (z := 25) (p := res_lexer_scanner_run_v1) (run' := fun _ => none) E_ok tab_lexer_scanner_run_v1_ok.mem rfl spec_lexer_scanner_run_v1_ok (fun _ _ h => by cases h) (Eq.trans (by kernel_rfl) hr)
noncomputable def con_lexer_scanner_run_v1 : Con E := ⟨52, (Unit × (Unit × Unit)), ((ByteArray × (Int × (Int × Unit))) × Unit), (RwL.cons (Rd.bp 0 0).w (RwL.cons (Rd.fn 53 RdL.nil).w RwL.nil)), (RdBL.cons (RdB.var 62 (RdL.cons Rd.str (RdL.cons (Rd.int .i64) (RdL.cons (Rd.int .i64) RdL.nil)))) RdBL.nil), 1, R_lexer_scanner_run_v1, fun a b => run_lexer_scanner_run_v1 (.start b.1.1 b.1.2.1 b.1.2.2.1), res_lexer_scanner_run_v1.av, res_lexer_scanner_run_v1.bx⟩
theorem con_lexer_scanner_run_v1_ok : con_lexer_scanner_run_v1.Ok := fun a b r h => fn_ok (fn := Tryd.f52) (code := code_lexer_scanner_run_v1) E_ok (by kernel_rfl) (by kernel_rfl) (by kernel_rfl) (Nat.le_of_ble_eq_true rfl) (good_lexer_scanner_run_v1 (.start b.1.1 b.1.2.1 b.1.2.2.1) r h)

/-! ### ratchet/lexer.natural -/
inductive P_lexer_natural where
 | start (s0 : ByteArray)
noncomputable def place_lexer_natural : P_lexer_natural → List Bool
 | .start .. => []
noncomputable def st_lexer_natural : P_lexer_natural → St E.S
 | .start s0 => st0 30 [.v (.string s0)] []
abbrev R_lexer_natural : Type := ((Int × (Bool × Unit)) × Unit)
noncomputable def res_lexer_natural : Res E (Int × (Bool × Unit)) Unit := { rows := [], flat := [], keep := 0, rl := (RdL.cons (Rd.int .i64) (RdL.cons Rd.bool RdL.nil)), rb := RdBL.nil }
noncomputable def run_lexer_natural : P_lexer_natural → Option R_lexer_natural
 | .start s0 =>
   (atoiRun (s0, ()) ()) >>= fun t1 =>
   if (!t1.1.2.1) = true then
     if (decide ((s0.size : Int) ≤ (9 : Int))) = true then
       (itoaRun (t1.1.1, ()) ()) >>= fun t2 =>
       if (seq t2.1.1 s0) = true then
         (sidx s0 (0 : Int)) >>= fun t3 =>
         (run_lexer_isDigit (.start t3)) >>= fun t4 =>
         some ((t1.1.1, (t4.1.1, ())), ())
       else
         some ((t1.1.1, (false, ())), ())
     else
       some ((t1.1.1, (false, ())), ())
   else
     some ((t1.1.1, (false, ())), ())
noncomputable def tab_lexer_natural : List (Plc E P_lexer_natural) := []
theorem tab_lexer_natural_ok : All (PlcOk 30 0 place_lexer_natural st_lexer_natural) tab_lexer_natural := trivial
noncomputable def code_lexer_natural : Code := Tryd.f44.body.getD .skip
noncomputable def spec_lexer_natural : Spec E.S := (Con.add con_lexer_isDigit (Con.add con_strconv_Itoa (Con.add con_strconv_Atoi noSpec)))
theorem spec_lexer_natural_ok : SpecOk E spec_lexer_natural := (Con.add_ok con_lexer_isDigit_ok (Con.add_ok con_strconv_Itoa_ok (Con.add_ok con_strconv_Atoi_ok noSpec_ok)))
theorem good_lexer_natural : ∀ pt r, run_lexer_natural pt = some r → Good E Tryd.f44 code_lexer_natural 0 (res_lexer_natural.av r) (res_lexer_natural.bx r) (place_lexer_natural pt) (st_lexer_natural pt) := by
  intro pt r hr
  cases pt <;> exact fn_step (spec := spec_lexer_natural) (wr := (fun i => mem i [])) (l := tab_lexer_natural) (z := 30) (p := res_lexer_natural) (run' := fun _ => none) E_ok tab_lexer_natural_ok.mem rfl spec_lexer_natural_ok (fun _ _ h => by cases h) (Eq.trans (by kernel_rfl) hr)
noncomputable def con_lexer_natural : Con E := ⟨44, (ByteArray × Unit), Unit, (RwL.cons Rd.str.w RwL.nil), RdBL.nil, 0, R_lexer_natural, fun a b => run_lexer_natural (.start a.1), res_lexer_natural.av, res_lexer_natural.bx⟩
theorem con_lexer_natural_ok : con_lexer_natural.Ok := fun a b r h => fn_ok (fn := Tryd.f44) (code := code_lexer_natural) E_ok (by kernel_rfl) (by kernel_rfl) (by kernel_rfl) (Nat.le_of_ble_eq_true rfl) (good_lexer_natural (.start a.1) r h)

/-! ### internal/stringslite.Cut -/
inductive P_internal_stringslite_Cut where
 | start (s0 : ByteArray) (sep1 : ByteArray)
noncomputable def place_internal_stringslite_Cut : P_internal_stringslite_Cut → List Bool
 | .start .. => []
noncomputable def st_internal_stringslite_Cut : P_internal_stringslite_Cut → St E.S
 | .start s0 sep1 => st0 23 [.v (.string s0), .v (.string sep1)] []
abbrev R_internal_stringslite_Cut : Type := ((ByteArray × (ByteArray × (Bool × Unit))) × Unit)
noncomputable def res_internal_stringslite_Cut : Res E (ByteArray × (ByteArray × (Bool × Unit))) Unit := { rows := [], flat := [], keep := 0, rl := (RdL.cons Rd.str (RdL.cons Rd.str (RdL.cons Rd.bool RdL.nil))), rb := RdBL.nil }
noncomputable def run_internal_stringslite_Cut : P_internal_stringslite_Cut → Option R_internal_stringslite_Cut
 | .start s0 sep1 =>
   (oneRun Go.Lib.indexByte (s0, sep1, ()) ()) >>= fun t1 =>
   if (decide (t1.1.1 ≥ (0 : Int))) = true then
     (span s0.size (0 : Int) t1.1.1) >>= fun t2 =>
     (span s0.size (IntKind.wrap .i64 (t1.1.1 + (sep1.size : Int))) (s0.size : Int)) >>= fun t3 =>
     some ((s0.extract t2.1 t2.2, (s0.extract t3.1 t3.2, (true, ()))), ())
   else
     some ((s0, ((⟨#[]⟩ : ByteArray), (false, ()))), ())
noncomputable def tab_internal_stringslite_Cut : List (Plc E P_internal_stringslite_Cut) := []
theorem tab_internal_stringslite_Cut_ok : All (PlcOk 23 0 place_internal_stringslite_Cut st_internal_stringslite_Cut) tab_internal_stringslite_Cut := trivial
noncomputable def code_internal_stringslite_Cut : Code := Tryd.f68.body.getD .skip
noncomputable def spec_internal_stringslite_Cut : Spec E.S := (Con.add con_internal_stringslite_Index noSpec)
theorem spec_internal_stringslite_Cut_ok : SpecOk E spec_internal_stringslite_Cut := (Con.add_ok con_internal_stringslite_Index_ok noSpec_ok)
theorem good_internal_stringslite_Cut : ∀ pt r, run_internal_stringslite_Cut pt = some r → Good E Tryd.f68 code_internal_stringslite_Cut 0 (res_internal_stringslite_Cut.av r) (res_internal_stringslite_Cut.bx r) (place_internal_stringslite_Cut pt) (st_internal_stringslite_Cut pt) := by
  intro pt r hr
  cases pt <;> exact fn_step (spec := spec_internal_stringslite_Cut) (wr := (fun i => mem i [])) (l := tab_internal_stringslite_Cut) (z := 23) (p := res_internal_stringslite_Cut) (run' := fun _ => none) E_ok tab_internal_stringslite_Cut_ok.mem rfl spec_internal_stringslite_Cut_ok (fun _ _ h => by cases h) (Eq.trans (by kernel_rfl) hr)
noncomputable def con_internal_stringslite_Cut : Con E := ⟨68, (ByteArray × (ByteArray × Unit)), Unit, (RwL.cons Rd.str.w (RwL.cons Rd.str.w RwL.nil)), RdBL.nil, 0, R_internal_stringslite_Cut, fun a b => run_internal_stringslite_Cut (.start a.1 a.2.1), res_internal_stringslite_Cut.av, res_internal_stringslite_Cut.bx⟩
theorem con_internal_stringslite_Cut_ok : con_internal_stringslite_Cut.Ok := fun a b r h => fn_ok (fn := Tryd.f68) (code := code_internal_stringslite_Cut) E_ok (by kernel_rfl) (by kernel_rfl) (by kernel_rfl) (Nat.le_of_ble_eq_true rfl) (good_internal_stringslite_Cut (.start a.1 a.2.1) r h)

/-! ### strings.Cut -/
inductive P_strings_Cut where
 | start (s0 : ByteArray) (sep1 : ByteArray)
noncomputable def place_strings_Cut : P_strings_Cut → List Bool
 | .start .. => []
noncomputable def st_strings_Cut : P_strings_Cut → St E.S
 | .start s0 sep1 => st0 13 [.v (.string s0), .v (.string sep1)] []
abbrev R_strings_Cut : Type := ((ByteArray × (ByteArray × (Bool × Unit))) × Unit)
noncomputable def res_strings_Cut : Res E (ByteArray × (ByteArray × (Bool × Unit))) Unit := { rows := [], flat := [], keep := 0, rl := (RdL.cons Rd.str (RdL.cons Rd.str (RdL.cons Rd.bool RdL.nil))), rb := RdBL.nil }
noncomputable def run_strings_Cut : P_strings_Cut → Option R_strings_Cut
 | .start s0 sep1 =>
   (run_internal_stringslite_Cut (.start s0 sep1)) >>= fun t1 =>
   some ((t1.1.1, (t1.1.2.1, (t1.1.2.2.1, ()))), ())
noncomputable def tab_strings_Cut : List (Plc E P_strings_Cut) := []
theorem tab_strings_Cut_ok : All (PlcOk 13 0 place_strings_Cut st_strings_Cut) tab_strings_Cut := trivial
noncomputable def code_strings_Cut : Code := Tryd.f43.body.getD .skip
noncomputable def spec_strings_Cut : Spec E.S := (Con.add con_internal_stringslite_Cut noSpec)
theorem spec_strings_Cut_ok : SpecOk E spec_strings_Cut := (Con.add_ok con_internal_stringslite_Cut_ok noSpec_ok)
theorem good_strings_Cut : ∀ pt r, run_strings_Cut pt = some r → Good E Tryd.f43 code_strings_Cut 0 (res_strings_Cut.av r) (res_strings_Cut.bx r) (place_strings_Cut pt) (st_strings_Cut pt) := by
  intro pt r hr
  cases pt <;> exact fn_step (spec := spec_strings_Cut) (wr := (fun i => mem i [])) (l := tab_strings_Cut) (z := 13) (p := res_strings_Cut) (run' := fun _ => none) E_ok tab_strings_Cut_ok.mem rfl spec_strings_Cut_ok (fun _ _ h => by cases h) (Eq.trans (by kernel_rfl) hr)
noncomputable def con_strings_Cut : Con E := ⟨43, (ByteArray × (ByteArray × Unit)), Unit, (RwL.cons Rd.str.w (RwL.cons Rd.str.w RwL.nil)), RdBL.nil, 0, R_strings_Cut, fun a b => run_strings_Cut (.start a.1 a.2.1), res_strings_Cut.av, res_strings_Cut.bx⟩
theorem con_strings_Cut_ok : con_strings_Cut.Ok := fun a b r h => fn_ok (fn := Tryd.f43) (code := code_strings_Cut) E_ok (by kernel_rfl) (by kernel_rfl) (by kernel_rfl) (Nat.le_of_ble_eq_true rfl) (good_strings_Cut (.start a.1 a.2.1) r h)

/-! ### ratchet/lexer.within -/
inductive P_lexer_within where
 | start (n0 : Int) (lo1 : Int) (hi2 : Int)
noncomputable def place_lexer_within : P_lexer_within → List Bool
 | .start .. => []
noncomputable def st_lexer_within : P_lexer_within → St E.S
 | .start n0 lo1 hi2 => st0 15 [.v (.int .i64 n0), .v (.int .i64 lo1), .v (.int .i64 hi2)] []
abbrev R_lexer_within : Type := ((Bool × Unit) × Unit)
noncomputable def res_lexer_within : Res E (Bool × Unit) Unit := { rows := [], flat := [], keep := 0, rl := (RdL.cons Rd.bool RdL.nil), rb := RdBL.nil }
noncomputable def run_lexer_within : P_lexer_within → Option R_lexer_within
 | .start n0 lo1 hi2 =>
   if (decide (lo1 ≤ n0)) = true then
     some ((decide (n0 ≤ hi2), ()), ())
   else
     some ((false, ()), ())
noncomputable def tab_lexer_within : List (Plc E P_lexer_within) := []
theorem tab_lexer_within_ok : All (PlcOk 15 0 place_lexer_within st_lexer_within) tab_lexer_within := trivial
noncomputable def code_lexer_within : Code := Tryd.f38.body.getD .skip
noncomputable def spec_lexer_within : Spec E.S := noSpec
theorem spec_lexer_within_ok : SpecOk E spec_lexer_within := noSpec_ok
theorem good_lexer_within : ∀ pt r, run_lexer_within pt = some r → Good E Tryd.f38 code_lexer_within 0 (res_lexer_within.av r) (res_lexer_within.bx r) (place_lexer_within pt) (st_lexer_within pt) := by
  intro pt r hr
  cases pt <;> exact fn_step (spec := spec_lexer_within) (wr := (fun i => mem i [])) (l := tab_lexer_within) (z := 15) (p := res_lexer_within) (run' := fun _ => none) E_ok tab_lexer_within_ok.mem rfl spec_lexer_within_ok (fun _ _ h => by cases h) (Eq.trans (by kernel_rfl) hr)
noncomputable def con_lexer_within : Con E := ⟨38, (Int × (Int × (Int × Unit))), Unit, (RwL.cons (Rd.int .i64).w (RwL.cons (Rd.int .i64).w (RwL.cons (Rd.int .i64).w RwL.nil))), RdBL.nil, 0, R_lexer_within, fun a b => run_lexer_within (.start a.1 a.2.1 a.2.2.1), res_lexer_within.av, res_lexer_within.bx⟩
theorem con_lexer_within_ok : con_lexer_within.Ok := fun a b r h => fn_ok (fn := Tryd.f38) (code := code_lexer_within) E_ok (by kernel_rfl) (by kernel_rfl) (by kernel_rfl) (Nat.le_of_ble_eq_true rfl) (good_lexer_within (.start a.1 a.2.1 a.2.2.1) r h)

/-! ### internal/stringslite.IndexByte -/
inductive P_internal_stringslite_IndexByte where
 | start (s0 : ByteArray) (c1 : Int)
noncomputable def place_internal_stringslite_IndexByte : P_internal_stringslite_IndexByte → List Bool
 | .start .. => []
noncomputable def st_internal_stringslite_IndexByte : P_internal_stringslite_IndexByte → St E.S
 | .start s0 c1 => st0 8 [.v (.string s0), .v (.int .u8 c1)] []
abbrev R_internal_stringslite_IndexByte : Type := ((Int × Unit) × Unit)
noncomputable def res_internal_stringslite_IndexByte : Res E (Int × Unit) Unit := { rows := [], flat := [], keep := 0, rl := (RdL.cons (Rd.int .i64) RdL.nil), rb := RdBL.nil }
noncomputable def run_internal_stringslite_IndexByte : P_internal_stringslite_IndexByte → Option R_internal_stringslite_IndexByte
 | .start s0 c1 =>
   (byteAt (s0, c1, ()) ()) >>= fun t1 =>
   some ((t1.1.1, ()), ())
noncomputable def tab_internal_stringslite_IndexByte : List (Plc E P_internal_stringslite_IndexByte) := []
theorem tab_internal_stringslite_IndexByte_ok : All (PlcOk 8 0 place_internal_stringslite_IndexByte st_internal_stringslite_IndexByte) tab_internal_stringslite_IndexByte := trivial
noncomputable def code_internal_stringslite_IndexByte : Code := Tryd.f82.body.getD .skip
noncomputable def spec_internal_stringslite_IndexByte : Spec E.S := (Con.add con_internal_bytealg_IndexByteString noSpec)
theorem spec_internal_stringslite_IndexByte_ok : SpecOk E spec_internal_stringslite_IndexByte := (Con.add_ok con_internal_bytealg_IndexByteString_ok noSpec_ok)
theorem good_internal_stringslite_IndexByte : ∀ pt r, run_internal_stringslite_IndexByte pt = some r → Good E Tryd.f82 code_internal_stringslite_IndexByte 0 (res_internal_stringslite_IndexByte.av r) (res_internal_stringslite_IndexByte.bx r) (place_internal_stringslite_IndexByte pt) (st_internal_stringslite_IndexByte pt) := by
  intro pt r hr
  cases pt <;> exact fn_step (spec := spec_internal_stringslite_IndexByte) (wr := (fun i => mem i [])) (l := tab_internal_stringslite_IndexByte) (z := 8) (p := res_internal_stringslite_IndexByte) (run' := fun _ => none) E_ok tab_internal_stringslite_IndexByte_ok.mem rfl spec_internal_stringslite_IndexByte_ok (fun _ _ h => by cases h) (Eq.trans (by kernel_rfl) hr)
noncomputable def con_internal_stringslite_IndexByte : Con E := ⟨82, (ByteArray × (Int × Unit)), Unit, (RwL.cons Rd.str.w (RwL.cons (Rd.int .u8).w RwL.nil)), RdBL.nil, 0, R_internal_stringslite_IndexByte, fun a b => run_internal_stringslite_IndexByte (.start a.1 a.2.1), res_internal_stringslite_IndexByte.av, res_internal_stringslite_IndexByte.bx⟩
theorem con_internal_stringslite_IndexByte_ok : con_internal_stringslite_IndexByte.Ok := fun a b r h => fn_ok (fn := Tryd.f82) (code := code_internal_stringslite_IndexByte) E_ok (by kernel_rfl) (by kernel_rfl) (by kernel_rfl) (Nat.le_of_ble_eq_true rfl) (good_internal_stringslite_IndexByte (.start a.1 a.2.1) r h)

/-! ### strings.IndexByte -/
inductive P_strings_IndexByte where
 | start (s0 : ByteArray) (c1 : Int)
noncomputable def place_strings_IndexByte : P_strings_IndexByte → List Bool
 | .start .. => []
noncomputable def st_strings_IndexByte : P_strings_IndexByte → St E.S
 | .start s0 c1 => st0 8 [.v (.string s0), .v (.int .u8 c1)] []
abbrev R_strings_IndexByte : Type := ((Int × Unit) × Unit)
noncomputable def res_strings_IndexByte : Res E (Int × Unit) Unit := { rows := [], flat := [], keep := 0, rl := (RdL.cons (Rd.int .i64) RdL.nil), rb := RdBL.nil }
noncomputable def run_strings_IndexByte : P_strings_IndexByte → Option R_strings_IndexByte
 | .start s0 c1 =>
   (run_internal_stringslite_IndexByte (.start s0 c1)) >>= fun t1 =>
   some ((t1.1.1, ()), ())
noncomputable def tab_strings_IndexByte : List (Plc E P_strings_IndexByte) := []
theorem tab_strings_IndexByte_ok : All (PlcOk 8 0 place_strings_IndexByte st_strings_IndexByte) tab_strings_IndexByte := trivial
noncomputable def code_strings_IndexByte : Code := Tryd.f71.body.getD .skip
noncomputable def spec_strings_IndexByte : Spec E.S := (Con.add con_internal_stringslite_IndexByte noSpec)
theorem spec_strings_IndexByte_ok : SpecOk E spec_strings_IndexByte := (Con.add_ok con_internal_stringslite_IndexByte_ok noSpec_ok)
theorem good_strings_IndexByte : ∀ pt r, run_strings_IndexByte pt = some r → Good E Tryd.f71 code_strings_IndexByte 0 (res_strings_IndexByte.av r) (res_strings_IndexByte.bx r) (place_strings_IndexByte pt) (st_strings_IndexByte pt) := by
  intro pt r hr
  cases pt <;> exact fn_step (spec := spec_strings_IndexByte) (wr := (fun i => mem i [])) (l := tab_strings_IndexByte) (z := 8) (p := res_strings_IndexByte) (run' := fun _ => none) E_ok tab_strings_IndexByte_ok.mem rfl spec_strings_IndexByte_ok (fun _ _ h => by cases h) (Eq.trans (by kernel_rfl) hr)
noncomputable def con_strings_IndexByte : Con E := ⟨71, (ByteArray × (Int × Unit)), Unit, (RwL.cons Rd.str.w (RwL.cons (Rd.int .u8).w RwL.nil)), RdBL.nil, 0, R_strings_IndexByte, fun a b => run_strings_IndexByte (.start a.1 a.2.1), res_strings_IndexByte.av, res_strings_IndexByte.bx⟩
theorem con_strings_IndexByte_ok : con_strings_IndexByte.Ok := fun a b r h => fn_ok (fn := Tryd.f71) (code := code_strings_IndexByte) E_ok (by kernel_rfl) (by kernel_rfl) (by kernel_rfl) (Nat.le_of_ble_eq_true rfl) (good_strings_IndexByte (.start a.1 a.2.1) r h)

/-! ### ratchet/lexer.baseOf -/
inductive P_lexer_baseOf where
 | start (sign0 : Int)
noncomputable def place_lexer_baseOf : P_lexer_baseOf → List Bool
 | .start .. => []
noncomputable def st_lexer_baseOf : P_lexer_baseOf → St E.S
 | .start sign0 => st0 8 [.v (.int .u8 sign0)] []
abbrev R_lexer_baseOf : Type := ((Int × Unit) × Unit)
noncomputable def res_lexer_baseOf : Res E (Int × Unit) Unit := { rows := [], flat := [], keep := 0, rl := (RdL.cons (Rd.int .i64) RdL.nil), rb := RdBL.nil }
noncomputable def run_lexer_baseOf : P_lexer_baseOf → Option R_lexer_baseOf
 | .start sign0 =>
   (run_strings_IndexByte (.start (⟨#[98, 100, 104]⟩ : ByteArray) sign0)) >>= fun t1 =>
   if (decide ((IntKind.wrap .i64 ((1 : Int) + t1.1.1)) = 0)) = true then
     some (((0 : Int), ()), ())
   else
     if (decide ((IntKind.wrap .i64 ((1 : Int) + t1.1.1)) = 1)) = true then
       some (((2 : Int), ()), ())
     else
       if (decide ((IntKind.wrap .i64 ((1 : Int) + t1.1.1)) = 2)) = true then
         some (((10 : Int), ()), ())
       else
         if (decide ((IntKind.wrap .i64 ((1 : Int) + t1.1.1)) = 3)) = true then
           some (((16 : Int), ()), ())
         else none
noncomputable def tab_lexer_baseOf : List (Plc E P_lexer_baseOf) := []
theorem tab_lexer_baseOf_ok : All (PlcOk 8 0 place_lexer_baseOf st_lexer_baseOf) tab_lexer_baseOf := trivial
noncomputable def code_lexer_baseOf : Code := Tryd.f45.body.getD .skip
noncomputable def spec_lexer_baseOf : Spec E.S := (Con.add con_strings_IndexByte noSpec)
theorem spec_lexer_baseOf_ok : SpecOk E spec_lexer_baseOf := (Con.add_ok con_strings_IndexByte_ok noSpec_ok)
theorem good_lexer_baseOf : ∀ pt r, run_lexer_baseOf pt = some r → Good E Tryd.f45 code_lexer_baseOf 0 (res_lexer_baseOf.av r) (res_lexer_baseOf.bx r) (place_lexer_baseOf pt) (st_lexer_baseOf pt) := by
  intro pt r hr
  cases pt <;> exact fn_step (spec := spec_lexer_baseOf) (wr := (fun i => mem i [])) (l := tab_lexer_baseOf) (z := 8) (p := res_lexer_baseOf) (run' := fun _ => none) E_ok tab_lexer_baseOf_ok.mem rfl spec_lexer_baseOf_ok (fun _ _ h => by cases h) (Eq.trans (by kernel_rfl) hr)
noncomputable def con_lexer_baseOf : Con E := ⟨45, (Int × Unit), Unit, (RwL.cons (Rd.int .u8).w RwL.nil), RdBL.nil, 0, R_lexer_baseOf, fun a b => run_lexer_baseOf (.start a.1), res_lexer_baseOf.av, res_lexer_baseOf.bx⟩
theorem con_lexer_baseOf_ok : con_lexer_baseOf.Ok := fun a b r h => fn_ok (fn := Tryd.f45) (code := code_lexer_baseOf) E_ok (by kernel_rfl) (by kernel_rfl) (by kernel_rfl) (Nat.le_of_ble_eq_true rfl) (good_lexer_baseOf (.start a.1) r h)

/-! ### ratchet/lexer.digitOf -/
inductive P_lexer_digitOf where
 | start (c0 : Int)
noncomputable def place_lexer_digitOf : P_lexer_digitOf → List Bool
 | .start .. => []
noncomputable def st_lexer_digitOf : P_lexer_digitOf → St E.S
 | .start c0 => st0 5 [.v (.int .u8 c0)] []
abbrev R_lexer_digitOf : Type := ((Int × Unit) × Unit)
noncomputable def res_lexer_digitOf : Res E (Int × Unit) Unit := { rows := [], flat := [], keep := 0, rl := (RdL.cons (Rd.int .i64) RdL.nil), rb := RdBL.nil }
noncomputable def run_lexer_digitOf : P_lexer_digitOf → Option R_lexer_digitOf
 | .start c0 =>
   (run_strings_IndexByte (.start (⟨#[48, 49, 50, 51, 52, 53, 54, 55, 56, 57, 97, 98, 99, 100, 101, 102]⟩ : ByteArray) c0)) >>= fun t1 =>
   some ((t1.1.1, ()), ())
noncomputable def tab_lexer_digitOf : List (Plc E P_lexer_digitOf) := []
theorem tab_lexer_digitOf_ok : All (PlcOk 5 0 place_lexer_digitOf st_lexer_digitOf) tab_lexer_digitOf := trivial
noncomputable def code_lexer_digitOf : Code := Tryd.f46.body.getD .skip
noncomputable def spec_lexer_digitOf : Spec E.S := (Con.add con_strings_IndexByte noSpec)
theorem spec_lexer_digitOf_ok : SpecOk E spec_lexer_digitOf := (Con.add_ok con_strings_IndexByte_ok noSpec_ok)
theorem good_lexer_digitOf : ∀ pt r, run_lexer_digitOf pt = some r → Good E Tryd.f46 code_lexer_digitOf 0 (res_lexer_digitOf.av r) (res_lexer_digitOf.bx r) (place_lexer_digitOf pt) (st_lexer_digitOf pt) := by
  intro pt r hr
  cases pt <;> exact fn_step (spec := spec_lexer_digitOf) (wr := (fun i => mem i [])) (l := tab_lexer_digitOf) (z := 5) (p := res_lexer_digitOf) (run' := fun _ => none) E_ok tab_lexer_digitOf_ok.mem rfl spec_lexer_digitOf_ok (fun _ _ h => by cases h) (Eq.trans (by kernel_rfl) hr)
noncomputable def con_lexer_digitOf : Con E := ⟨46, (Int × Unit), Unit, (RwL.cons (Rd.int .u8).w RwL.nil), RdBL.nil, 0, R_lexer_digitOf, fun a b => run_lexer_digitOf (.start a.1), res_lexer_digitOf.av, res_lexer_digitOf.bx⟩
theorem con_lexer_digitOf_ok : con_lexer_digitOf.Ok := fun a b r h => fn_ok (fn := Tryd.f46) (code := code_lexer_digitOf) E_ok (by kernel_rfl) (by kernel_rfl) (by kernel_rfl) (Nat.le_of_ble_eq_true rfl) (good_lexer_digitOf (.start a.1) r h)

/-! ### ratchet/lexer.ParseLiteral -/
inductive P_lexer_ParseLiteral where
 | start (s0 : ByteArray)
 | p31 (rest5 : ByteArray) (width7 : Int) (B0_0 : Int) (B0_1 : Int)
 | p2036 (width7 : Int) (base9 : Int) (value10 : Int) (most11 : Int) (s44 : (List Int)) (s45 : Int) (s46 : Int) (B0_0 : Int) (B0_1 : Int)
 | p260711 (width7 : Int) (base9 : Int) (value10 : Int) (most11 : Int) (d14 : Int) (s44 : (List Int)) (s45 : Int) (s46 : Int) (B0_0 : Int) (B0_1 : Int)
noncomputable def place_lexer_ParseLiteral : P_lexer_ParseLiteral → List Bool
 | .start .. => []
 | .p31 .. => [true, true, true, true]
 | .p2036 .. => [false, false, true, false, true, true, true, true, true, true]
 | .p260711 .. => [true, true, true, false, false, true, true, false, false, true, false, true, true, true, true, true, true]
noncomputable def st_lexer_ParseLiteral : P_lexer_ParseLiteral → St E.S
 | .start s0 => st0 81 [.v (.string s0)] []
 | .p31 rest5 width7 B0_0 B0_1 => mkSt 81 [2, 5, 7] [.bp 0 0, .v (.string rest5), .v (.int .i64 width7)] [.var 47 [.v (.int .i64 B0_0), .v (.int .i64 B0_1)]]
 | .p2036 width7 base9 value10 most11 s44 s45 s46 B0_0 B0_1 => mkSt 81 [2, 7, 9, 10, 11, 44, 45, 46] [.bp 0 0, .v (.int .i64 width7), .v (.int .i64 base9), .v (.int .i64 value10), .v (.int .i64 most11), .sl 5 s44 false, .v (.int .i64 s45), .v (.int .i64 s46)] [.var 47 [.v (.int .i64 B0_0), .v (.int .i64 B0_1)]]
 | .p260711 width7 base9 value10 most11 d14 s44 s45 s46 B0_0 B0_1 => mkSt 81 [2, 7, 9, 10, 11, 14, 44, 45, 46] [.bp 0 0, .v (.int .i64 width7), .v (.int .i64 base9), .v (.int .i64 value10), .v (.int .i64 most11), .v (.int .i64 d14), .sl 5 s44 false, .v (.int .i64 s45), .v (.int .i64 s46)] [.var 47 [.v (.int .i64 B0_0), .v (.int .i64 B0_1)]]
abbrev R_lexer_ParseLiteral : Type := (((Int × (Int × Unit)) × (Int × Unit)) × Unit)
noncomputable def res_lexer_ParseLiteral : Res E ((Int × (Int × Unit)) × (Int × Unit)) Unit := { rows := [], flat := [], keep := 0, rl := (RdL.cons (Rd.agg (RdL.cons (Rd.int .i64) (RdL.cons (Rd.int .i64) RdL.nil))) (RdL.cons (Rd.int .i64) RdL.nil)), rb := RdBL.nil }
noncomputable def run_lexer_ParseLiteral : P_lexer_ParseLiteral → Option R_lexer_ParseLiteral
 | .start s0 =>
   (run_strings_Cut (.start s0 (⟨#[39]⟩ : ByteArray))) >>= fun t1 =>
   (run_lexer_natural (.start t1.1.1)) >>= fun t2 =>
   if (!t1.1.2.2.1) = true then
     some ((((0 : Int), ((0 : Int), ())), ((7 : Int), ())), ())
   else
     if (!t2.1.2.1) = true then
       some ((((0 : Int), ((0 : Int), ())), ((7 : Int), ())), ())
     else
       (run_lexer_within (.start (t1.1.2.1.size : Int) (2 : Int) (17 : Int))) >>= fun t3 =>
       if (!t3.1.1) = true then
         some ((((0 : Int), ((0 : Int), ())), ((7 : Int), ())), ())
       else
         run_lexer_ParseLiteral (.p31 t1.1.2.1 t2.1.1 (0 : Int) (0 : Int))
 | .p31 rest5 width7 B0_0 B0_1 =>
   (sidx rest5 (0 : Int)) >>= fun t1 =>
   (run_lexer_baseOf (.start t1)) >>= fun t2 =>
   (span rest5.size (1 : Int) (rest5.size : Int)) >>= fun t3 =>
   run_lexer_ParseLiteral (.p2036 width7 t2.1.1 (0 : Int) (65536 : Int) (strBytes (rest5.extract t3.1 t3.2)) (List.length (strBytes (rest5.extract t3.1 t3.2)) : Int) (0 : Int) B0_0 B0_1)
 | .p2036 width7 base9 value10 most11 s44 s45 s46 B0_0 B0_1 =>
   if (decide (s46 < s45)) = true then
     (idx s44 s46) >>= fun t1 =>
     (run_lexer_digitOf (.start t1)) >>= fun t2 =>
     if (decide (t2.1.1 < (0 : Int))) = true then
       some ((((0 : Int), ((0 : Int), ())), ((7 : Int), ())), ())
     else
       if (decide (t2.1.1 ≥ base9)) = true then
         some ((((0 : Int), ((0 : Int), ())), ((7 : Int), ())), ())
       else
         run_lexer_ParseLiteral (.p260711 width7 base9 value10 most11 t2.1.1 s44 s45 s46 B0_0 B0_1)
   else
     (run_lexer_within (.start width7 (1 : Int) (16 : Int))) >>= fun t3 =>
     if (!t3.1.1) = true then
       some ((((0 : Int), ((0 : Int), ())), ((2 : Int), ())), ())
     else
       if (decide ((0 : Int) ≤ width7)) = true then
         if (decide (value10 ≥ (shl .i64 (1 : Int) width7))) = true then
           some ((((0 : Int), ((0 : Int), ())), ((2 : Int), ())), ())
         else
           some (((value10, (width7, ())), ((0 : Int), ())), ())
       else none
 | .p260711 width7 base9 value10 most11 d14 s44 s45 s46 B0_0 B0_1 =>
   run_lexer_ParseLiteral (.p2036 width7 base9 (if (IntKind.wrap .i64 ((IntKind.wrap .i64 (value10 * base9)) + d14)) < most11 then (IntKind.wrap .i64 ((IntKind.wrap .i64 (value10 * base9)) + d14)) else most11) most11 s44 s45 (IntKind.wrap .i64 (s46 + (1 : Int))) B0_0 B0_1)
  partial_fixpoint
noncomputable def tab_lexer_ParseLiteral : List (Plc E P_lexer_ParseLiteral) := [⟨31, [true, true, true, true], { slots := [2, 5, 7], rows := [], flat := [], keep := 0 }, (Unit × (ByteArray × (Int × Unit))), ((Int × (Int × Unit)) × Unit), (RdL.cons (Rd.bp 0 0) (RdL.cons Rd.str (RdL.cons (Rd.int .i64) RdL.nil))), (RdBL.cons (RdB.var 47 (RdL.cons (Rd.int .i64) (RdL.cons (Rd.int .i64) RdL.nil))) RdBL.nil), fun a b => .p31 a.2.1 a.2.2.1 b.1.1 b.1.2.1⟩,
  ⟨2036, [false, false, true, false, true, true, true, true, true, true], { slots := [2, 7, 9, 10, 11, 44, 45, 46], rows := [], flat := [], keep := 0 }, (Unit × (Int × (Int × (Int × (Int × ((List Int) × (Int × (Int × Unit)))))))), ((Int × (Int × Unit)) × Unit), (RdL.cons (Rd.bp 0 0) (RdL.cons (Rd.int .i64) (RdL.cons (Rd.int .i64) (RdL.cons (Rd.int .i64) (RdL.cons (Rd.int .i64) (RdL.cons (Rd.sl 5 false) (RdL.cons (Rd.int .i64) (RdL.cons (Rd.int .i64) RdL.nil)))))))), (RdBL.cons (RdB.var 47 (RdL.cons (Rd.int .i64) (RdL.cons (Rd.int .i64) RdL.nil))) RdBL.nil), fun a b => .p2036 a.2.1 a.2.2.1 a.2.2.2.1 a.2.2.2.2.1 a.2.2.2.2.2.1 a.2.2.2.2.2.2.1 a.2.2.2.2.2.2.2.1 b.1.1 b.1.2.1⟩,
  ⟨260711, [true, true, true, false, false, true, true, false, false, true, false, true, true, true, true, true, true], { slots := [2, 7, 9, 10, 11, 14, 44, 45, 46], rows := [], flat := [], keep := 0 }, (Unit × (Int × (Int × (Int × (Int × (Int × ((List Int) × (Int × (Int × Unit))))))))), ((Int × (Int × Unit)) × Unit), (RdL.cons (Rd.bp 0 0) (RdL.cons (Rd.int .i64) (RdL.cons (Rd.int .i64) (RdL.cons (Rd.int .i64) (RdL.cons (Rd.int .i64) (RdL.cons (Rd.int .i64) (RdL.cons (Rd.sl 5 false) (RdL.cons (Rd.int .i64) (RdL.cons (Rd.int .i64) RdL.nil))))))))), (RdBL.cons (RdB.var 47 (RdL.cons (Rd.int .i64) (RdL.cons (Rd.int .i64) RdL.nil))) RdBL.nil), fun a b => .p260711 a.2.1 a.2.2.1 a.2.2.2.1 a.2.2.2.2.1 a.2.2.2.2.2.1 a.2.2.2.2.2.2.1 a.2.2.2.2.2.2.2.1 a.2.2.2.2.2.2.2.2.1 b.1.1 b.1.2.1⟩]
theorem tab_lexer_ParseLiteral_ok : All (PlcOk 81 0 place_lexer_ParseLiteral st_lexer_ParseLiteral) tab_lexer_ParseLiteral := ⟨⟨rfl, rfl, fun _ _ => rfl, fun _ _ => rfl⟩, ⟨⟨rfl, rfl, fun _ _ => rfl, fun _ _ => rfl⟩, ⟨⟨rfl, rfl, fun _ _ => rfl, fun _ _ => rfl⟩, trivial⟩⟩⟩
noncomputable def code_lexer_ParseLiteral : Code := Tryd.f27.body.getD .skip
noncomputable def spec_lexer_ParseLiteral : Spec E.S := (Con.add con_lexer_digitOf (Con.add con_lexer_baseOf (Con.add con_lexer_within (Con.add con_lexer_natural (Con.add con_strings_Cut noSpec)))))
theorem spec_lexer_ParseLiteral_ok : SpecOk E spec_lexer_ParseLiteral := (Con.add_ok con_lexer_digitOf_ok (Con.add_ok con_lexer_baseOf_ok (Con.add_ok con_lexer_within_ok (Con.add_ok con_lexer_natural_ok (Con.add_ok con_strings_Cut_ok noSpec_ok)))))
theorem good_lexer_ParseLiteral : ∀ pt r, run_lexer_ParseLiteral pt = some r → Good E Tryd.f27 code_lexer_ParseLiteral 0 (res_lexer_ParseLiteral.av r) (res_lexer_ParseLiteral.bx r) (place_lexer_ParseLiteral pt) (st_lexer_ParseLiteral pt) := by
  refine run_lexer_ParseLiteral.partial_correctness (fun pt r => Good E Tryd.f27 code_lexer_ParseLiteral 0 (res_lexer_ParseLiteral.av r) (res_lexer_ParseLiteral.bx r) (place_lexer_ParseLiteral pt) (st_lexer_ParseLiteral pt)) ?_
  intro run' ih pt r hr
  cases pt <;> exact fn_step (spec := spec_lexer_ParseLiteral) (wr := (fun i => mem i [])) (l := tab_lexer_ParseLiteral) (z := 81) (p := res_lexer_ParseLiteral) E_ok tab_lexer_ParseLiteral_ok.mem rfl spec_lexer_ParseLiteral_ok ih (Eq.trans (by kernel_rfl) hr)
noncomputable def con_lexer_ParseLiteral : Con E := ⟨27, (ByteArray × Unit), Unit, (RwL.cons Rd.str.w RwL.nil), RdBL.nil, 0, R_lexer_ParseLiteral, fun a b => run_lexer_ParseLiteral (.start a.1), res_lexer_ParseLiteral.av, res_lexer_ParseLiteral.bx⟩
theorem con_lexer_ParseLiteral_ok : con_lexer_ParseLiteral.Ok := fun a b r h => fn_ok (fn := Tryd.f27) (code := code_lexer_ParseLiteral) E_ok (by kernel_rfl) (by kernel_rfl) (by kernel_rfl) (Nat.le_of_ble_eq_true rfl) (good_lexer_ParseLiteral (.start a.1) r h)

/-! ### (*ratchet/lexer.scanner).number -/
inductive P_lexer_scanner_number where
 | start (B0_0 : ByteArray) (B0_1 : Int) (B0_2 : Int) (B1_0 : Int) (B1_1 : Int) (B1_2 : ByteArray) (B1_3 : Int) (B1_4 : Int)
noncomputable def place_lexer_scanner_number : P_lexer_scanner_number → List Bool
 | .start .. => []
noncomputable def st_lexer_scanner_number : P_lexer_scanner_number → St E.S
 | .start B0_0 B0_1 B0_2 B1_0 B1_1 B1_2 B1_3 B1_4 => st0 54 [.bp 0 0, .bp 1 0] [.var 62 [.v (.string B0_0), .v (.int .i64 B0_1), .v (.int .i64 B0_2)], .var 33 [.v (.int .i64 B1_0), .v (.int .i64 B1_1), .v (.string B1_2), .v (.int .i64 B1_3), .v (.int .i64 B1_4)]]
abbrev R_lexer_scanner_number : Type := (Unit × ((ByteArray × (Int × (Int × Unit))) × ((Int × (Int × (ByteArray × (Int × (Int × Unit))))) × Unit)))
noncomputable def res_lexer_scanner_number : Res E Unit ((ByteArray × (Int × (Int × Unit))) × ((Int × (Int × (ByteArray × (Int × (Int × Unit))))) × Unit)) := { rows := [], flat := [], keep := 2, rl := RdL.nil, rb := (RdBL.cons (RdB.var 62 (RdL.cons Rd.str (RdL.cons (Rd.int .i64) (RdL.cons (Rd.int .i64) RdL.nil)))) (RdBL.cons (RdB.var 33 (RdL.cons (Rd.int .i64) (RdL.cons (Rd.int .i64) (RdL.cons Rd.str (RdL.cons (Rd.int .i64) (RdL.cons (Rd.int .i64) RdL.nil)))))) RdBL.nil)) }
noncomputable def run_lexer_scanner_number : P_lexer_scanner_number → Option R_lexer_scanner_number
 | .start B0_0 B0_1 B0_2 B1_0 B1_1 B1_2 B1_3 B1_4 =>
   (run_lexer_natural (.start B1_2)) >>= fun t1 =>
   if t1.1.2.1 = true then
     some ((), ((B0_0, (B0_1, (B0_2, ()))), (((3 : Int), (B1_1, (B1_2, (t1.1.1, (B1_4, ()))))), ())))
   else
     (run_lexer_ParseLiteral (.start B1_2)) >>= fun t2 =>
     if (t2.1.2.1 != (0 : Int)) = true then
       (run_lexer_scanner_fail (.start B0_1 t2.1.2.1 B0_0 B0_1 B0_2)) >>= fun t3 =>
       some ((), ((t3.2.1.1, (t3.2.1.2.1, (t3.2.1.2.2.1, ()))), ((B1_0, (B1_1, (B1_2, (B1_3, (B1_4, ()))))), ())))
     else
       some ((), ((B0_0, (B0_1, (B0_2, ()))), (((4 : Int), (B1_1, (B1_2, (t2.1.1.1, (t2.1.1.2.1, ()))))), ())))
noncomputable def tab_lexer_scanner_number : List (Plc E P_lexer_scanner_number) := []
theorem tab_lexer_scanner_number_ok : All (PlcOk 54 2 place_lexer_scanner_number st_lexer_scanner_number) tab_lexer_scanner_number := trivial
noncomputable def code_lexer_scanner_number : Code := Tryd.f55.body.getD .skip
noncomputable def spec_lexer_scanner_number : Spec E.S := (Con.add con_lexer_scanner_fail (Con.add con_lexer_ParseLiteral (Con.add con_lexer_natural noSpec)))
theorem spec_lexer_scanner_number_ok : SpecOk E spec_lexer_scanner_number := (Con.add_ok con_lexer_scanner_fail_ok (Con.add_ok con_lexer_ParseLiteral_ok (Con.add_ok con_lexer_natural_ok noSpec_ok)))
theorem good_lexer_scanner_number : ∀ pt r, run_lexer_scanner_number pt = some r → Good E Tryd.f55 code_lexer_scanner_number 2 (res_lexer_scanner_number.av r) (res_lexer_scanner_number.bx r) (place_lexer_scanner_number pt) (st_lexer_scanner_number pt) := by
  intro pt r hr
  cases pt <;> exact fn_step (spec := spec_lexer_scanner_number) (wr := (fun i => mem i [])) (l := tab_lexer_scanner_number) (z := 54) (p := res_lexer_scanner_number) (run' := fun _ => none) E_ok tab_lexer_scanner_number_ok.mem rfl spec_lexer_scanner_number_ok (fun _ _ h => by cases h) (Eq.trans (by kernel_rfl) hr)
noncomputable def con_lexer_scanner_number : Con E := ⟨55, (Unit × (Unit × Unit)), ((ByteArray × (Int × (Int × Unit))) × ((Int × (Int × (ByteArray × (Int × (Int × Unit))))) × Unit)), (RwL.cons (Rd.bp 0 0).w (RwL.cons (Rd.bp 1 0).w RwL.nil)), (RdBL.cons (RdB.var 62 (RdL.cons Rd.str (RdL.cons (Rd.int .i64) (RdL.cons (Rd.int .i64) RdL.nil)))) (RdBL.cons (RdB.var 33 (RdL.cons (Rd.int .i64) (RdL.cons (Rd.int .i64) (RdL.cons Rd.str (RdL.cons (Rd.int .i64) (RdL.cons (Rd.int .i64) RdL.nil)))))) RdBL.nil)), 2, R_lexer_scanner_number, fun a b => run_lexer_scanner_number (.start b.1.1 b.1.2.1 b.1.2.2.1 b.2.1.1 b.2.1.2.1 b.2.1.2.2.1 b.2.1.2.2.2.1 b.2.1.2.2.2.2.1), res_lexer_scanner_number.av, res_lexer_scanner_number.bx⟩
theorem con_lexer_scanner_number_ok : con_lexer_scanner_number.Ok := fun a b r h => fn_ok (fn := Tryd.f55) (code := code_lexer_scanner_number) E_ok (by kernel_rfl) (by kernel_rfl) (by kernel_rfl) (Nat.le_of_ble_eq_true rfl) (good_lexer_scanner_number (.start b.1.1 b.1.2.1 b.1.2.2.1 b.2.1.1 b.2.1.2.1 b.2.1.2.2.1 b.2.1.2.2.2.1 b.2.1.2.2.2.2.1) r h)

/-! ### (*ratchet/lexer.scanner).operator -/
inductive P_lexer_scanner_operator where
 | start (B0_0 : ByteArray) (B0_1 : Int) (B0_2 : Int)
 | p116 (best3 : ByteArray) (s7 : (List ByteArray)) (s8 : Int) (s9 : Int) (B0_0 : ByteArray) (B0_1 : Int) (B0_2 : Int)
noncomputable def place_lexer_scanner_operator : P_lexer_scanner_operator → List Bool
 | .start .. => []
 | .p116 .. => [false, false, true, false, true, true]
noncomputable def st_lexer_scanner_operator : P_lexer_scanner_operator → St E.S
 | .start B0_0 B0_1 B0_2 => st0 46 [.bp 0 0] [.var 62 [.v (.string B0_0), .v (.int .i64 B0_1), .v (.int .i64 B0_2)]]
 | .p116 best3 s7 s8 s9 B0_0 B0_1 B0_2 => mkSt 46 [0, 3, 7, 8, 9] [.bp 0 0, .v (.string best3), .sl 9 s7 true, .v (.int .i64 s8), .v (.int .i64 s9)] [.var 62 [.v (.string B0_0), .v (.int .i64 B0_1), .v (.int .i64 B0_2)]]
abbrev R_lexer_scanner_operator : Type := ((ByteArray × Unit) × ((ByteArray × (Int × (Int × Unit))) × Unit))
noncomputable def res_lexer_scanner_operator : Res E (ByteArray × Unit) ((ByteArray × (Int × (Int × Unit))) × Unit) := { rows := [], flat := [], keep := 1, rl := (RdL.cons Rd.str RdL.nil), rb := (RdBL.cons (RdB.var 62 (RdL.cons Rd.str (RdL.cons (Rd.int .i64) (RdL.cons (Rd.int .i64) RdL.nil)))) RdBL.nil) }
noncomputable def run_lexer_scanner_operator : P_lexer_scanner_operator → Option R_lexer_scanner_operator
 | .start B0_0 B0_1 B0_2 =>
   (run_lexer_Operators .start) >>= fun t1 =>
   run_lexer_scanner_operator (.p116 (⟨#[]⟩ : ByteArray) t1.1.1 (List.length t1.1.1 : Int) (0 : Int) B0_0 B0_1 B0_2)
 | .p116 best3 s7 s8 s9 B0_0 B0_1 B0_2 =>
   if (decide (s9 < s8)) = true then
     (idx s7 s9) >>= fun t1 =>
     (run_lexer_scanner_has (.start t1 B0_0 B0_1 B0_2)) >>= fun t2 =>
     if t2.1.1 = true then
       if (decide ((t1.size : Int) > (best3.size : Int))) = true then
         run_lexer_scanner_operator (.p116 t1 s7 s8 (IntKind.wrap .i64 (s9 + (1 : Int))) t2.2.1.1 t2.2.1.2.1 t2.2.1.2.2.1)
       else
         run_lexer_scanner_operator (.p116 best3 s7 s8 (IntKind.wrap .i64 (s9 + (1 : Int))) t2.2.1.1 t2.2.1.2.1 t2.2.1.2.2.1)
     else
       run_lexer_scanner_operator (.p116 best3 s7 s8 (IntKind.wrap .i64 (s9 + (1 : Int))) t2.2.1.1 t2.2.1.2.1 t2.2.1.2.2.1)
   else
     if (seq best3 (⟨#[]⟩ : ByteArray)) = true then
       (sidx B0_0 B0_1) >>= fun t3 =>
       (run_lexer_isPermitted (.start t3)) >>= fun t4 =>
       if (!t4.1.1) = true then
         (run_lexer_scanner_fail (.start B0_1 (15 : Int) B0_0 B0_1 B0_2)) >>= fun t5 =>
         some ((best3, ()), ((t5.2.1.1, (t5.2.1.2.1, (t5.2.1.2.2.1, ()))), ()))
       else
         (run_lexer_scanner_fail (.start B0_1 (7 : Int) B0_0 B0_1 B0_2)) >>= fun t6 =>
         some ((best3, ()), ((t6.2.1.1, (t6.2.1.2.1, (t6.2.1.2.2.1, ()))), ()))
     else
       some ((best3, ()), ((B0_0, (B0_1, (B0_2, ()))), ()))
  partial_fixpoint
noncomputable def tab_lexer_scanner_operator : List (Plc E P_lexer_scanner_operator) := [⟨116, [false, false, true, false, true, true], { slots := [0, 3, 7, 8, 9], rows := [], flat := [], keep := 1 }, (Unit × (ByteArray × ((List ByteArray) × (Int × (Int × Unit))))), ((ByteArray × (Int × (Int × Unit))) × Unit), (RdL.cons (Rd.bp 0 0) (RdL.cons Rd.str (RdL.cons (Rd.sl 9 true) (RdL.cons (Rd.int .i64) (RdL.cons (Rd.int .i64) RdL.nil))))), (RdBL.cons (RdB.var 62 (RdL.cons Rd.str (RdL.cons (Rd.int .i64) (RdL.cons (Rd.int .i64) RdL.nil)))) RdBL.nil), fun a b => .p116 a.2.1 a.2.2.1 a.2.2.2.1 a.2.2.2.2.1 b.1.1 b.1.2.1 b.1.2.2.1⟩]
theorem tab_lexer_scanner_operator_ok : All (PlcOk 46 1 place_lexer_scanner_operator st_lexer_scanner_operator) tab_lexer_scanner_operator := ⟨⟨rfl, rfl, fun _ _ => rfl, fun _ _ => rfl⟩, trivial⟩
noncomputable def code_lexer_scanner_operator : Code := Tryd.f56.body.getD .skip
noncomputable def spec_lexer_scanner_operator : Spec E.S := (Con.add con_lexer_scanner_fail (Con.add con_lexer_isPermitted (Con.add con_lexer_scanner_has (Con.add con_lexer_Operators noSpec))))
theorem spec_lexer_scanner_operator_ok : SpecOk E spec_lexer_scanner_operator := (Con.add_ok con_lexer_scanner_fail_ok (Con.add_ok con_lexer_isPermitted_ok (Con.add_ok con_lexer_scanner_has_ok (Con.add_ok con_lexer_Operators_ok noSpec_ok))))
theorem good_lexer_scanner_operator : ∀ pt r, run_lexer_scanner_operator pt = some r → Good E Tryd.f56 code_lexer_scanner_operator 1 (res_lexer_scanner_operator.av r) (res_lexer_scanner_operator.bx r) (place_lexer_scanner_operator pt) (st_lexer_scanner_operator pt) := by
  refine run_lexer_scanner_operator.partial_correctness (fun pt r => Good E Tryd.f56 code_lexer_scanner_operator 1 (res_lexer_scanner_operator.av r) (res_lexer_scanner_operator.bx r) (place_lexer_scanner_operator pt) (st_lexer_scanner_operator pt)) ?_
  intro run' ih pt r hr
  cases pt <;> exact fn_step (spec := spec_lexer_scanner_operator) (wr := (fun i => mem i [])) (l := tab_lexer_scanner_operator) (z := 46) (p := res_lexer_scanner_operator) E_ok tab_lexer_scanner_operator_ok.mem rfl spec_lexer_scanner_operator_ok ih (Eq.trans (by kernel_rfl) hr)
noncomputable def con_lexer_scanner_operator : Con E := ⟨56, (Unit × Unit), ((ByteArray × (Int × (Int × Unit))) × Unit), (RwL.cons (Rd.bp 0 0).w RwL.nil), (RdBL.cons (RdB.var 62 (RdL.cons Rd.str (RdL.cons (Rd.int .i64) (RdL.cons (Rd.int .i64) RdL.nil)))) RdBL.nil), 1, R_lexer_scanner_operator, fun a b => run_lexer_scanner_operator (.start b.1.1 b.1.2.1 b.1.2.2.1), res_lexer_scanner_operator.av, res_lexer_scanner_operator.bx⟩
theorem con_lexer_scanner_operator_ok : con_lexer_scanner_operator.Ok := fun a b r h => fn_ok (fn := Tryd.f56) (code := code_lexer_scanner_operator) E_ok (by kernel_rfl) (by kernel_rfl) (by kernel_rfl) (Nat.le_of_ble_eq_true rfl) (good_lexer_scanner_operator (.start b.1.1 b.1.2.1 b.1.2.2.1) r h)

/-! ### (*ratchet/lexer.scanner).token -/
inductive P_lexer_scanner_token where
 | start (B0_0 : ByteArray) (B0_1 : Int) (B0_2 : Int)
 | p15 (B0_0 : ByteArray) (B0_1 : Int) (B0_2 : Int) (B1_0 : Int) (B1_1 : Int) (B1_2 : ByteArray) (B1_3 : Int) (B1_4 : Int) (B2_0 : Int) (B2_1 : Int) (B2_2 : ByteArray) (B2_3 : Int) (B2_4 : Int)
noncomputable def place_lexer_scanner_token : P_lexer_scanner_token → List Bool
 | .start .. => []
 | .p15 .. => [true, true, true]
noncomputable def st_lexer_scanner_token : P_lexer_scanner_token → St E.S
 | .start B0_0 B0_1 B0_2 => st0 57 [.bp 0 0] [.var 62 [.v (.string B0_0), .v (.int .i64 B0_1), .v (.int .i64 B0_2)]]
 | .p15 B0_0 B0_1 B0_2 B1_0 B1_1 B1_2 B1_3 B1_4 B2_0 B2_1 B2_2 B2_3 B2_4 => mkSt 57 [0, 2, 3] [.bp 0 0, .bp 1 0, .bp 2 0] [.var 62 [.v (.string B0_0), .v (.int .i64 B0_1), .v (.int .i64 B0_2)], .var 33 [.v (.int .i64 B1_0), .v (.int .i64 B1_1), .v (.string B1_2), .v (.int .i64 B1_3), .v (.int .i64 B1_4)], .var 33 [.v (.int .i64 B2_0), .v (.int .i64 B2_1), .v (.string B2_2), .v (.int .i64 B2_3), .v (.int .i64 B2_4)]]
abbrev R_lexer_scanner_token : Type := (((Int × (Int × (ByteArray × (Int × (Int × Unit))))) × Unit) × ((ByteArray × (Int × (Int × Unit))) × Unit))
noncomputable def res_lexer_scanner_token : Res E ((Int × (Int × (ByteArray × (Int × (Int × Unit))))) × Unit) ((ByteArray × (Int × (Int × Unit))) × Unit) := { rows := [], flat := [], keep := 1, rl := (RdL.cons (Rd.agg (RdL.cons (Rd.int .i64) (RdL.cons (Rd.int .i64) (RdL.cons Rd.str (RdL.cons (Rd.int .i64) (RdL.cons (Rd.int .i64) RdL.nil)))))) RdL.nil), rb := (RdBL.cons (RdB.var 62 (RdL.cons Rd.str (RdL.cons (Rd.int .i64) (RdL.cons (Rd.int .i64) RdL.nil)))) RdBL.nil) }
noncomputable def run_lexer_scanner_token : P_lexer_scanner_token → Option R_lexer_scanner_token
 | .start B0_0 B0_1 B0_2 =>
   (sidx B0_0 B0_1) >>= fun t1 =>
   (run_lexer_isLetter (.start t1)) >>= fun t2 =>
   if t2.1.1 = true then
     (run_lexer_scanner_word (.start B0_0 B0_1 B0_2)) >>= fun t3 =>
     run_lexer_scanner_token (.p15 t3.2.1.1 t3.2.1.2.1 t3.2.1.2.2.1 (0 : Int) (0 : Int) (⟨#[]⟩ : ByteArray) (0 : Int) (0 : Int) t3.1.1 B0_1 t3.1.2.1 (0 : Int) (0 : Int))
   else
     (run_lexer_isDigit (.start t1)) >>= fun t4 =>
     if t4.1.1 = true then
       (run_lexer_scanner_run_v1 (.start B0_0 B0_1 B0_2)) >>= fun t5 =>
       (run_lexer_scanner_number (.start t5.2.1.1 t5.2.1.2.1 t5.2.1.2.2.1 (0 : Int) B0_1 t5.1.1 (0 : Int) (0 : Int))) >>= fun t6 =>
       run_lexer_scanner_token (.p15 t6.2.1.1 t6.2.1.2.1 t6.2.1.2.2.1 (0 : Int) (0 : Int) (⟨#[]⟩ : ByteArray) (0 : Int) (0 : Int) t6.2.2.1.1 t6.2.2.1.2.1 t6.2.2.1.2.2.1 t6.2.2.1.2.2.2.1 t6.2.2.1.2.2.2.2.1)
     else
       (run_lexer_scanner_operator (.start B0_0 B0_1 B0_2)) >>= fun t7 =>
       run_lexer_scanner_token (.p15 t7.2.1.1 t7.2.1.2.1 t7.2.1.2.2.1 (0 : Int) (0 : Int) (⟨#[]⟩ : ByteArray) (0 : Int) (0 : Int) (5 : Int) B0_1 t7.1.1 (0 : Int) (0 : Int))
 | .p15 B0_0 B0_1 B0_2 B1_0 B1_1 B1_2 B1_3 B1_4 B2_0 B2_1 B2_2 B2_3 B2_4 =>
   if (B0_2 == (0 : Int)) = true then
     some (((B2_0, (B2_1, (B2_2, (B2_3, (B2_4, ()))))), ()), ((B0_0, (IntKind.wrap .i64 (B0_1 + (B2_2.size : Int)), (B0_2, ()))), ()))
   else
     some (((B2_0, (B2_1, (B2_2, (B2_3, (B2_4, ()))))), ()), ((B0_0, (B0_1, (B0_2, ()))), ()))
  partial_fixpoint
noncomputable def tab_lexer_scanner_token : List (Plc E P_lexer_scanner_token) := [⟨15, [true, true, true], { slots := [0, 2, 3], rows := [], flat := [], keep := 1 }, (Unit × (Unit × (Unit × Unit))), ((ByteArray × (Int × (Int × Unit))) × ((Int × (Int × (ByteArray × (Int × (Int × Unit))))) × ((Int × (Int × (ByteArray × (Int × (Int × Unit))))) × Unit))), (RdL.cons (Rd.bp 0 0) (RdL.cons (Rd.bp 1 0) (RdL.cons (Rd.bp 2 0) RdL.nil))), (RdBL.cons (RdB.var 62 (RdL.cons Rd.str (RdL.cons (Rd.int .i64) (RdL.cons (Rd.int .i64) RdL.nil)))) (RdBL.cons (RdB.var 33 (RdL.cons (Rd.int .i64) (RdL.cons (Rd.int .i64) (RdL.cons Rd.str (RdL.cons (Rd.int .i64) (RdL.cons (Rd.int .i64) RdL.nil)))))) (RdBL.cons (RdB.var 33 (RdL.cons (Rd.int .i64) (RdL.cons (Rd.int .i64) (RdL.cons Rd.str (RdL.cons (Rd.int .i64) (RdL.cons (Rd.int .i64) RdL.nil)))))) RdBL.nil))), fun a b => .p15 b.1.1 b.1.2.1 b.1.2.2.1 b.2.1.1 b.2.1.2.1 b.2.1.2.2.1 b.2.1.2.2.2.1 b.2.1.2.2.2.2.1 b.2.2.1.1 b.2.2.1.2.1 b.2.2.1.2.2.1 b.2.2.1.2.2.2.1 b.2.2.1.2.2.2.2.1⟩]
theorem tab_lexer_scanner_token_ok : All (PlcOk 57 1 place_lexer_scanner_token st_lexer_scanner_token) tab_lexer_scanner_token := ⟨⟨rfl, rfl, fun _ _ => rfl, fun _ _ => rfl⟩, trivial⟩
noncomputable def code_lexer_scanner_token : Code := Tryd.f32.body.getD .skip
noncomputable def spec_lexer_scanner_token : Spec E.S := (Con.add con_lexer_scanner_operator (Con.add con_lexer_scanner_number (Con.add con_lexer_scanner_run_v1 (Con.add con_lexer_isDigit (Con.add con_lexer_scanner_word (Con.add con_lexer_isLetter noSpec))))))
theorem spec_lexer_scanner_token_ok : SpecOk E spec_lexer_scanner_token := (Con.add_ok con_lexer_scanner_operator_ok (Con.add_ok con_lexer_scanner_number_ok (Con.add_ok con_lexer_scanner_run_v1_ok (Con.add_ok con_lexer_isDigit_ok (Con.add_ok con_lexer_scanner_word_ok (Con.add_ok con_lexer_isLetter_ok noSpec_ok))))))
theorem good_lexer_scanner_token : ∀ pt r, run_lexer_scanner_token pt = some r → Good E Tryd.f32 code_lexer_scanner_token 1 (res_lexer_scanner_token.av r) (res_lexer_scanner_token.bx r) (place_lexer_scanner_token pt) (st_lexer_scanner_token pt) := by
  refine run_lexer_scanner_token.partial_correctness (fun pt r => Good E Tryd.f32 code_lexer_scanner_token 1 (res_lexer_scanner_token.av r) (res_lexer_scanner_token.bx r) (place_lexer_scanner_token pt) (st_lexer_scanner_token pt)) ?_
  intro run' ih pt r hr
  cases pt <;> exact fn_step (spec := spec_lexer_scanner_token) (wr := (fun i => mem i [])) (l := tab_lexer_scanner_token) (z := 57) (p := res_lexer_scanner_token) E_ok tab_lexer_scanner_token_ok.mem rfl spec_lexer_scanner_token_ok ih (Eq.trans (by kernel_rfl) hr)
noncomputable def con_lexer_scanner_token : Con E := ⟨32, (Unit × Unit), ((ByteArray × (Int × (Int × Unit))) × Unit), (RwL.cons (Rd.bp 0 0).w RwL.nil), (RdBL.cons (RdB.var 62 (RdL.cons Rd.str (RdL.cons (Rd.int .i64) (RdL.cons (Rd.int .i64) RdL.nil)))) RdBL.nil), 1, R_lexer_scanner_token, fun a b => run_lexer_scanner_token (.start b.1.1 b.1.2.1 b.1.2.2.1), res_lexer_scanner_token.av, res_lexer_scanner_token.bx⟩
theorem con_lexer_scanner_token_ok : con_lexer_scanner_token.Ok := fun a b r h => fn_ok (fn := Tryd.f32) (code := code_lexer_scanner_token) E_ok (by kernel_rfl) (by kernel_rfl) (by kernel_rfl) (Nat.le_of_ble_eq_true rfl) (good_lexer_scanner_token (.start b.1.1 b.1.2.1 b.1.2.2.1) r h)

/-! ### ratchet/lexer.Tokens -/
inductive P_lexer_Tokens where
 | start (text0 : ByteArray)
 | p500 (B0 : (List api_LexerToken)) (B1_0 : ByteArray) (B1_1 : Int) (B1_2 : Int)
noncomputable def place_lexer_Tokens : P_lexer_Tokens → List Bool
 | .start .. => []
 | .p500 .. => [false, false, true, false, true, true, true, true]
noncomputable def st_lexer_Tokens : P_lexer_Tokens → St E.S
 | .start text0 => st0 49 [.v (.string text0)] []
 | .p500 B0 B1_0 B1_1 B1_2 => mkSt 49 [6, 7] [.rw 0, .bp 1 0] [.row 33 B0 true, .var 62 [.v (.string B1_0), .v (.int .i64 B1_1), .v (.int .i64 B1_2)]]
abbrev R_lexer_Tokens : Type := ((Unit × (Int × (Int × Unit))) × ((List api_LexerToken) × Unit))
noncomputable def res_lexer_Tokens : Res E (Unit × (Int × (Int × Unit))) ((List api_LexerToken) × Unit) := { rows := [(0, 33)], flat := [], keep := 0, rl := (RdL.cons (Rd.rw 0) (RdL.cons (Rd.int .i64) (RdL.cons (Rd.int .i64) RdL.nil))), rb := (RdBL.cons (RdB.row 33 true) RdBL.nil) }
noncomputable def run_lexer_Tokens : P_lexer_Tokens → Option R_lexer_Tokens
 | .start text0 =>
   (run_lexer_textErr (.start text0)) >>= fun t1 =>
   if (t1.1.1 != (0 : Int)) = true then
     some (((), ((0 : Int), (t1.1.1, ()))), ([], ()))
   else
     (run_lexer_scanner_skip (.start text0 (0 : Int) (0 : Int))) >>= fun t2 =>
     run_lexer_Tokens (.p500 ([]) t2.2.1.1 t2.2.1.2.1 t2.2.1.2.2.1)
 | .p500 B0 B1_0 B1_1 B1_2 =>
   (run_lexer_scanner_ended (.start B1_0 B1_1 B1_2)) >>= fun t1 =>
   if (!t1.1.1) = true then
     (run_lexer_scanner_token (.start t1.2.1.1 t1.2.1.2.1 t1.2.1.2.2.1)) >>= fun t2 =>
     if (fits (List.length B0) (List.length ([(⟨t2.1.1.1, t2.1.1.2.1, t2.1.1.2.2.1, t2.1.1.2.2.2.1, t2.1.1.2.2.2.2.1⟩ : api_LexerToken)] : List api_LexerToken)) 48) = true then
       (run_lexer_scanner_skip (.start t2.2.1.1 t2.2.1.2.1 t2.2.1.2.2.1)) >>= fun t3 =>
       run_lexer_Tokens (.p500 (B0 ++ ([(⟨t2.1.1.1, t2.1.1.2.1, t2.1.1.2.2.1, t2.1.1.2.2.2.1, t2.1.1.2.2.2.2.1⟩ : api_LexerToken)] : List api_LexerToken)) t3.2.1.1 t3.2.1.2.1 t3.2.1.2.2.1)
     else none
   else
     if (t1.2.1.2.2.1 != (0 : Int)) = true then
       some (((), (t1.2.1.2.1, (t1.2.1.2.2.1, ()))), ([], ()))
     else
       if (decide ((List.length B0 : Int) > (4000 : Int))) = true then
         if (decide ((0 : Int) ≤ (4000 : Int)) && decide ((4000 : Int) < (List.length B0 : Int))) = true then
           (idx B0 (4000 : Int)) >>= fun t4 =>
           some (((), (t4.At, ((8 : Int), ()))), ([], ()))
         else none
       else
         some (((), ((0 : Int), ((0 : Int), ()))), (B0, ()))
  partial_fixpoint
noncomputable def tab_lexer_Tokens : List (Plc E P_lexer_Tokens) := [⟨500, [false, false, true, false, true, true, true, true], { slots := [6, 7], rows := [(6, 33)], flat := [], keep := 0 }, (Unit × (Unit × Unit)), ((List api_LexerToken) × ((ByteArray × (Int × (Int × Unit))) × Unit)), (RdL.cons (Rd.rw 0) (RdL.cons (Rd.bp 1 0) RdL.nil)), (RdBL.cons (RdB.row 33 true) (RdBL.cons (RdB.var 62 (RdL.cons Rd.str (RdL.cons (Rd.int .i64) (RdL.cons (Rd.int .i64) RdL.nil)))) RdBL.nil)), fun a b => .p500 b.1 b.2.1.1 b.2.1.2.1 b.2.1.2.2.1⟩]
theorem tab_lexer_Tokens_ok : All (PlcOk 49 0 place_lexer_Tokens st_lexer_Tokens) tab_lexer_Tokens := ⟨⟨rfl, rfl, fun _ _ => rfl, fun _ _ => rfl⟩, trivial⟩
noncomputable def code_lexer_Tokens : Code := Tryd.f15.body.getD .skip
noncomputable def spec_lexer_Tokens : Spec E.S := (Con.add con_lexer_scanner_token (Con.add con_lexer_scanner_ended (Con.add con_lexer_scanner_skip (Con.add con_lexer_textErr noSpec))))
theorem spec_lexer_Tokens_ok : SpecOk E spec_lexer_Tokens := (Con.add_ok con_lexer_scanner_token_ok (Con.add_ok con_lexer_scanner_ended_ok (Con.add_ok con_lexer_scanner_skip_ok (Con.add_ok con_lexer_textErr_ok noSpec_ok))))
theorem good_lexer_Tokens : ∀ pt r, run_lexer_Tokens pt = some r → Good E Tryd.f15 code_lexer_Tokens 0 (res_lexer_Tokens.av r) (res_lexer_Tokens.bx r) (place_lexer_Tokens pt) (st_lexer_Tokens pt) := by
  refine run_lexer_Tokens.partial_correctness (fun pt r => Good E Tryd.f15 code_lexer_Tokens 0 (res_lexer_Tokens.av r) (res_lexer_Tokens.bx r) (place_lexer_Tokens pt) (st_lexer_Tokens pt)) ?_
  intro run' ih pt r hr
  cases pt <;> exact fn_step (spec := spec_lexer_Tokens) (wr := (fun i => mem i [])) (l := tab_lexer_Tokens) (z := 49) (p := res_lexer_Tokens) E_ok tab_lexer_Tokens_ok.mem rfl spec_lexer_Tokens_ok ih (Eq.trans (by kernel_rfl) hr)
noncomputable def con_lexer_Tokens : Con E := ⟨15, (ByteArray × Unit), Unit, (RwL.cons Rd.str.w RwL.nil), RdBL.nil, 0, R_lexer_Tokens, fun a b => run_lexer_Tokens (.start a.1), res_lexer_Tokens.av, res_lexer_Tokens.bx⟩
theorem con_lexer_Tokens_ok : con_lexer_Tokens.Ok := fun a b r h => fn_ok (fn := Tryd.f15) (code := code_lexer_Tokens) E_ok (by kernel_rfl) (by kernel_rfl) (by kernel_rfl) (Nat.le_of_ble_eq_true rfl) (good_lexer_Tokens (.start a.1) r h)

/-! ### ratchet/ratchetlaw05.LexerWords -/
inductive P_ratchetlaw05_LexerWords where
 | start (s0 : ByteArray)
 | p63 (k3 : (List ByteArray)) (o4 : (List ByteArray))
 | p1012 (k3 : (List ByteArray)) (o4 : (List ByteArray)) (i5 : Int)
 | p2036 (o4 : (List ByteArray)) (i9 : Int)
noncomputable def place_ratchetlaw05_LexerWords : P_ratchetlaw05_LexerWords → List Bool
 | .start .. => []
 | .p63 .. => [true, true, true, true, true]
 | .p1012 .. => [false, false, true, false, true, true, true, true, true]
 | .p2036 .. => [false, false, true, false, true, true, true, true, true, true]
noncomputable def st_ratchetlaw05_LexerWords : P_ratchetlaw05_LexerWords → St E.S
 | .start s0 => st0 104 [.v (.string s0)] []
 | .p63 k3 o4 => mkSt 104 [3, 4] [.sl 9 k3 true, .sl 9 o4 true] []
 | .p1012 k3 o4 i5 => mkSt 104 [3, 4, 5] [.sl 9 k3 true, .sl 9 o4 true, .v (.int .i64 i5)] []
 | .p2036 o4 i9 => mkSt 104 [4, 9] [.sl 9 o4 true, .v (.int .i64 i9)] []
abbrev R_ratchetlaw05_LexerWords : Type := ((Bool × Unit) × Unit)
noncomputable def res_ratchetlaw05_LexerWords : Res E (Bool × Unit) Unit := { rows := [], flat := [], keep := 0, rl := (RdL.cons Rd.bool RdL.nil), rb := RdBL.nil }
noncomputable def run_ratchetlaw05_LexerWords : P_ratchetlaw05_LexerWords → Option R_ratchetlaw05_LexerWords
 | .start s0 =>
   (some () : Option Unit) >>= fun t1 =>
   if (!true) = true then
     some ((false, ()), ())
   else
     if (decide ((s0.size : Int) > (40 : Int))) = true then
       some ((true, ()), ())
     else
       (run_lexer_Keywords .start) >>= fun t2 =>
       (run_lexer_Operators .start) >>= fun t3 =>
       (run_ratchetref05_Keywords .start) >>= fun t4 =>
       (run_ratchetbase_Texts (.start t2.1.1 t4.1.1)) >>= fun t5 =>
       if (!t5.1.1) = true then
         some ((false, ()), ())
       else
         (run_ratchetref05_Operators .start) >>= fun t6 =>
         (run_ratchetbase_Texts (.start t3.1.1 t6.1.1)) >>= fun t7 =>
         if (!t7.1.1) = true then
           some ((false, ()), ())
         else
           (run_lexer_IsKeyword (.start s0)) >>= fun t8 =>
           (run_ratchetref05_Keywords .start) >>= fun t9 =>
           (run_ratchetbase_HasText (.start t9.1.1 s0)) >>= fun t10 =>
           if (!(t8.1.1 == t10.1.1)) = true then
             some ((false, ()), ())
           else
             run_ratchetlaw05_LexerWords (.p63 t2.1.1 t3.1.1)
 | .p63 k3 o4 =>
   run_ratchetlaw05_LexerWords (.p1012 k3 o4 (0 : Int))
 | .p1012 k3 o4 i5 =>
   if (decide (i5 < (List.length k3 : Int))) = true then
     (idx k3 i5) >>= fun t1 =>
     (run_lexer_Tokens (.start t1)) >>= fun t2 =>
     if (t2.1.2.2.1 != (0 : Int)) = true then
       some ((false, ()), ())
     else
       if ((List.length t2.2.1 : Int) != (1 : Int)) = true then
         some ((false, ()), ())
       else
         if (decide ((0 : Int) ≤ (0 : Int)) && decide ((0 : Int) < (List.length t2.2.1 : Int))) = true then
           (idx t2.2.1 (0 : Int)) >>= fun t3 =>
           (idx k3 i5) >>= fun t4 =>
           if (!((t3.Kind == (2 : Int)) && ((t3.At == (0 : Int)) && ((seq t3.Text t4) && ((t3.Value == (0 : Int)) && ((t3.Width == (0 : Int)) && true)))))) = true then
             some ((false, ()), ())
           else
             run_ratchetlaw05_LexerWords (.p1012 k3 o4 (IntKind.wrap .i64 (i5 + (1 : Int))))
         else none
   else
     run_ratchetlaw05_LexerWords (.p2036 o4 (0 : Int))
 | .p2036 o4 i9 =>
   if (decide (i9 < (List.length o4 : Int))) = true then
     (idx o4 i9) >>= fun t1 =>
     (run_lexer_Tokens (.start t1)) >>= fun t2 =>
     if (t2.1.2.2.1 != (0 : Int)) = true then
       some ((false, ()), ())
     else
       if ((List.length t2.2.1 : Int) != (1 : Int)) = true then
         some ((false, ()), ())
       else
         if (decide ((0 : Int) ≤ (0 : Int)) && decide ((0 : Int) < (List.length t2.2.1 : Int))) = true then
           (idx t2.2.1 (0 : Int)) >>= fun t3 =>
           (idx o4 i9) >>= fun t4 =>
           if (!((t3.Kind == (5 : Int)) && ((t3.At == (0 : Int)) && ((seq t3.Text t4) && ((t3.Value == (0 : Int)) && ((t3.Width == (0 : Int)) && true)))))) = true then
             some ((false, ()), ())
           else
             run_ratchetlaw05_LexerWords (.p2036 o4 (IntKind.wrap .i64 (i9 + (1 : Int))))
         else none
   else
     some ((true, ()), ())
  partial_fixpoint
noncomputable def tab_ratchetlaw05_LexerWords : List (Plc E P_ratchetlaw05_LexerWords) := [⟨63, [true, true, true, true, true], { slots := [3, 4], rows := [], flat := [], keep := 0 }, ((List ByteArray) × ((List ByteArray) × Unit)), Unit, (RdL.cons (Rd.sl 9 true) (RdL.cons (Rd.sl 9 true) RdL.nil)), RdBL.nil, fun a b => .p63 a.1 a.2.1⟩,
  ⟨1012, [false, false, true, false, true, true, true, true, true], { slots := [3, 4, 5], rows := [], flat := [], keep := 0 }, ((List ByteArray) × ((List ByteArray) × (Int × Unit))), Unit, (RdL.cons (Rd.sl 9 true) (RdL.cons (Rd.sl 9 true) (RdL.cons (Rd.int .i64) RdL.nil))), RdBL.nil, fun a b => .p1012 a.1 a.2.1 a.2.2.1⟩,
  ⟨2036, [false, false, true, false, true, true, true, true, true, true], { slots := [4, 9], rows := [], flat := [], keep := 0 }, ((List ByteArray) × (Int × Unit)), Unit, (RdL.cons (Rd.sl 9 true) (RdL.cons (Rd.int .i64) RdL.nil)), RdBL.nil, fun a b => .p2036 a.1 a.2.1⟩]
theorem tab_ratchetlaw05_LexerWords_ok : All (PlcOk 104 0 place_ratchetlaw05_LexerWords st_ratchetlaw05_LexerWords) tab_ratchetlaw05_LexerWords := ⟨⟨rfl, rfl, fun _ _ => rfl, fun _ _ => rfl⟩, ⟨⟨rfl, rfl, fun _ _ => rfl, fun _ _ => rfl⟩, ⟨⟨rfl, rfl, fun _ _ => rfl, fun _ _ => rfl⟩, trivial⟩⟩⟩
noncomputable def code_ratchetlaw05_LexerWords : Code := Tryd.f3.body.getD .skip
noncomputable def spec_ratchetlaw05_LexerWords : Spec E.S := (Con.add con_lexer_Tokens (Con.add con_ratchetbase_HasText (Con.add con_lexer_IsKeyword (Con.add con_ratchetref05_Operators (Con.add con_ratchetbase_Texts (Con.add con_ratchetref05_Keywords (Con.add con_lexer_Operators (Con.add con_lexer_Keywords (Con.add con_ratchetlaw05_awake noSpec)))))))))
theorem spec_ratchetlaw05_LexerWords_ok : SpecOk E spec_ratchetlaw05_LexerWords := (Con.add_ok con_lexer_Tokens_ok (Con.add_ok con_ratchetbase_HasText_ok (Con.add_ok con_lexer_IsKeyword_ok (Con.add_ok con_ratchetref05_Operators_ok (Con.add_ok con_ratchetbase_Texts_ok (Con.add_ok con_ratchetref05_Keywords_ok (Con.add_ok con_lexer_Operators_ok (Con.add_ok con_lexer_Keywords_ok (Con.add_ok con_ratchetlaw05_awake_ok noSpec_ok)))))))))
theorem good_ratchetlaw05_LexerWords : ∀ pt r, run_ratchetlaw05_LexerWords pt = some r → Good E Tryd.f3 code_ratchetlaw05_LexerWords 0 (res_ratchetlaw05_LexerWords.av r) (res_ratchetlaw05_LexerWords.bx r) (place_ratchetlaw05_LexerWords pt) (st_ratchetlaw05_LexerWords pt) := by
  refine run_ratchetlaw05_LexerWords.partial_correctness (fun pt r => Good E Tryd.f3 code_ratchetlaw05_LexerWords 0 (res_ratchetlaw05_LexerWords.av r) (res_ratchetlaw05_LexerWords.bx r) (place_ratchetlaw05_LexerWords pt) (st_ratchetlaw05_LexerWords pt)) ?_
  intro run' ih pt r hr
  cases pt <;> exact fn_step (spec := spec_ratchetlaw05_LexerWords) (wr := (fun i => mem i [])) (l := tab_ratchetlaw05_LexerWords) (z := 104) (p := res_ratchetlaw05_LexerWords) E_ok tab_ratchetlaw05_LexerWords_ok.mem rfl spec_ratchetlaw05_LexerWords_ok ih (Eq.trans (by kernel_rfl) hr)
noncomputable def con_ratchetlaw05_LexerWords : Con E := ⟨3, (ByteArray × Unit), Unit, (RwL.cons Rd.str.w RwL.nil), RdBL.nil, 0, R_ratchetlaw05_LexerWords, fun a b => run_ratchetlaw05_LexerWords (.start a.1), res_ratchetlaw05_LexerWords.av, res_ratchetlaw05_LexerWords.bx⟩
theorem con_ratchetlaw05_LexerWords_ok : con_ratchetlaw05_LexerWords.Ok := fun a b r h => fn_ok (fn := Tryd.f3) (code := code_ratchetlaw05_LexerWords) E_ok (by kernel_rfl) (by kernel_rfl) (by kernel_rfl) (Nat.le_of_ble_eq_true rfl) (good_ratchetlaw05_LexerWords (.start a.1) r h)

/-! ### ratchet/lexer.CommentsIn -/
inductive P_lexer_CommentsIn where
 | start (text0 : ByteArray)
 | p248 (B0 : (List api_Range)) (B1_0 : ByteArray) (B1_1 : Int) (B1_2 : Int)
noncomputable def place_lexer_CommentsIn : P_lexer_CommentsIn → List Bool
 | .start .. => []
 | .p248 .. => [false, false, false, true, true, true, true]
noncomputable def st_lexer_CommentsIn : P_lexer_CommentsIn → St E.S
 | .start text0 => st0 53 [.v (.string text0)] []
 | .p248 B0 B1_0 B1_1 B1_2 => mkSt 53 [6, 7] [.rw 0, .bp 1 0] [.row 58 B0 true, .var 62 [.v (.string B1_0), .v (.int .i64 B1_1), .v (.int .i64 B1_2)]]
abbrev R_lexer_CommentsIn : Type := ((Unit × (Int × (Int × Unit))) × ((List api_Range) × Unit))
noncomputable def res_lexer_CommentsIn : Res E (Unit × (Int × (Int × Unit))) ((List api_Range) × Unit) := { rows := [(0, 58)], flat := [], keep := 0, rl := (RdL.cons (Rd.rw 0) (RdL.cons (Rd.int .i64) (RdL.cons (Rd.int .i64) RdL.nil))), rb := (RdBL.cons (RdB.row 58 true) RdBL.nil) }
noncomputable def run_lexer_CommentsIn : P_lexer_CommentsIn → Option R_lexer_CommentsIn
 | .start text0 =>
   (run_lexer_textErr (.start text0)) >>= fun t1 =>
   if (t1.1.1 != (0 : Int)) = true then
     some (((), ((0 : Int), (t1.1.1, ()))), ([], ()))
   else
     run_lexer_CommentsIn (.p248 ([]) text0 (0 : Int) (0 : Int))
 | .p248 B0 B1_0 B1_1 B1_2 =>
   (run_lexer_scanner_ended (.start B1_0 B1_1 B1_2)) >>= fun t1 =>
   if (!t1.1.1) = true then
     (run_lexer_scanner_comment (.start t1.2.1.1 t1.2.1.2.1 t1.2.1.2.2.1)) >>= fun t2 =>
     if (!t2.1.1) = true then
       (run_lexer_scanner_step (.start t2.2.1.1 t2.2.1.2.1 t2.2.1.2.2.1)) >>= fun t3 =>
       run_lexer_CommentsIn (.p248 B0 t3.2.1.1 t3.2.1.2.1 t3.2.1.2.2.1)
     else
       if (fits (List.length B0) (List.length ([(⟨t1.2.1.2.1, IntKind.wrap .i64 (t2.2.1.2.1 - (1 : Int))⟩ : api_Range)] : List api_Range)) 16) = true then
         run_lexer_CommentsIn (.p248 (B0 ++ ([(⟨t1.2.1.2.1, IntKind.wrap .i64 (t2.2.1.2.1 - (1 : Int))⟩ : api_Range)] : List api_Range)) t2.2.1.1 t2.2.1.2.1 t2.2.1.2.2.1)
       else none
   else
     if (t1.2.1.2.2.1 != (0 : Int)) = true then
       some (((), (t1.2.1.2.1, (t1.2.1.2.2.1, ()))), ([], ()))
     else
       some (((), ((0 : Int), ((0 : Int), ()))), (B0, ()))
  partial_fixpoint
noncomputable def tab_lexer_CommentsIn : List (Plc E P_lexer_CommentsIn) := [⟨248, [false, false, false, true, true, true, true], { slots := [6, 7], rows := [(6, 58)], flat := [], keep := 0 }, (Unit × (Unit × Unit)), ((List api_Range) × ((ByteArray × (Int × (Int × Unit))) × Unit)), (RdL.cons (Rd.rw 0) (RdL.cons (Rd.bp 1 0) RdL.nil)), (RdBL.cons (RdB.row 58 true) (RdBL.cons (RdB.var 62 (RdL.cons Rd.str (RdL.cons (Rd.int .i64) (RdL.cons (Rd.int .i64) RdL.nil)))) RdBL.nil)), fun a b => .p248 b.1 b.2.1.1 b.2.1.2.1 b.2.1.2.2.1⟩]
theorem tab_lexer_CommentsIn_ok : All (PlcOk 53 0 place_lexer_CommentsIn st_lexer_CommentsIn) tab_lexer_CommentsIn := ⟨⟨rfl, rfl, fun _ _ => rfl, fun _ _ => rfl⟩, trivial⟩
noncomputable def code_lexer_CommentsIn : Code := Tryd.f16.body.getD .skip
noncomputable def spec_lexer_CommentsIn : Spec E.S := (Con.add con_lexer_scanner_step (Con.add con_lexer_scanner_comment (Con.add con_lexer_scanner_ended (Con.add con_lexer_textErr noSpec))))
theorem spec_lexer_CommentsIn_ok : SpecOk E spec_lexer_CommentsIn := (Con.add_ok con_lexer_scanner_step_ok (Con.add_ok con_lexer_scanner_comment_ok (Con.add_ok con_lexer_scanner_ended_ok (Con.add_ok con_lexer_textErr_ok noSpec_ok))))
theorem good_lexer_CommentsIn : ∀ pt r, run_lexer_CommentsIn pt = some r → Good E Tryd.f16 code_lexer_CommentsIn 0 (res_lexer_CommentsIn.av r) (res_lexer_CommentsIn.bx r) (place_lexer_CommentsIn pt) (st_lexer_CommentsIn pt) := by
  refine run_lexer_CommentsIn.partial_correctness (fun pt r => Good E Tryd.f16 code_lexer_CommentsIn 0 (res_lexer_CommentsIn.av r) (res_lexer_CommentsIn.bx r) (place_lexer_CommentsIn pt) (st_lexer_CommentsIn pt)) ?_
  intro run' ih pt r hr
  cases pt <;> exact fn_step (spec := spec_lexer_CommentsIn) (wr := (fun i => mem i [])) (l := tab_lexer_CommentsIn) (z := 53) (p := res_lexer_CommentsIn) E_ok tab_lexer_CommentsIn_ok.mem rfl spec_lexer_CommentsIn_ok ih (Eq.trans (by kernel_rfl) hr)
noncomputable def con_lexer_CommentsIn : Con E := ⟨16, (ByteArray × Unit), Unit, (RwL.cons Rd.str.w RwL.nil), RdBL.nil, 0, R_lexer_CommentsIn, fun a b => run_lexer_CommentsIn (.start a.1), res_lexer_CommentsIn.av, res_lexer_CommentsIn.bx⟩
theorem con_lexer_CommentsIn_ok : con_lexer_CommentsIn.Ok := fun a b r h => fn_ok (fn := Tryd.f16) (code := code_lexer_CommentsIn) E_ok (by kernel_rfl) (by kernel_rfl) (by kernel_rfl) (Nat.le_of_ble_eq_true rfl) (good_lexer_CommentsIn (.start a.1) r h)

/-! ### ratchet/lexer.Stripped -/
inductive P_lexer_Stripped where
 | start (text0 : ByteArray)
 | p500 (s27 : Int) (s28 : Int) (B0 : (List Int)) (B1 : (List api_Range))
 | p256412 (part11 : (Nat × Nat)) (s27 : Int) (s28 : Int) (s39 : (Nat × Nat)) (s40 : Int) (s41 : Int) (B0 : (List Int)) (B1 : (List api_Range))
noncomputable def place_lexer_Stripped : P_lexer_Stripped → List Bool
 | .start .. => []
 | .p500 .. => [false, false, true, false, true, true, true, true]
 | .p256412 .. => [false, false, true, true, true, false, false, true, true, false, false, true, false, true, true, true, true]
noncomputable def st_lexer_Stripped : P_lexer_Stripped → St E.S
 | .start text0 => st0 55 [.v (.string text0)] []
 | .p500 s27 s28 B0 B1 => mkSt 55 [8, 26, 27, 28] [.rw 0, .rw 1, .v (.int .i64 s27), .v (.int .i64 s28)] [.row 5 B0 false, .row 58 B1 true]
 | .p256412 part11 s27 s28 s39 s40 s41 B0 B1 => mkSt 55 [8, 11, 26, 27, 28, 39, 40, 41] [.rw 0, .ws 0 5 part11, .rw 1, .v (.int .i64 s27), .v (.int .i64 s28), .ws 0 5 s39, .v (.int .i64 s40), .v (.int .i64 s41)] [.row 5 B0 false, .row 58 B1 true]
abbrev R_lexer_Stripped : Type := ((ByteArray × (Int × (Int × Unit))) × Unit)
noncomputable def res_lexer_Stripped : Res E (ByteArray × (Int × (Int × Unit))) Unit := { rows := [], flat := [], keep := 0, rl := (RdL.cons Rd.str (RdL.cons (Rd.int .i64) (RdL.cons (Rd.int .i64) RdL.nil))), rb := RdBL.nil }
noncomputable def run_lexer_Stripped : P_lexer_Stripped → Option R_lexer_Stripped
 | .start text0 =>
   (run_lexer_CommentsIn (.start text0)) >>= fun t1 =>
   if (t1.1.2.2.1 != (0 : Int)) = true then
     some (((⟨#[]⟩ : ByteArray), (t1.1.2.1, (t1.1.2.2.1, ()))), ())
   else
     run_lexer_Stripped (.p500 (List.length t1.2.1 : Int) (0 : Int) (strBytes text0) t1.2.1)
 | .p500 s27 s28 B0 B1 =>
   if (decide (s28 < s27)) = true then
     if (decide ((0 : Int) ≤ s28) && decide (s28 < (List.length B1 : Int))) = true then
       (idx B1 s28) >>= fun t1 =>
       (span (List.length B0) t1.Lo (IntKind.wrap .i64 (t1.Hi + (1 : Int)))) >>= fun t2 =>
       run_lexer_Stripped (.p256412 t2 s27 s28 t2 ((t2.2 - t2.1 : Nat) : Int) (0 : Int) B0 B1)
     else none
   else
     some ((bytesStr B0, ((0 : Int), ((0 : Int), ()))), ())
 | .p256412 part11 s27 s28 s39 s40 s41 B0 B1 =>
   if (decide (s41 < s40)) = true then
     if (decide ((0 : Int) ≤ s41) && decide (s41 < ((s39.2 - s39.1 : Nat) : Int))) = true then
       (idx B0 ((s39.1 : Int) + s41)) >>= fun t1 =>
       if (t1 != (10 : Int)) = true then
         if (decide ((0 : Int) ≤ s41) && decide (s41 < ((part11.2 - part11.1 : Nat) : Int))) = true then
           (idx B0 ((part11.1 : Int) + s41)) >>= fun t2 =>
           run_lexer_Stripped (.p256412 part11 s27 s28 s39 s40 (IntKind.wrap .i64 (s41 + (1 : Int))) (List.set B0 (Int.toNat ((part11.1 : Int) + s41)) (32 : Int)) B1)
         else none
       else
         run_lexer_Stripped (.p256412 part11 s27 s28 s39 s40 (IntKind.wrap .i64 (s41 + (1 : Int))) B0 B1)
     else none
   else
     run_lexer_Stripped (.p500 s27 (IntKind.wrap .i64 (s28 + (1 : Int))) B0 B1)
  partial_fixpoint
noncomputable def tab_lexer_Stripped : List (Plc E P_lexer_Stripped) := [⟨500, [false, false, true, false, true, true, true, true], { slots := [8, 26, 27, 28], rows := [], flat := [], keep := 0 }, (Unit × (Unit × (Int × (Int × Unit)))), ((List Int) × ((List api_Range) × Unit)), (RdL.cons (Rd.rw 0) (RdL.cons (Rd.rw 1) (RdL.cons (Rd.int .i64) (RdL.cons (Rd.int .i64) RdL.nil)))), (RdBL.cons (RdB.row 5 false) (RdBL.cons (RdB.row 58 true) RdBL.nil)), fun a b => .p500 a.2.2.1 a.2.2.2.1 b.1 b.2.1⟩,
  ⟨256412, [false, false, true, true, true, false, false, true, true, false, false, true, false, true, true, true, true], { slots := [8, 11, 26, 27, 28, 39, 40, 41], rows := [], flat := [], keep := 0 }, (Unit × ((Nat × Nat) × (Unit × (Int × (Int × ((Nat × Nat) × (Int × (Int × Unit)))))))), ((List Int) × ((List api_Range) × Unit)), (RdL.cons (Rd.rw 0) (RdL.cons (Rd.ws 0 5) (RdL.cons (Rd.rw 1) (RdL.cons (Rd.int .i64) (RdL.cons (Rd.int .i64) (RdL.cons (Rd.ws 0 5) (RdL.cons (Rd.int .i64) (RdL.cons (Rd.int .i64) RdL.nil)))))))), (RdBL.cons (RdB.row 5 false) (RdBL.cons (RdB.row 58 true) RdBL.nil)), fun a b => .p256412 a.2.1 a.2.2.2.1 a.2.2.2.2.1 a.2.2.2.2.2.1 a.2.2.2.2.2.2.1 a.2.2.2.2.2.2.2.1 b.1 b.2.1⟩]
theorem tab_lexer_Stripped_ok : All (PlcOk 55 0 place_lexer_Stripped st_lexer_Stripped) tab_lexer_Stripped := ⟨⟨rfl, rfl, fun _ _ => rfl, fun _ _ => rfl⟩, ⟨⟨rfl, rfl, fun _ _ => rfl, fun _ _ => rfl⟩, trivial⟩⟩
noncomputable def code_lexer_Stripped : Code := Tryd.f17.body.getD .skip
noncomputable def spec_lexer_Stripped : Spec E.S := (Con.add con_lexer_CommentsIn noSpec)
theorem spec_lexer_Stripped_ok : SpecOk E spec_lexer_Stripped := (Con.add_ok con_lexer_CommentsIn_ok noSpec_ok)
theorem good_lexer_Stripped : ∀ pt r, run_lexer_Stripped pt = some r → Good E Tryd.f17 code_lexer_Stripped 0 (res_lexer_Stripped.av r) (res_lexer_Stripped.bx r) (place_lexer_Stripped pt) (st_lexer_Stripped pt) := by
  refine run_lexer_Stripped.partial_correctness (fun pt r => Good E Tryd.f17 code_lexer_Stripped 0 (res_lexer_Stripped.av r) (res_lexer_Stripped.bx r) (place_lexer_Stripped pt) (st_lexer_Stripped pt)) ?_
  intro run' ih pt r hr
  cases pt <;> exact fn_step (spec := spec_lexer_Stripped) (wr := (fun i => mem i [8, 11, 25, 32, 38, 39, 48, 53])) (l := tab_lexer_Stripped) (z := 55) (p := res_lexer_Stripped) E_ok tab_lexer_Stripped_ok.mem rfl spec_lexer_Stripped_ok ih (Eq.trans (by kernel_rfl) hr)
noncomputable def con_lexer_Stripped : Con E := ⟨17, (ByteArray × Unit), Unit, (RwL.cons Rd.str.w RwL.nil), RdBL.nil, 0, R_lexer_Stripped, fun a b => run_lexer_Stripped (.start a.1), res_lexer_Stripped.av, res_lexer_Stripped.bx⟩
theorem con_lexer_Stripped_ok : con_lexer_Stripped.Ok := fun a b r h => fn_ok (fn := Tryd.f17) (code := code_lexer_Stripped) E_ok (by kernel_rfl) (by kernel_rfl) (by kernel_rfl) (Nat.le_of_ble_eq_true rfl) (good_lexer_Stripped (.start a.1) r h)

/-! ### ratchet/ratchetref05.TextErr -/
inductive P_ratchetref05_TextErr where
 | start (text0 : ByteArray)
noncomputable def place_ratchetref05_TextErr : P_ratchetref05_TextErr → List Bool
 | .start .. => []
noncomputable def st_ratchetref05_TextErr : P_ratchetref05_TextErr → St E.S
 | .start text0 => st0 6 [.v (.string text0)] []
abbrev R_ratchetref05_TextErr : Type := ((Int × Unit) × Unit)
noncomputable def res_ratchetref05_TextErr : Res E (Int × Unit) Unit := { rows := [], flat := [], keep := 0, rl := (RdL.cons (Rd.int .i64) RdL.nil), rb := RdBL.nil }
noncomputable def run_ratchetref05_TextErr : P_ratchetref05_TextErr → Option R_ratchetref05_TextErr
 | .start text0 =>
   if (decide ((text0.size : Int) > (60000 : Int))) = true then
     some (((8 : Int), ()), ())
   else
     some (((0 : Int), ()), ())
noncomputable def tab_ratchetref05_TextErr : List (Plc E P_ratchetref05_TextErr) := []
theorem tab_ratchetref05_TextErr_ok : All (PlcOk 6 0 place_ratchetref05_TextErr st_ratchetref05_TextErr) tab_ratchetref05_TextErr := trivial
noncomputable def code_ratchetref05_TextErr : Code := Tryd.f35.body.getD .skip
noncomputable def spec_ratchetref05_TextErr : Spec E.S := noSpec
theorem spec_ratchetref05_TextErr_ok : SpecOk E spec_ratchetref05_TextErr := noSpec_ok
theorem good_ratchetref05_TextErr : ∀ pt r, run_ratchetref05_TextErr pt = some r → Good E Tryd.f35 code_ratchetref05_TextErr 0 (res_ratchetref05_TextErr.av r) (res_ratchetref05_TextErr.bx r) (place_ratchetref05_TextErr pt) (st_ratchetref05_TextErr pt) := by
  intro pt r hr
  cases pt <;> exact fn_step (spec := spec_ratchetref05_TextErr) (wr := (fun i => mem i [])) (l := tab_ratchetref05_TextErr) (z := 6) (p := res_ratchetref05_TextErr) (run' := fun _ => none) E_ok tab_ratchetref05_TextErr_ok.mem rfl spec_ratchetref05_TextErr_ok (fun _ _ h => by cases h) (Eq.trans (by kernel_rfl) hr)
noncomputable def con_ratchetref05_TextErr : Con E := ⟨35, (ByteArray × Unit), Unit, (RwL.cons Rd.str.w RwL.nil), RdBL.nil, 0, R_ratchetref05_TextErr, fun a b => run_ratchetref05_TextErr (.start a.1), res_ratchetref05_TextErr.av, res_ratchetref05_TextErr.bx⟩
theorem con_ratchetref05_TextErr_ok : con_ratchetref05_TextErr.Ok := fun a b r h => fn_ok (fn := Tryd.f35) (code := code_ratchetref05_TextErr) E_ok (by kernel_rfl) (by kernel_rfl) (by kernel_rfl) (Nat.le_of_ble_eq_true rfl) (good_ratchetref05_TextErr (.start a.1) r h)

/-! ### ratchet/ratchetref05.has -/
inductive P_ratchetref05_has where
 | start (text0 : ByteArray) (at1 : Int) (s2 : ByteArray)
noncomputable def place_ratchetref05_has : P_ratchetref05_has → List Bool
 | .start .. => []
noncomputable def st_ratchetref05_has : P_ratchetref05_has → St E.S
 | .start text0 at1 s2 => st0 25 [.v (.string text0), .v (.int .i64 at1), .v (.string s2)] []
abbrev R_ratchetref05_has : Type := ((Bool × Unit) × Unit)
noncomputable def res_ratchetref05_has : Res E (Bool × Unit) Unit := { rows := [], flat := [], keep := 0, rl := (RdL.cons Rd.bool RdL.nil), rb := RdBL.nil }
noncomputable def run_ratchetref05_has : P_ratchetref05_has → Option R_ratchetref05_has
 | .start text0 at1 s2 =>
   if (decide ((IntKind.wrap .i64 (at1 + (s2.size : Int))) ≤ (text0.size : Int))) = true then
     (span text0.size at1 (IntKind.wrap .i64 (at1 + (s2.size : Int)))) >>= fun t1 =>
     some ((seq (text0.extract t1.1 t1.2) s2, ()), ())
   else
     some ((false, ()), ())
noncomputable def tab_ratchetref05_has : List (Plc E P_ratchetref05_has) := []
theorem tab_ratchetref05_has_ok : All (PlcOk 25 0 place_ratchetref05_has st_ratchetref05_has) tab_ratchetref05_has := trivial
noncomputable def code_ratchetref05_has : Code := Tryd.f61.body.getD .skip
noncomputable def spec_ratchetref05_has : Spec E.S := noSpec
theorem spec_ratchetref05_has_ok : SpecOk E spec_ratchetref05_has := noSpec_ok
theorem good_ratchetref05_has : ∀ pt r, run_ratchetref05_has pt = some r → Good E Tryd.f61 code_ratchetref05_has 0 (res_ratchetref05_has.av r) (res_ratchetref05_has.bx r) (place_ratchetref05_has pt) (st_ratchetref05_has pt) := by
  intro pt r hr
  cases pt <;> exact fn_step (spec := spec_ratchetref05_has) (wr := (fun i => mem i [])) (l := tab_ratchetref05_has) (z := 25) (p := res_ratchetref05_has) (run' := fun _ => none) E_ok tab_ratchetref05_has_ok.mem rfl spec_ratchetref05_has_ok (fun _ _ h => by cases h) (Eq.trans (by kernel_rfl) hr)
noncomputable def con_ratchetref05_has : Con E := ⟨61, (ByteArray × (Int × (ByteArray × Unit))), Unit, (RwL.cons Rd.str.w (RwL.cons (Rd.int .i64).w (RwL.cons Rd.str.w RwL.nil))), RdBL.nil, 0, R_ratchetref05_has, fun a b => run_ratchetref05_has (.start a.1 a.2.1 a.2.2.1), res_ratchetref05_has.av, res_ratchetref05_has.bx⟩
theorem con_ratchetref05_has_ok : con_ratchetref05_has.Ok := fun a b r h => fn_ok (fn := Tryd.f61) (code := code_ratchetref05_has) E_ok (by kernel_rfl) (by kernel_rfl) (by kernel_rfl) (Nat.le_of_ble_eq_true rfl) (good_ratchetref05_has (.start a.1 a.2.1 a.2.2.1) r h)

/-! ### ratchet/ratchetref05.IsPermitted -/
inductive P_ratchetref05_IsPermitted where
 | start (c0 : Int)
noncomputable def place_ratchetref05_IsPermitted : P_ratchetref05_IsPermitted → List Bool
 | .start .. => []
noncomputable def st_ratchetref05_IsPermitted : P_ratchetref05_IsPermitted → St E.S
 | .start c0 => st0 17 [.v (.int .u8 c0)] []
abbrev R_ratchetref05_IsPermitted : Type := ((Bool × Unit) × Unit)
noncomputable def res_ratchetref05_IsPermitted : Res E (Bool × Unit) Unit := { rows := [], flat := [], keep := 0, rl := (RdL.cons Rd.bool RdL.nil), rb := RdBL.nil }
noncomputable def run_ratchetref05_IsPermitted : P_ratchetref05_IsPermitted → Option R_ratchetref05_IsPermitted
 | .start c0 =>
   if (c0 == (9 : Int)) = true then
     some ((true, ()), ())
   else
     if (c0 == (10 : Int)) = true then
       some ((true, ()), ())
     else
       if (decide (c0 ≥ (32 : Int))) = true then
         some ((decide (c0 ≤ (126 : Int)), ()), ())
       else
         some ((false, ()), ())
noncomputable def tab_ratchetref05_IsPermitted : List (Plc E P_ratchetref05_IsPermitted) := []
theorem tab_ratchetref05_IsPermitted_ok : All (PlcOk 17 0 place_ratchetref05_IsPermitted st_ratchetref05_IsPermitted) tab_ratchetref05_IsPermitted := trivial
noncomputable def code_ratchetref05_IsPermitted : Code := Tryd.f37.body.getD .skip
noncomputable def spec_ratchetref05_IsPermitted : Spec E.S := noSpec
theorem spec_ratchetref05_IsPermitted_ok : SpecOk E spec_ratchetref05_IsPermitted := noSpec_ok
theorem good_ratchetref05_IsPermitted : ∀ pt r, run_ratchetref05_IsPermitted pt = some r → Good E Tryd.f37 code_ratchetref05_IsPermitted 0 (res_ratchetref05_IsPermitted.av r) (res_ratchetref05_IsPermitted.bx r) (place_ratchetref05_IsPermitted pt) (st_ratchetref05_IsPermitted pt) := by
  intro pt r hr
  cases pt <;> exact fn_step (spec := spec_ratchetref05_IsPermitted) (wr := (fun i => mem i [])) (l := tab_ratchetref05_IsPermitted) (z := 17) (p := res_ratchetref05_IsPermitted) (run' := fun _ => none) E_ok tab_ratchetref05_IsPermitted_ok.mem rfl spec_ratchetref05_IsPermitted_ok (fun _ _ h => by cases h) (Eq.trans (by kernel_rfl) hr)
noncomputable def con_ratchetref05_IsPermitted : Con E := ⟨37, (Int × Unit), Unit, (RwL.cons (Rd.int .u8).w RwL.nil), RdBL.nil, 0, R_ratchetref05_IsPermitted, fun a b => run_ratchetref05_IsPermitted (.start a.1), res_ratchetref05_IsPermitted.av, res_ratchetref05_IsPermitted.bx⟩
theorem con_ratchetref05_IsPermitted_ok : con_ratchetref05_IsPermitted.Ok := fun a b r h => fn_ok (fn := Tryd.f37) (code := code_ratchetref05_IsPermitted) E_ok (by kernel_rfl) (by kernel_rfl) (by kernel_rfl) (Nat.le_of_ble_eq_true rfl) (good_ratchetref05_IsPermitted (.start a.1) r h)

/-! ### ratchet/ratchetref05.comment -/
inductive P_ratchetref05_comment where
 | start (text0 : ByteArray) (at1 : Int)
 | p424 (text0 : ByteArray) (at1 : Int) (i6 : Int) (B0_0 : Int) (B0_1 : Int)
 | p849 (text0 : ByteArray) (at1 : Int) (i6 : Int) (B0_0 : Int) (B0_1 : Int)
 | p248 (text0 : ByteArray) (at1 : Int) (open7 : Int) (i8 : Int) (B0_0 : Int) (B0_1 : Int)
noncomputable def place_ratchetref05_comment : P_ratchetref05_comment → List Bool
 | .start .. => []
 | .p424 .. => [false, false, false, true, false, true, false, true]
 | .p849 .. => [true, false, false, false, true, false, true, false, true]
 | .p248 .. => [false, false, false, true, true, true, true]
noncomputable def st_ratchetref05_comment : P_ratchetref05_comment → St E.S
 | .start text0 at1 => st0 78 [.v (.string text0), .v (.int .i64 at1)] []
 | .p424 text0 at1 i6 B0_0 B0_1 => mkSt 78 [0, 1, 5, 6] [.v (.string text0), .v (.int .i64 at1), .bp 0 0, .v (.int .i64 i6)] [.var 40 [.v (.int .i64 B0_0), .v (.int .i64 B0_1)]]
 | .p849 text0 at1 i6 B0_0 B0_1 => mkSt 78 [0, 1, 5, 6] [.v (.string text0), .v (.int .i64 at1), .bp 0 0, .v (.int .i64 i6)] [.var 40 [.v (.int .i64 B0_0), .v (.int .i64 B0_1)]]
 | .p248 text0 at1 open7 i8 B0_0 B0_1 => mkSt 78 [0, 1, 5, 7, 8] [.v (.string text0), .v (.int .i64 at1), .bp 0 0, .v (.int .i64 open7), .v (.int .i64 i8)] [.var 40 [.v (.int .i64 B0_0), .v (.int .i64 B0_1)]]
abbrev R_ratchetref05_comment : Type := ((Int × ((Int × (Int × Unit)) × Unit)) × Unit)
noncomputable def res_ratchetref05_comment : Res E (Int × ((Int × (Int × Unit)) × Unit)) Unit := { rows := [], flat := [], keep := 0, rl := (RdL.cons (Rd.int .i64) (RdL.cons (Rd.agg (RdL.cons (Rd.int .i64) (RdL.cons (Rd.int .i64) RdL.nil))) RdL.nil)), rb := RdBL.nil }
noncomputable def run_ratchetref05_comment : P_ratchetref05_comment → Option R_ratchetref05_comment
 | .start text0 at1 =>
   (run_ratchetref05_has (.start text0 at1 (⟨#[47, 47]⟩ : ByteArray))) >>= fun t1 =>
   if t1.1.1 = true then
     run_ratchetref05_comment (.p424 text0 at1 at1 (0 : Int) (0 : Int))
   else
     (run_ratchetref05_has (.start text0 at1 (⟨#[47, 42]⟩ : ByteArray))) >>= fun t2 =>
     if (!t2.1.1) = true then
       some ((at1, (((0 : Int), ((0 : Int), ())), ())), ())
     else
       run_ratchetref05_comment (.p248 text0 at1 (1 : Int) (IntKind.wrap .i64 (at1 + (2 : Int))) (0 : Int) (0 : Int))
 | .p424 text0 at1 i6 B0_0 B0_1 =>
   if (decide (i6 < (text0.size : Int))) = true then
     (sidx text0 i6) >>= fun t1 =>
     if (t1 != (10 : Int)) = true then
       run_ratchetref05_comment (.p849 text0 at1 i6 B0_0 B0_1)
     else
       some ((i6, (((0 : Int), ((0 : Int), ())), ())), ())
   else
     some ((i6, (((0 : Int), ((0 : Int), ())), ())), ())
 | .p849 text0 at1 i6 B0_0 B0_1 =>
   (sidx text0 i6) >>= fun t1 =>
   (run_ratchetref05_IsPermitted (.start t1)) >>= fun t2 =>
   if (!t2.1.1) = true then
     some ((at1, ((i6, ((15 : Int), ())), ())), ())
   else
     run_ratchetref05_comment (.p424 text0 at1 (IntKind.wrap .i64 (i6 + (1 : Int))) B0_0 B0_1)
 | .p248 text0 at1 open7 i8 B0_0 B0_1 =>
   if (decide (open7 > (0 : Int))) = true then
     if (decide (i8 ≥ (text0.size : Int))) = true then
       some ((at1, ((at1, ((21 : Int), ())), ())), ())
     else
       (sidx text0 i8) >>= fun t1 =>
       (run_ratchetref05_IsPermitted (.start t1)) >>= fun t2 =>
       if (!t2.1.1) = true then
         some ((at1, ((i8, ((15 : Int), ())), ())), ())
       else
         (run_ratchetref05_has (.start text0 i8 (⟨#[47, 42]⟩ : ByteArray))) >>= fun t3 =>
         if t3.1.1 = true then
           run_ratchetref05_comment (.p248 text0 at1 (IntKind.wrap .i64 (open7 + (1 : Int))) (IntKind.wrap .i64 (i8 + (2 : Int))) B0_0 B0_1)
         else
           (run_ratchetref05_has (.start text0 i8 (⟨#[42, 47]⟩ : ByteArray))) >>= fun t4 =>
           if t4.1.1 = true then
             run_ratchetref05_comment (.p248 text0 at1 (IntKind.wrap .i64 (open7 - (1 : Int))) (IntKind.wrap .i64 (i8 + (2 : Int))) B0_0 B0_1)
           else
             run_ratchetref05_comment (.p248 text0 at1 open7 (IntKind.wrap .i64 (i8 + (1 : Int))) B0_0 B0_1)
   else
     some ((i8, (((0 : Int), ((0 : Int), ())), ())), ())
  partial_fixpoint
noncomputable def tab_ratchetref05_comment : List (Plc E P_ratchetref05_comment) := [⟨424, [false, false, false, true, false, true, false, true], { slots := [0, 1, 5, 6], rows := [], flat := [], keep := 0 }, (ByteArray × (Int × (Unit × (Int × Unit)))), ((Int × (Int × Unit)) × Unit), (RdL.cons Rd.str (RdL.cons (Rd.int .i64) (RdL.cons (Rd.bp 0 0) (RdL.cons (Rd.int .i64) RdL.nil)))), (RdBL.cons (RdB.var 40 (RdL.cons (Rd.int .i64) (RdL.cons (Rd.int .i64) RdL.nil))) RdBL.nil), fun a b => .p424 a.1 a.2.1 a.2.2.2.1 b.1.1 b.1.2.1⟩,
  ⟨849, [true, false, false, false, true, false, true, false, true], { slots := [0, 1, 5, 6], rows := [], flat := [], keep := 0 }, (ByteArray × (Int × (Unit × (Int × Unit)))), ((Int × (Int × Unit)) × Unit), (RdL.cons Rd.str (RdL.cons (Rd.int .i64) (RdL.cons (Rd.bp 0 0) (RdL.cons (Rd.int .i64) RdL.nil)))), (RdBL.cons (RdB.var 40 (RdL.cons (Rd.int .i64) (RdL.cons (Rd.int .i64) RdL.nil))) RdBL.nil), fun a b => .p849 a.1 a.2.1 a.2.2.2.1 b.1.1 b.1.2.1⟩,
  ⟨248, [false, false, false, true, true, true, true], { slots := [0, 1, 5, 7, 8], rows := [], flat := [], keep := 0 }, (ByteArray × (Int × (Unit × (Int × (Int × Unit))))), ((Int × (Int × Unit)) × Unit), (RdL.cons Rd.str (RdL.cons (Rd.int .i64) (RdL.cons (Rd.bp 0 0) (RdL.cons (Rd.int .i64) (RdL.cons (Rd.int .i64) RdL.nil))))), (RdBL.cons (RdB.var 40 (RdL.cons (Rd.int .i64) (RdL.cons (Rd.int .i64) RdL.nil))) RdBL.nil), fun a b => .p248 a.1 a.2.1 a.2.2.2.1 a.2.2.2.2.1 b.1.1 b.1.2.1⟩]
theorem tab_ratchetref05_comment_ok : All (PlcOk 78 0 place_ratchetref05_comment st_ratchetref05_comment) tab_ratchetref05_comment := ⟨⟨rfl, rfl, fun _ _ => rfl, fun _ _ => rfl⟩, ⟨⟨rfl, rfl, fun _ _ => rfl, fun _ _ => rfl⟩, ⟨⟨rfl, rfl, fun _ _ => rfl, fun _ _ => rfl⟩, trivial⟩⟩⟩
noncomputable def code_ratchetref05_comment : Code := Tryd.f36.body.getD .skip
noncomputable def spec_ratchetref05_comment : Spec E.S := (Con.add con_ratchetref05_IsPermitted (Con.add con_ratchetref05_has noSpec))
theorem spec_ratchetref05_comment_ok : SpecOk E spec_ratchetref05_comment := (Con.add_ok con_ratchetref05_IsPermitted_ok (Con.add_ok con_ratchetref05_has_ok noSpec_ok))
theorem good_ratchetref05_comment : ∀ pt r, run_ratchetref05_comment pt = some r → Good E Tryd.f36 code_ratchetref05_comment 0 (res_ratchetref05_comment.av r) (res_ratchetref05_comment.bx r) (place_ratchetref05_comment pt) (st_ratchetref05_comment pt) := by
  refine run_ratchetref05_comment.partial_correctness (fun pt r => Good E Tryd.f36 code_ratchetref05_comment 0 (res_ratchetref05_comment.av r) (res_ratchetref05_comment.bx r) (place_ratchetref05_comment pt) (st_ratchetref05_comment pt)) ?_
  intro run' ih pt r hr
  cases pt <;> exact fn_step (spec := spec_ratchetref05_comment) (wr := (fun i => mem i [])) (l := tab_ratchetref05_comment) (z := 78) (p := res_ratchetref05_comment) E_ok tab_ratchetref05_comment_ok.mem rfl spec_ratchetref05_comment_ok ih (Eq.trans (by kernel_rfl) hr)
noncomputable def con_ratchetref05_comment : Con E := ⟨36, (ByteArray × (Int × Unit)), Unit, (RwL.cons Rd.str.w (RwL.cons (Rd.int .i64).w RwL.nil)), RdBL.nil, 0, R_ratchetref05_comment, fun a b => run_ratchetref05_comment (.start a.1 a.2.1), res_ratchetref05_comment.av, res_ratchetref05_comment.bx⟩
theorem con_ratchetref05_comment_ok : con_ratchetref05_comment.Ok := fun a b r h => fn_ok (fn := Tryd.f36) (code := code_ratchetref05_comment) E_ok (by kernel_rfl) (by kernel_rfl) (by kernel_rfl) (Nat.le_of_ble_eq_true rfl) (good_ratchetref05_comment (.start a.1 a.2.1) r h)

/-! ### ratchet/ratchetref05.Comments -/
inductive P_ratchetref05_Comments where
 | start (text0 : ByteArray)
 | p244 (text0 : ByteArray) (at6 : Int) (B0_0 : Int) (B0_1 : Int) (B1 : (List api_Range))
noncomputable def place_ratchetref05_Comments : P_ratchetref05_Comments → List Bool
 | .start .. => []
 | .p244 .. => [false, false, true, false, true, true, true]
noncomputable def st_ratchetref05_Comments : P_ratchetref05_Comments → St E.S
 | .start text0 => st0 51 [.v (.string text0)] []
 | .p244 text0 at6 B0_0 B0_1 B1 => mkSt 51 [0, 3, 5, 6] [.v (.string text0), .bp 0 0, .rw 1, .v (.int .i64 at6)] [.var 40 [.v (.int .i64 B0_0), .v (.int .i64 B0_1)], .row 58 B1 true]
abbrev R_ratchetref05_Comments : Type := ((Unit × ((Int × (Int × Unit)) × Unit)) × ((List api_Range) × Unit))
noncomputable def res_ratchetref05_Comments : Res E (Unit × ((Int × (Int × Unit)) × Unit)) ((List api_Range) × Unit) := { rows := [(0, 58)], flat := [], keep := 0, rl := (RdL.cons (Rd.rw 0) (RdL.cons (Rd.agg (RdL.cons (Rd.int .i64) (RdL.cons (Rd.int .i64) RdL.nil))) RdL.nil)), rb := (RdBL.cons (RdB.row 58 true) RdBL.nil) }
noncomputable def run_ratchetref05_Comments : P_ratchetref05_Comments → Option R_ratchetref05_Comments
 | .start text0 =>
   (run_ratchetref05_TextErr (.start text0)) >>= fun t1 =>
   if (t1.1.1 != (0 : Int)) = true then
     some (((), (((0 : Int), (t1.1.1, ())), ())), ([], ()))
   else
     run_ratchetref05_Comments (.p244 text0 (0 : Int) (0 : Int) (0 : Int) ([]))
 | .p244 text0 at6 B0_0 B0_1 B1 =>
   if (decide (at6 < (text0.size : Int))) = true then
     (run_ratchetref05_comment (.start text0 at6)) >>= fun t1 =>
     if (t1.1.2.1.2.1 != (0 : Int)) = true then
       some (((), ((t1.1.2.1.1, (t1.1.2.1.2.1, ())), ())), ([], ()))
     else
       if (decide (t1.1.1 > at6)) = true then
         if (fits (List.length B1) (List.length ([(⟨at6, IntKind.wrap .i64 (t1.1.1 - (1 : Int))⟩ : api_Range)] : List api_Range)) 16) = true then
           run_ratchetref05_Comments (.p244 text0 t1.1.1 B0_0 B0_1 (B1 ++ ([(⟨at6, IntKind.wrap .i64 (t1.1.1 - (1 : Int))⟩ : api_Range)] : List api_Range)))
         else none
       else
         (sidx text0 at6) >>= fun t2 =>
         (run_ratchetref05_IsPermitted (.start t2)) >>= fun t3 =>
         if (!t3.1.1) = true then
           some (((), ((at6, ((15 : Int), ())), ())), ([], ()))
         else
           run_ratchetref05_Comments (.p244 text0 (IntKind.wrap .i64 (at6 + (1 : Int))) B0_0 B0_1 B1)
   else
     some (((), (((0 : Int), ((0 : Int), ())), ())), (B1, ()))
  partial_fixpoint
noncomputable def tab_ratchetref05_Comments : List (Plc E P_ratchetref05_Comments) := [⟨244, [false, false, true, false, true, true, true], { slots := [0, 3, 5, 6], rows := [(5, 58)], flat := [], keep := 0 }, (ByteArray × (Unit × (Unit × (Int × Unit)))), ((Int × (Int × Unit)) × ((List api_Range) × Unit)), (RdL.cons Rd.str (RdL.cons (Rd.bp 0 0) (RdL.cons (Rd.rw 1) (RdL.cons (Rd.int .i64) RdL.nil)))), (RdBL.cons (RdB.var 40 (RdL.cons (Rd.int .i64) (RdL.cons (Rd.int .i64) RdL.nil))) (RdBL.cons (RdB.row 58 true) RdBL.nil)), fun a b => .p244 a.1 a.2.2.2.1 b.1.1 b.1.2.1 b.2.1⟩]
theorem tab_ratchetref05_Comments_ok : All (PlcOk 51 0 place_ratchetref05_Comments st_ratchetref05_Comments) tab_ratchetref05_Comments := ⟨⟨rfl, rfl, fun _ _ => rfl, fun _ _ => rfl⟩, trivial⟩
noncomputable def code_ratchetref05_Comments : Code := Tryd.f18.body.getD .skip
noncomputable def spec_ratchetref05_Comments : Spec E.S := (Con.add con_ratchetref05_IsPermitted (Con.add con_ratchetref05_comment (Con.add con_ratchetref05_TextErr noSpec)))
theorem spec_ratchetref05_Comments_ok : SpecOk E spec_ratchetref05_Comments := (Con.add_ok con_ratchetref05_IsPermitted_ok (Con.add_ok con_ratchetref05_comment_ok (Con.add_ok con_ratchetref05_TextErr_ok noSpec_ok)))
theorem good_ratchetref05_Comments : ∀ pt r, run_ratchetref05_Comments pt = some r → Good E Tryd.f18 code_ratchetref05_Comments 0 (res_ratchetref05_Comments.av r) (res_ratchetref05_Comments.bx r) (place_ratchetref05_Comments pt) (st_ratchetref05_Comments pt) := by
  refine run_ratchetref05_Comments.partial_correctness (fun pt r => Good E Tryd.f18 code_ratchetref05_Comments 0 (res_ratchetref05_Comments.av r) (res_ratchetref05_Comments.bx r) (place_ratchetref05_Comments pt) (st_ratchetref05_Comments pt)) ?_
  intro run' ih pt r hr
  cases pt <;> exact fn_step (spec := spec_ratchetref05_Comments) (wr := (fun i => mem i [])) (l := tab_ratchetref05_Comments) (z := 51) (p := res_ratchetref05_Comments) E_ok tab_ratchetref05_Comments_ok.mem rfl spec_ratchetref05_Comments_ok ih (Eq.trans (by kernel_rfl) hr)
noncomputable def con_ratchetref05_Comments : Con E := ⟨18, (ByteArray × Unit), Unit, (RwL.cons Rd.str.w RwL.nil), RdBL.nil, 0, R_ratchetref05_Comments, fun a b => run_ratchetref05_Comments (.start a.1), res_ratchetref05_Comments.av, res_ratchetref05_Comments.bx⟩
theorem con_ratchetref05_Comments_ok : con_ratchetref05_Comments.Ok := fun a b r h => fn_ok (fn := Tryd.f18) (code := code_ratchetref05_Comments) E_ok (by kernel_rfl) (by kernel_rfl) (by kernel_rfl) (Nat.le_of_ble_eq_true rfl) (good_ratchetref05_Comments (.start a.1) r h)

/-! ### ratchet/ratchetbase.Ranges -/
inductive P_ratchetbase_Ranges where
 | start (a0 : (List api_Range)) (b1 : (List api_Range))
 | p116 (a0 : (List api_Range)) (b1 : (List api_Range)) (i5 : Int)
noncomputable def place_ratchetbase_Ranges : P_ratchetbase_Ranges → List Bool
 | .start .. => []
 | .p116 .. => [false, false, true, false, true, true]
noncomputable def st_ratchetbase_Ranges : P_ratchetbase_Ranges → St E.S
 | .start a0 b1 => st0 26 [.sl 58 a0 false, .sl 58 b1 false] []
 | .p116 a0 b1 i5 => mkSt 26 [0, 1, 5] [.sl 58 a0 false, .sl 58 b1 false, .v (.int .i64 i5)] []
abbrev R_ratchetbase_Ranges : Type := ((Bool × Unit) × Unit)
noncomputable def res_ratchetbase_Ranges : Res E (Bool × Unit) Unit := { rows := [], flat := [], keep := 0, rl := (RdL.cons Rd.bool RdL.nil), rb := RdBL.nil }
noncomputable def run_ratchetbase_Ranges : P_ratchetbase_Ranges → Option R_ratchetbase_Ranges
 | .start a0 b1 =>
   if ((List.length a0 : Int) != (List.length b1 : Int)) = true then
     some ((false, ()), ())
   else
     run_ratchetbase_Ranges (.p116 a0 b1 (0 : Int))
 | .p116 a0 b1 i5 =>
   if (decide (i5 < (List.length a0 : Int))) = true then
     (idx a0 i5) >>= fun t1 =>
     (idx b1 i5) >>= fun t2 =>
     if (!((t1.Lo == t2.Lo) && ((t1.Hi == t2.Hi) && true))) = true then
       some ((false, ()), ())
     else
       run_ratchetbase_Ranges (.p116 a0 b1 (IntKind.wrap .i64 (i5 + (1 : Int))))
   else
     some ((true, ()), ())
  partial_fixpoint
noncomputable def tab_ratchetbase_Ranges : List (Plc E P_ratchetbase_Ranges) := [⟨116, [false, false, true, false, true, true], { slots := [0, 1, 5], rows := [], flat := [], keep := 0 }, ((List api_Range) × ((List api_Range) × (Int × Unit))), Unit, (RdL.cons (Rd.sl 58 false) (RdL.cons (Rd.sl 58 false) (RdL.cons (Rd.int .i64) RdL.nil))), RdBL.nil, fun a b => .p116 a.1 a.2.1 a.2.2.1⟩]
theorem tab_ratchetbase_Ranges_ok : All (PlcOk 26 0 place_ratchetbase_Ranges st_ratchetbase_Ranges) tab_ratchetbase_Ranges := ⟨⟨rfl, rfl, fun _ _ => rfl, fun _ _ => rfl⟩, trivial⟩
noncomputable def code_ratchetbase_Ranges : Code := Tryd.f19.body.getD .skip
noncomputable def spec_ratchetbase_Ranges : Spec E.S := noSpec
theorem spec_ratchetbase_Ranges_ok : SpecOk E spec_ratchetbase_Ranges := noSpec_ok
theorem good_ratchetbase_Ranges : ∀ pt r, run_ratchetbase_Ranges pt = some r → Good E Tryd.f19 code_ratchetbase_Ranges 0 (res_ratchetbase_Ranges.av r) (res_ratchetbase_Ranges.bx r) (place_ratchetbase_Ranges pt) (st_ratchetbase_Ranges pt) := by
  refine run_ratchetbase_Ranges.partial_correctness (fun pt r => Good E Tryd.f19 code_ratchetbase_Ranges 0 (res_ratchetbase_Ranges.av r) (res_ratchetbase_Ranges.bx r) (place_ratchetbase_Ranges pt) (st_ratchetbase_Ranges pt)) ?_
  intro run' ih pt r hr
  cases pt <;> exact fn_step (spec := spec_ratchetbase_Ranges) (wr := (fun i => mem i [])) (l := tab_ratchetbase_Ranges) (z := 26) (p := res_ratchetbase_Ranges) E_ok tab_ratchetbase_Ranges_ok.mem rfl spec_ratchetbase_Ranges_ok ih (Eq.trans (by kernel_rfl) hr)
noncomputable def con_ratchetbase_Ranges : Con E := ⟨19, ((List api_Range) × ((List api_Range) × Unit)), Unit, (RwL.cons (Rw.sl 58) (RwL.cons (Rw.sl 58) RwL.nil)), RdBL.nil, 0, R_ratchetbase_Ranges, fun a b => run_ratchetbase_Ranges (.start a.1 a.2.1), res_ratchetbase_Ranges.av, res_ratchetbase_Ranges.bx⟩
theorem con_ratchetbase_Ranges_ok : con_ratchetbase_Ranges.Ok := fun a b r h => fn_ok (fn := Tryd.f19) (code := code_ratchetbase_Ranges) E_ok (by kernel_rfl) (by kernel_rfl) (by kernel_rfl) (Nat.le_of_ble_eq_true rfl) (good_ratchetbase_Ranges (.start a.1 a.2.1) r h)

/-! ### ratchet/ratchetref05.Stripped -/
inductive P_ratchetref05_Stripped where
 | start (text0 : ByteArray) (l1 : (List api_Range))
 | p116 (l1 : (List api_Range)) (i6 : Int) (B0 : (List Int))
 | p7460 (l1 : (List api_Range)) (i6 : Int) (k7 : Int) (B0 : (List Int))
noncomputable def place_ratchetref05_Stripped : P_ratchetref05_Stripped → List Bool
 | .start .. => []
 | .p116 .. => [false, false, true, false, true, true]
 | .p7460 .. => [false, false, true, false, false, true, false, false, true, false, true, true]
noncomputable def st_ratchetref05_Stripped : P_ratchetref05_Stripped → St E.S
 | .start text0 l1 => st0 40 [.v (.string text0), .sl 58 l1 false] []
 | .p116 l1 i6 B0 => mkSt 40 [1, 5, 6] [.sl 58 l1 false, .rw 0, .v (.int .i64 i6)] [.row 5 B0 false]
 | .p7460 l1 i6 k7 B0 => mkSt 40 [1, 5, 6, 7] [.sl 58 l1 false, .rw 0, .v (.int .i64 i6), .v (.int .i64 k7)] [.row 5 B0 false]
abbrev R_ratchetref05_Stripped : Type := ((ByteArray × Unit) × Unit)
noncomputable def res_ratchetref05_Stripped : Res E (ByteArray × Unit) Unit := { rows := [], flat := [], keep := 0, rl := (RdL.cons Rd.str RdL.nil), rb := RdBL.nil }
noncomputable def run_ratchetref05_Stripped : P_ratchetref05_Stripped → Option R_ratchetref05_Stripped
 | .start text0 l1 =>
   run_ratchetref05_Stripped (.p116 l1 (0 : Int) (strBytes text0))
 | .p116 l1 i6 B0 =>
   if (decide (i6 < (List.length l1 : Int))) = true then
     (idx l1 i6) >>= fun t1 =>
     run_ratchetref05_Stripped (.p7460 l1 i6 t1.Lo B0)
   else
     some ((bytesStr B0, ()), ())
 | .p7460 l1 i6 k7 B0 =>
   (idx l1 i6) >>= fun t1 =>
   if (decide (k7 ≤ t1.Hi)) = true then
     if (decide ((0 : Int) ≤ k7) && decide (k7 < (List.length B0 : Int))) = true then
       (idx B0 k7) >>= fun t2 =>
       if (t2 != (10 : Int)) = true then
         if (decide ((0 : Int) ≤ k7) && decide (k7 < (List.length B0 : Int))) = true then
           (idx B0 k7) >>= fun t3 =>
           run_ratchetref05_Stripped (.p7460 l1 i6 (IntKind.wrap .i64 (k7 + (1 : Int))) (List.set B0 (Int.toNat k7) (32 : Int)))
         else none
       else
         run_ratchetref05_Stripped (.p7460 l1 i6 (IntKind.wrap .i64 (k7 + (1 : Int))) B0)
     else none
   else
     run_ratchetref05_Stripped (.p116 l1 (IntKind.wrap .i64 (i6 + (1 : Int))) B0)
  partial_fixpoint
noncomputable def tab_ratchetref05_Stripped : List (Plc E P_ratchetref05_Stripped) := [⟨116, [false, false, true, false, true, true], { slots := [1, 5, 6], rows := [], flat := [], keep := 0 }, ((List api_Range) × (Unit × (Int × Unit))), ((List Int) × Unit), (RdL.cons (Rd.sl 58 false) (RdL.cons (Rd.rw 0) (RdL.cons (Rd.int .i64) RdL.nil))), (RdBL.cons (RdB.row 5 false) RdBL.nil), fun a b => .p116 a.1 a.2.2.1 b.1⟩,
  ⟨7460, [false, false, true, false, false, true, false, false, true, false, true, true], { slots := [1, 5, 6, 7], rows := [], flat := [], keep := 0 }, ((List api_Range) × (Unit × (Int × (Int × Unit)))), ((List Int) × Unit), (RdL.cons (Rd.sl 58 false) (RdL.cons (Rd.rw 0) (RdL.cons (Rd.int .i64) (RdL.cons (Rd.int .i64) RdL.nil)))), (RdBL.cons (RdB.row 5 false) RdBL.nil), fun a b => .p7460 a.1 a.2.2.1 a.2.2.2.1 b.1⟩]
theorem tab_ratchetref05_Stripped_ok : All (PlcOk 40 0 place_ratchetref05_Stripped st_ratchetref05_Stripped) tab_ratchetref05_Stripped := ⟨⟨rfl, rfl, fun _ _ => rfl, fun _ _ => rfl⟩, ⟨⟨rfl, rfl, fun _ _ => rfl, fun _ _ => rfl⟩, trivial⟩⟩
noncomputable def code_ratchetref05_Stripped : Code := Tryd.f20.body.getD .skip
noncomputable def spec_ratchetref05_Stripped : Spec E.S := noSpec
theorem spec_ratchetref05_Stripped_ok : SpecOk E spec_ratchetref05_Stripped := noSpec_ok
theorem good_ratchetref05_Stripped : ∀ pt r, run_ratchetref05_Stripped pt = some r → Good E Tryd.f20 code_ratchetref05_Stripped 0 (res_ratchetref05_Stripped.av r) (res_ratchetref05_Stripped.bx r) (place_ratchetref05_Stripped pt) (st_ratchetref05_Stripped pt) := by
  refine run_ratchetref05_Stripped.partial_correctness (fun pt r => Good E Tryd.f20 code_ratchetref05_Stripped 0 (res_ratchetref05_Stripped.av r) (res_ratchetref05_Stripped.bx r) (place_ratchetref05_Stripped pt) (st_ratchetref05_Stripped pt)) ?_
  intro run' ih pt r hr
  cases pt <;> exact fn_step (spec := spec_ratchetref05_Stripped) (wr := (fun i => mem i [5, 9, 30, 35, 38])) (l := tab_ratchetref05_Stripped) (z := 40) (p := res_ratchetref05_Stripped) E_ok tab_ratchetref05_Stripped_ok.mem rfl spec_ratchetref05_Stripped_ok ih (Eq.trans (by kernel_rfl) hr)
noncomputable def con_ratchetref05_Stripped : Con E := ⟨20, (ByteArray × ((List api_Range) × Unit)), Unit, (RwL.cons Rd.str.w (RwL.cons (Rw.sl 58) RwL.nil)), RdBL.nil, 0, R_ratchetref05_Stripped, fun a b => run_ratchetref05_Stripped (.start a.1 a.2.1), res_ratchetref05_Stripped.av, res_ratchetref05_Stripped.bx⟩
theorem con_ratchetref05_Stripped_ok : con_ratchetref05_Stripped.Ok := fun a b r h => fn_ok (fn := Tryd.f20) (code := code_ratchetref05_Stripped) E_ok (by kernel_rfl) (by kernel_rfl) (by kernel_rfl) (Nat.le_of_ble_eq_true rfl) (good_ratchetref05_Stripped (.start a.1 a.2.1) r h)

/-! ### ratchet/ratchetlaw05.LexerComments -/
inductive P_ratchetlaw05_LexerComments where
 | start (text0 : ByteArray)
 | p255 (text0 : ByteArray) (s6 : ByteArray) (B0 : (List api_Range)) (B1 : (List api_Range)) (B2_0 : Int) (B2_1 : Int)
noncomputable def place_ratchetlaw05_LexerComments : P_ratchetlaw05_LexerComments → List Bool
 | .start .. => []
 | .p255 .. => [true, true, true, true, true, true, true]
noncomputable def st_ratchetlaw05_LexerComments : P_ratchetlaw05_LexerComments → St E.S
 | .start text0 => st0 75 [.v (.string text0)] []
 | .p255 text0 s6 B0 B1 B2_0 B2_1 => mkSt 75 [0, 3, 6, 9, 10] [.v (.string text0), .rw 0, .v (.string s6), .rw 1, .bp 2 0] [.row 58 B0 true, .row 58 B1 true, .var 40 [.v (.int .i64 B2_0), .v (.int .i64 B2_1)]]
abbrev R_ratchetlaw05_LexerComments : Type := ((Bool × Unit) × Unit)
noncomputable def res_ratchetlaw05_LexerComments : Res E (Bool × Unit) Unit := { rows := [], flat := [], keep := 0, rl := (RdL.cons Rd.bool RdL.nil), rb := RdBL.nil }
noncomputable def run_ratchetlaw05_LexerComments : P_ratchetlaw05_LexerComments → Option R_ratchetlaw05_LexerComments
 | .start text0 =>
   (some () : Option Unit) >>= fun t1 =>
   if (!true) = true then
     some ((false, ()), ())
   else
     if (decide ((text0.size : Int) > (400 : Int))) = true then
       some ((true, ()), ())
     else
       (run_lexer_CommentsIn (.start text0)) >>= fun t2 =>
       (run_lexer_Stripped (.start text0)) >>= fun t3 =>
       (run_ratchetref05_Comments (.start text0)) >>= fun t4 =>
       if (t2.1.2.2.1 != t4.1.2.1.2.1) = true then
         some ((false, ()), ())
       else
         if (t2.1.2.1 != t4.1.2.1.1) = true then
           some ((false, ()), ())
         else
           if (t3.1.2.2.1 != t4.1.2.1.2.1) = true then
             some ((false, ()), ())
           else
             if (t3.1.2.1 != t4.1.2.1.1) = true then
               some ((false, ()), ())
             else
               run_ratchetlaw05_LexerComments (.p255 text0 t3.1.1 t2.2.1 t4.2.1 t4.1.2.1.1 t4.1.2.1.2.1)
 | .p255 text0 s6 B0 B1 B2_0 B2_1 =>
   if (B2_1 != (0 : Int)) = true then
     if ((List.length B0 : Int) == (0 : Int)) = true then
       some ((seq s6 (⟨#[]⟩ : ByteArray), ()), ())
     else
       some ((false, ()), ())
   else
     (run_ratchetbase_Ranges (.start B0 B1)) >>= fun t1 =>
     if t1.1.1 = true then
       (run_ratchetref05_Stripped (.start text0 B1)) >>= fun t2 =>
       some ((seq s6 t2.1.1, ()), ())
     else
       some ((false, ()), ())
  partial_fixpoint
noncomputable def tab_ratchetlaw05_LexerComments : List (Plc E P_ratchetlaw05_LexerComments) := [⟨255, [true, true, true, true, true, true, true], { slots := [0, 3, 6, 9, 10], rows := [], flat := [], keep := 0 }, (ByteArray × (Unit × (ByteArray × (Unit × (Unit × Unit))))), ((List api_Range) × ((List api_Range) × ((Int × (Int × Unit)) × Unit))), (RdL.cons Rd.str (RdL.cons (Rd.rw 0) (RdL.cons Rd.str (RdL.cons (Rd.rw 1) (RdL.cons (Rd.bp 2 0) RdL.nil))))), (RdBL.cons (RdB.row 58 true) (RdBL.cons (RdB.row 58 true) (RdBL.cons (RdB.var 40 (RdL.cons (Rd.int .i64) (RdL.cons (Rd.int .i64) RdL.nil))) RdBL.nil))), fun a b => .p255 a.1 a.2.2.1 b.1 b.2.1 b.2.2.1.1 b.2.2.1.2.1⟩]
theorem tab_ratchetlaw05_LexerComments_ok : All (PlcOk 75 0 place_ratchetlaw05_LexerComments st_ratchetlaw05_LexerComments) tab_ratchetlaw05_LexerComments := ⟨⟨rfl, rfl, fun _ _ => rfl, fun _ _ => rfl⟩, trivial⟩
noncomputable def code_ratchetlaw05_LexerComments : Code := Tryd.f4.body.getD .skip
noncomputable def spec_ratchetlaw05_LexerComments : Spec E.S := (Con.add con_ratchetref05_Stripped (Con.add con_ratchetbase_Ranges (Con.add con_ratchetref05_Comments (Con.add con_lexer_Stripped (Con.add con_lexer_CommentsIn (Con.add con_ratchetlaw05_awake noSpec))))))
theorem spec_ratchetlaw05_LexerComments_ok : SpecOk E spec_ratchetlaw05_LexerComments := (Con.add_ok con_ratchetref05_Stripped_ok (Con.add_ok con_ratchetbase_Ranges_ok (Con.add_ok con_ratchetref05_Comments_ok (Con.add_ok con_lexer_Stripped_ok (Con.add_ok con_lexer_CommentsIn_ok (Con.add_ok con_ratchetlaw05_awake_ok noSpec_ok))))))
theorem good_ratchetlaw05_LexerComments : ∀ pt r, run_ratchetlaw05_LexerComments pt = some r → Good E Tryd.f4 code_ratchetlaw05_LexerComments 0 (res_ratchetlaw05_LexerComments.av r) (res_ratchetlaw05_LexerComments.bx r) (place_ratchetlaw05_LexerComments pt) (st_ratchetlaw05_LexerComments pt) := by
  refine run_ratchetlaw05_LexerComments.partial_correctness (fun pt r => Good E Tryd.f4 code_ratchetlaw05_LexerComments 0 (res_ratchetlaw05_LexerComments.av r) (res_ratchetlaw05_LexerComments.bx r) (place_ratchetlaw05_LexerComments pt) (st_ratchetlaw05_LexerComments pt)) ?_
  intro run' ih pt r hr
  cases pt <;> exact fn_step (spec := spec_ratchetlaw05_LexerComments) (wr := (fun i => mem i [])) (l := tab_ratchetlaw05_LexerComments) (z := 75) (p := res_ratchetlaw05_LexerComments) E_ok tab_ratchetlaw05_LexerComments_ok.mem rfl spec_ratchetlaw05_LexerComments_ok ih (Eq.trans (by kernel_rfl) hr)
noncomputable def con_ratchetlaw05_LexerComments : Con E := ⟨4, (ByteArray × Unit), Unit, (RwL.cons Rd.str.w RwL.nil), RdBL.nil, 0, R_ratchetlaw05_LexerComments, fun a b => run_ratchetlaw05_LexerComments (.start a.1), res_ratchetlaw05_LexerComments.av, res_ratchetlaw05_LexerComments.bx⟩
theorem con_ratchetlaw05_LexerComments_ok : con_ratchetlaw05_LexerComments.Ok := fun a b r h => fn_ok (fn := Tryd.f4) (code := code_ratchetlaw05_LexerComments) E_ok (by kernel_rfl) (by kernel_rfl) (by kernel_rfl) (Nat.le_of_ble_eq_true rfl) (good_ratchetlaw05_LexerComments (.start a.1) r h)

/-! ### ratchet/ratchetref05.SameTokens -/
inductive P_ratchetref05_SameTokens where
 | start (a0 : (List api_LexerToken)) (b1 : (List api_LexerToken))
 | p116 (a0 : (List api_LexerToken)) (b1 : (List api_LexerToken)) (i5 : Int)
noncomputable def place_ratchetref05_SameTokens : P_ratchetref05_SameTokens → List Bool
 | .start .. => []
 | .p116 .. => [false, false, true, false, true, true]
noncomputable def st_ratchetref05_SameTokens : P_ratchetref05_SameTokens → St E.S
 | .start a0 b1 => st0 26 [.sl 33 a0 false, .sl 33 b1 false] []
 | .p116 a0 b1 i5 => mkSt 26 [0, 1, 5] [.sl 33 a0 false, .sl 33 b1 false, .v (.int .i64 i5)] []
abbrev R_ratchetref05_SameTokens : Type := ((Bool × Unit) × Unit)
noncomputable def res_ratchetref05_SameTokens : Res E (Bool × Unit) Unit := { rows := [], flat := [], keep := 0, rl := (RdL.cons Rd.bool RdL.nil), rb := RdBL.nil }
noncomputable def run_ratchetref05_SameTokens : P_ratchetref05_SameTokens → Option R_ratchetref05_SameTokens
 | .start a0 b1 =>
   if ((List.length a0 : Int) != (List.length b1 : Int)) = true then
     some ((false, ()), ())
   else
     run_ratchetref05_SameTokens (.p116 a0 b1 (0 : Int))
 | .p116 a0 b1 i5 =>
   if (decide (i5 < (List.length a0 : Int))) = true then
     (idx a0 i5) >>= fun t1 =>
     (idx b1 i5) >>= fun t2 =>
     if (!((t1.Kind == t2.Kind) && ((t1.At == t2.At) && ((seq t1.Text t2.Text) && ((t1.Value == t2.Value) && ((t1.Width == t2.Width) && true)))))) = true then
       some ((false, ()), ())
     else
       run_ratchetref05_SameTokens (.p116 a0 b1 (IntKind.wrap .i64 (i5 + (1 : Int))))
   else
     some ((true, ()), ())
  partial_fixpoint
noncomputable def tab_ratchetref05_SameTokens : List (Plc E P_ratchetref05_SameTokens) := [⟨116, [false, false, true, false, true, true], { slots := [0, 1, 5], rows := [], flat := [], keep := 0 }, ((List api_LexerToken) × ((List api_LexerToken) × (Int × Unit))), Unit, (RdL.cons (Rd.sl 33 false) (RdL.cons (Rd.sl 33 false) (RdL.cons (Rd.int .i64) RdL.nil))), RdBL.nil, fun a b => .p116 a.1 a.2.1 a.2.2.1⟩]
theorem tab_ratchetref05_SameTokens_ok : All (PlcOk 26 0 place_ratchetref05_SameTokens st_ratchetref05_SameTokens) tab_ratchetref05_SameTokens := ⟨⟨rfl, rfl, fun _ _ => rfl, fun _ _ => rfl⟩, trivial⟩
noncomputable def code_ratchetref05_SameTokens : Code := Tryd.f21.body.getD .skip
noncomputable def spec_ratchetref05_SameTokens : Spec E.S := noSpec
theorem spec_ratchetref05_SameTokens_ok : SpecOk E spec_ratchetref05_SameTokens := noSpec_ok
theorem good_ratchetref05_SameTokens : ∀ pt r, run_ratchetref05_SameTokens pt = some r → Good E Tryd.f21 code_ratchetref05_SameTokens 0 (res_ratchetref05_SameTokens.av r) (res_ratchetref05_SameTokens.bx r) (place_ratchetref05_SameTokens pt) (st_ratchetref05_SameTokens pt) := by
  refine run_ratchetref05_SameTokens.partial_correctness (fun pt r => Good E Tryd.f21 code_ratchetref05_SameTokens 0 (res_ratchetref05_SameTokens.av r) (res_ratchetref05_SameTokens.bx r) (place_ratchetref05_SameTokens pt) (st_ratchetref05_SameTokens pt)) ?_
  intro run' ih pt r hr
  cases pt <;> exact fn_step (spec := spec_ratchetref05_SameTokens) (wr := (fun i => mem i [])) (l := tab_ratchetref05_SameTokens) (z := 26) (p := res_ratchetref05_SameTokens) E_ok tab_ratchetref05_SameTokens_ok.mem rfl spec_ratchetref05_SameTokens_ok ih (Eq.trans (by kernel_rfl) hr)
noncomputable def con_ratchetref05_SameTokens : Con E := ⟨21, ((List api_LexerToken) × ((List api_LexerToken) × Unit)), Unit, (RwL.cons (Rw.sl 33) (RwL.cons (Rw.sl 33) RwL.nil)), RdBL.nil, 0, R_ratchetref05_SameTokens, fun a b => run_ratchetref05_SameTokens (.start a.1 a.2.1), res_ratchetref05_SameTokens.av, res_ratchetref05_SameTokens.bx⟩
theorem con_ratchetref05_SameTokens_ok : con_ratchetref05_SameTokens.Ok := fun a b r h => fn_ok (fn := Tryd.f21) (code := code_ratchetref05_SameTokens) E_ok (by kernel_rfl) (by kernel_rfl) (by kernel_rfl) (Nat.le_of_ble_eq_true rfl) (good_ratchetref05_SameTokens (.start a.1 a.2.1) r h)

/-! ### ratchet/ratchetlaw05.LexerSpace -/
inductive P_ratchetlaw05_LexerSpace where
 | start (text0 : ByteArray) (other1 : ByteArray)
 | p15 (text0 : ByteArray) (other1 : ByteArray)
 | p127 (text0 : ByteArray) (other1 : ByteArray) (f10 : Int) (B0 : (List api_LexerToken))
 | p511 (text0 : ByteArray) (other1 : ByteArray) (B0 : (List api_LexerToken)) (B1 : (List api_LexerToken))
 | p2047 (text0 : ByteArray) (B0 : (List api_LexerToken)) (B1 : (List api_LexerToken)) (B2 : (List api_LexerToken))
 | p32756 (text0 : ByteArray) (k23 : Int) (B0 : (List api_LexerToken)) (B1 : (List api_LexerToken)) (B2 : (List api_LexerToken))
noncomputable def place_ratchetlaw05_LexerSpace : P_ratchetlaw05_LexerSpace → List Bool
 | .start .. => []
 | .p15 .. => [true, true, true]
 | .p127 .. => [true, true, true, true, true, true]
 | .p511 .. => [true, true, true, true, true, true, true, true]
 | .p2047 .. => [true, true, true, true, true, true, true, true, true, true]
 | .p32756 .. => [false, false, true, false, true, true, true, true, true, true, true, true, true, true]
noncomputable def st_ratchetlaw05_LexerSpace : P_ratchetlaw05_LexerSpace → St E.S
 | .start text0 other1 => st0 159 [.v (.string text0), .v (.string other1)] []
 | .p15 text0 other1 => mkSt 159 [0, 1] [.v (.string text0), .v (.string other1)] []
 | .p127 text0 other1 f10 B0 => mkSt 159 [0, 1, 8, 10] [.v (.string text0), .v (.string other1), .rw 0, .v (.int .i64 f10)] [.row 33 B0 true]
 | .p511 text0 other1 B0 B1 => mkSt 159 [0, 1, 8, 17] [.v (.string text0), .v (.string other1), .rw 0, .rw 1] [.row 33 B0 true, .row 33 B1 true]
 | .p2047 text0 B0 B1 B2 => mkSt 159 [0, 8, 17, 20] [.v (.string text0), .rw 0, .rw 1, .rw 2] [.row 33 B0 true, .row 33 B1 true, .row 33 B2 true]
 | .p32756 text0 k23 B0 B1 B2 => mkSt 159 [0, 8, 17, 20, 23] [.v (.string text0), .rw 0, .rw 1, .rw 2, .v (.int .i64 k23)] [.row 33 B0 true, .row 33 B1 true, .row 33 B2 true]
abbrev R_ratchetlaw05_LexerSpace : Type := ((Bool × Unit) × Unit)
noncomputable def res_ratchetlaw05_LexerSpace : Res E (Bool × Unit) Unit := { rows := [], flat := [], keep := 0, rl := (RdL.cons Rd.bool RdL.nil), rb := RdBL.nil }
noncomputable def run_ratchetlaw05_LexerSpace : P_ratchetlaw05_LexerSpace → Option R_ratchetlaw05_LexerSpace
 | .start text0 other1 =>
   (some () : Option Unit) >>= fun t1 =>
   if (!true) = true then
     some ((false, ()), ())
   else
     if (decide ((text0.size : Int) > (200 : Int))) = true then
       some ((true, ()), ())
     else
       if (decide ((other1.size : Int) > (200 : Int))) = true then
         some ((true, ()), ())
       else
         run_ratchetlaw05_LexerSpace (.p15 text0 other1)
 | .p15 text0 other1 =>
   (run_lexer_Stripped (.start text0)) >>= fun t1 =>
   (run_lexer_Tokens (.start text0)) >>= fun t2 =>
   if (t1.1.2.2.1 == (0 : Int)) = true then
     (run_lexer_Tokens (.start t1.1.1)) >>= fun t3 =>
     (run_lexer_CommentsIn (.start t1.1.1)) >>= fun t4 =>
     if ((t1.1.1.size : Int) != (text0.size : Int)) = true then
       some ((false, ()), ())
     else
       if (t2.1.2.2.1 != t3.1.2.2.1) = true then
         some ((false, ()), ())
       else
         if (t2.1.2.1 != t3.1.2.1) = true then
           some ((false, ()), ())
         else
           (run_ratchetref05_SameTokens (.start t2.2.1 t3.2.1)) >>= fun t5 =>
           if (!t5.1.1) = true then
             some ((false, ()), ())
           else
             if (t4.1.2.2.1 != (0 : Int)) = true then
               some ((false, ()), ())
             else
               if ((List.length t4.2.1 : Int) != (0 : Int)) = true then
                 some ((false, ()), ())
               else
                 run_ratchetlaw05_LexerSpace (.p127 text0 other1 t2.1.2.2.1 t2.2.1)
   else
     run_ratchetlaw05_LexerSpace (.p127 text0 other1 t2.1.2.2.1 t2.2.1)
 | .p127 text0 other1 f10 B0 =>
   (run_lexer_Tokens (.start other1)) >>= fun t1 =>
   if (f10 != (0 : Int)) = true then
     some ((true, ()), ())
   else
     if (t1.1.2.2.1 != (0 : Int)) = true then
       some ((true, ()), ())
     else
       run_ratchetlaw05_LexerSpace (.p511 text0 other1 B0 t1.2.1)
 | .p511 text0 other1 B0 B1 =>
   if (Nat.ble (text0.size + (⟨#[10]⟩ : ByteArray).size) 9223372036854775807) = true then
     if (Nat.ble ((text0 ++ (⟨#[10]⟩ : ByteArray)).size + other1.size) 9223372036854775807) = true then
       (run_lexer_Tokens (.start ((text0 ++ (⟨#[10]⟩ : ByteArray)) ++ other1))) >>= fun t1 =>
       if (t1.1.2.2.1 != (0 : Int)) = true then
         some ((false, ()), ())
       else
         if ((List.length t1.2.1 : Int) != (IntKind.wrap .i64 ((List.length B0 : Int) + (List.length B1 : Int)))) = true then
           some ((false, ()), ())
         else
           (span (List.length t1.2.1) (0 : Int) (List.length B0 : Int)) >>= fun t2 =>
           (run_ratchetref05_SameTokens (.start (cut t1.2.1 t2) B0)) >>= fun t3 =>
           if (!t3.1.1) = true then
             some ((false, ()), ())
           else
             run_ratchetlaw05_LexerSpace (.p2047 text0 B0 B1 t1.2.1)
     else none
   else none
 | .p2047 text0 B0 B1 B2 =>
   run_ratchetlaw05_LexerSpace (.p32756 text0 (0 : Int) B0 B1 B2)
 | .p32756 text0 k23 B0 B1 B2 =>
   if (decide (k23 < (List.length B1 : Int))) = true then
     if (decide ((0 : Int) ≤ k23) && decide (k23 < (List.length B1 : Int))) = true then
       (idx B1 k23) >>= fun t1 =>
       if (decide ((0 : Int) ≤ (IntKind.wrap .i64 ((List.length B0 : Int) + k23))) && decide ((IntKind.wrap .i64 ((List.length B0 : Int) + k23)) < (List.length B2 : Int))) = true then
         (idx B2 (IntKind.wrap .i64 ((List.length B0 : Int) + k23))) >>= fun t2 =>
         if (!((t2.Kind == t1.Kind) && ((t2.At == (IntKind.wrap .i64 ((IntKind.wrap .i64 (t1.At + (text0.size : Int))) + (1 : Int)))) && ((seq t2.Text t1.Text) && ((t2.Value == t1.Value) && ((t2.Width == t1.Width) && true)))))) = true then
           some ((false, ()), ())
         else
           run_ratchetlaw05_LexerSpace (.p32756 text0 (IntKind.wrap .i64 (k23 + (1 : Int))) B0 B1 B2)
       else none
     else none
   else
     some ((true, ()), ())
  partial_fixpoint
noncomputable def tab_ratchetlaw05_LexerSpace : List (Plc E P_ratchetlaw05_LexerSpace) := [⟨15, [true, true, true], { slots := [0, 1], rows := [], flat := [], keep := 0 }, (ByteArray × (ByteArray × Unit)), Unit, (RdL.cons Rd.str (RdL.cons Rd.str RdL.nil)), RdBL.nil, fun a b => .p15 a.1 a.2.1⟩,
  ⟨127, [true, true, true, true, true, true], { slots := [0, 1, 8, 10], rows := [], flat := [], keep := 0 }, (ByteArray × (ByteArray × (Unit × (Int × Unit)))), ((List api_LexerToken) × Unit), (RdL.cons Rd.str (RdL.cons Rd.str (RdL.cons (Rd.rw 0) (RdL.cons (Rd.int .i64) RdL.nil)))), (RdBL.cons (RdB.row 33 true) RdBL.nil), fun a b => .p127 a.1 a.2.1 a.2.2.2.1 b.1⟩,
  ⟨511, [true, true, true, true, true, true, true, true], { slots := [0, 1, 8, 17], rows := [], flat := [], keep := 0 }, (ByteArray × (ByteArray × (Unit × (Unit × Unit)))), ((List api_LexerToken) × ((List api_LexerToken) × Unit)), (RdL.cons Rd.str (RdL.cons Rd.str (RdL.cons (Rd.rw 0) (RdL.cons (Rd.rw 1) RdL.nil)))), (RdBL.cons (RdB.row 33 true) (RdBL.cons (RdB.row 33 true) RdBL.nil)), fun a b => .p511 a.1 a.2.1 b.1 b.2.1⟩,
  ⟨2047, [true, true, true, true, true, true, true, true, true, true], { slots := [0, 8, 17, 20], rows := [], flat := [], keep := 0 }, (ByteArray × (Unit × (Unit × (Unit × Unit)))), ((List api_LexerToken) × ((List api_LexerToken) × ((List api_LexerToken) × Unit))), (RdL.cons Rd.str (RdL.cons (Rd.rw 0) (RdL.cons (Rd.rw 1) (RdL.cons (Rd.rw 2) RdL.nil)))), (RdBL.cons (RdB.row 33 true) (RdBL.cons (RdB.row 33 true) (RdBL.cons (RdB.row 33 true) RdBL.nil))), fun a b => .p2047 a.1 b.1 b.2.1 b.2.2.1⟩,
  ⟨32756, [false, false, true, false, true, true, true, true, true, true, true, true, true, true], { slots := [0, 8, 17, 20, 23], rows := [], flat := [], keep := 0 }, (ByteArray × (Unit × (Unit × (Unit × (Int × Unit))))), ((List api_LexerToken) × ((List api_LexerToken) × ((List api_LexerToken) × Unit))), (RdL.cons Rd.str (RdL.cons (Rd.rw 0) (RdL.cons (Rd.rw 1) (RdL.cons (Rd.rw 2) (RdL.cons (Rd.int .i64) RdL.nil))))), (RdBL.cons (RdB.row 33 true) (RdBL.cons (RdB.row 33 true) (RdBL.cons (RdB.row 33 true) RdBL.nil))), fun a b => .p32756 a.1 a.2.2.2.2.1 b.1 b.2.1 b.2.2.1⟩]
theorem tab_ratchetlaw05_LexerSpace_ok : All (PlcOk 159 0 place_ratchetlaw05_LexerSpace st_ratchetlaw05_LexerSpace) tab_ratchetlaw05_LexerSpace := ⟨⟨rfl, rfl, fun _ _ => rfl, fun _ _ => rfl⟩, ⟨⟨rfl, rfl, fun _ _ => rfl, fun _ _ => rfl⟩, ⟨⟨rfl, rfl, fun _ _ => rfl, fun _ _ => rfl⟩, ⟨⟨rfl, rfl, fun _ _ => rfl, fun _ _ => rfl⟩, ⟨⟨rfl, rfl, fun _ _ => rfl, fun _ _ => rfl⟩, trivial⟩⟩⟩⟩⟩
noncomputable def code_ratchetlaw05_LexerSpace : Code := Tryd.f5.body.getD .skip
noncomputable def spec_ratchetlaw05_LexerSpace : Spec E.S := (Con.add con_ratchetref05_SameTokens (Con.add con_lexer_CommentsIn (Con.add con_lexer_Tokens (Con.add con_lexer_Stripped (Con.add con_ratchetlaw05_awake noSpec)))))
theorem spec_ratchetlaw05_LexerSpace_ok : SpecOk E spec_ratchetlaw05_LexerSpace := (Con.add_ok con_ratchetref05_SameTokens_ok (Con.add_ok con_lexer_CommentsIn_ok (Con.add_ok con_lexer_Tokens_ok (Con.add_ok con_lexer_Stripped_ok (Con.add_ok con_ratchetlaw05_awake_ok noSpec_ok)))))
theorem good_ratchetlaw05_LexerSpace : ∀ pt r, run_ratchetlaw05_LexerSpace pt = some r → Good E Tryd.f5 code_ratchetlaw05_LexerSpace 0 (res_ratchetlaw05_LexerSpace.av r) (res_ratchetlaw05_LexerSpace.bx r) (place_ratchetlaw05_LexerSpace pt) (st_ratchetlaw05_LexerSpace pt) := by
  refine run_ratchetlaw05_LexerSpace.partial_correctness (fun pt r => Good E Tryd.f5 code_ratchetlaw05_LexerSpace 0 (res_ratchetlaw05_LexerSpace.av r) (res_ratchetlaw05_LexerSpace.bx r) (place_ratchetlaw05_LexerSpace pt) (st_ratchetlaw05_LexerSpace pt)) ?_
  intro run' ih pt r hr
  cases pt <;> exact fn_step (spec := spec_ratchetlaw05_LexerSpace) (wr := (fun i => mem i [])) (l := tab_ratchetlaw05_LexerSpace) (z := 159) (p := res_ratchetlaw05_LexerSpace) E_ok tab_ratchetlaw05_LexerSpace_ok.mem rfl spec_ratchetlaw05_LexerSpace_ok ih (Eq.trans (by kernel_rfl) hr)
noncomputable def con_ratchetlaw05_LexerSpace : Con E := ⟨5, (ByteArray × (ByteArray × Unit)), Unit, (RwL.cons Rd.str.w (RwL.cons Rd.str.w RwL.nil)), RdBL.nil, 0, R_ratchetlaw05_LexerSpace, fun a b => run_ratchetlaw05_LexerSpace (.start a.1 a.2.1), res_ratchetlaw05_LexerSpace.av, res_ratchetlaw05_LexerSpace.bx⟩
theorem con_ratchetlaw05_LexerSpace_ok : con_ratchetlaw05_LexerSpace.Ok := fun a b r h => fn_ok (fn := Tryd.f5) (code := code_ratchetlaw05_LexerSpace) E_ok (by kernel_rfl) (by kernel_rfl) (by kernel_rfl) (Nat.le_of_ble_eq_true rfl) (good_ratchetlaw05_LexerSpace (.start a.1 a.2.1) r h)

/-! ### ratchet/lexer.PlaceOf -/
inductive P_lexer_PlaceOf where
 | start (text0 : ByteArray) (at1 : Int)
noncomputable def place_lexer_PlaceOf : P_lexer_PlaceOf → List Bool
 | .start .. => []
noncomputable def st_lexer_PlaceOf : P_lexer_PlaceOf → St E.S
 | .start text0 at1 => st0 31 [.v (.string text0), .v (.int .i64 at1)] []
abbrev R_lexer_PlaceOf : Type := (((Int × (Int × Unit)) × (Int × Unit)) × Unit)
noncomputable def res_lexer_PlaceOf : Res E ((Int × (Int × Unit)) × (Int × Unit)) Unit := { rows := [], flat := [], keep := 0, rl := (RdL.cons (Rd.agg (RdL.cons (Rd.int .i64) (RdL.cons (Rd.int .i64) RdL.nil))) (RdL.cons (Rd.int .i64) RdL.nil)), rb := RdBL.nil }
noncomputable def run_lexer_PlaceOf : P_lexer_PlaceOf → Option R_lexer_PlaceOf
 | .start text0 at1 =>
   (run_lexer_textErr (.start text0)) >>= fun t1 =>
   if (t1.1.1 != (0 : Int)) = true then
     some ((((0 : Int), ((0 : Int), ())), (t1.1.1, ())), ())
   else
     (run_lexer_within (.start at1 (0 : Int) (text0.size : Int))) >>= fun t2 =>
     if (!t2.1.1) = true then
       some ((((0 : Int), ((0 : Int), ())), ((2 : Int), ())), ())
     else
       (span text0.size (0 : Int) at1) >>= fun t3 =>
       (oneRun (fun l c => (Go.Lib.countByte l c : Int)) (text0.extract t3.1 t3.2, (⟨#[10]⟩ : ByteArray), ()) ()) >>= fun t4 =>
       (byteRun Go.Lib.lastIndexByte (text0.extract t3.1 t3.2, (10 : Int), ()) ()) >>= fun t5 =>
       some (((IntKind.wrap .i64 ((1 : Int) + t4.1.1), (IntKind.wrap .i64 (at1 - t5.1.1), ())), ((0 : Int), ())), ())
noncomputable def tab_lexer_PlaceOf : List (Plc E P_lexer_PlaceOf) := []
theorem tab_lexer_PlaceOf_ok : All (PlcOk 31 0 place_lexer_PlaceOf st_lexer_PlaceOf) tab_lexer_PlaceOf := trivial
noncomputable def code_lexer_PlaceOf : Code := Tryd.f22.body.getD .skip
noncomputable def spec_lexer_PlaceOf : Spec E.S := (Con.add con_strings_LastIndexByte (Con.add con_strings_Count (Con.add con_lexer_within (Con.add con_lexer_textErr noSpec))))
theorem spec_lexer_PlaceOf_ok : SpecOk E spec_lexer_PlaceOf := (Con.add_ok con_strings_LastIndexByte_ok (Con.add_ok con_strings_Count_ok (Con.add_ok con_lexer_within_ok (Con.add_ok con_lexer_textErr_ok noSpec_ok))))
theorem good_lexer_PlaceOf : ∀ pt r, run_lexer_PlaceOf pt = some r → Good E Tryd.f22 code_lexer_PlaceOf 0 (res_lexer_PlaceOf.av r) (res_lexer_PlaceOf.bx r) (place_lexer_PlaceOf pt) (st_lexer_PlaceOf pt) := by
  intro pt r hr
  cases pt <;> exact fn_step (spec := spec_lexer_PlaceOf) (wr := (fun i => mem i [])) (l := tab_lexer_PlaceOf) (z := 31) (p := res_lexer_PlaceOf) (run' := fun _ => none) E_ok tab_lexer_PlaceOf_ok.mem rfl spec_lexer_PlaceOf_ok (fun _ _ h => by cases h) (Eq.trans (by kernel_rfl) hr)
noncomputable def con_lexer_PlaceOf : Con E := ⟨22, (ByteArray × (Int × Unit)), Unit, (RwL.cons Rd.str.w (RwL.cons (Rd.int .i64).w RwL.nil)), RdBL.nil, 0, R_lexer_PlaceOf, fun a b => run_lexer_PlaceOf (.start a.1 a.2.1), res_lexer_PlaceOf.av, res_lexer_PlaceOf.bx⟩
theorem con_lexer_PlaceOf_ok : con_lexer_PlaceOf.Ok := fun a b r h => fn_ok (fn := Tryd.f22) (code := code_lexer_PlaceOf) E_ok (by kernel_rfl) (by kernel_rfl) (by kernel_rfl) (Nat.le_of_ble_eq_true rfl) (good_lexer_PlaceOf (.start a.1 a.2.1) r h)

/-! ### ratchet/ratchetref05.Place -/
inductive P_ratchetref05_Place where
 | start (text0 : ByteArray) (at1 : Int)
 | p116 (text0 : ByteArray) (at1 : Int) (i6 : Int) (B0_0 : Int) (B0_1 : Int) (B1_0 : Int) (B1_1 : Int)
noncomputable def place_ratchetref05_Place : P_ratchetref05_Place → List Bool
 | .start .. => []
 | .p116 .. => [false, false, true, false, true, true]
noncomputable def st_ratchetref05_Place : P_ratchetref05_Place → St E.S
 | .start text0 at1 => st0 26 [.v (.string text0), .v (.int .i64 at1)] []
 | .p116 text0 at1 i6 B0_0 B0_1 B1_0 B1_1 => mkSt 26 [0, 1, 4, 5, 6] [.v (.string text0), .v (.int .i64 at1), .bp 0 0, .bp 1 0, .v (.int .i64 i6)] [.var 47 [.v (.int .i64 B0_0), .v (.int .i64 B0_1)], .var 47 [.v (.int .i64 B1_0), .v (.int .i64 B1_1)]]
abbrev R_ratchetref05_Place : Type := (((Int × (Int × Unit)) × Unit) × Unit)
noncomputable def res_ratchetref05_Place : Res E ((Int × (Int × Unit)) × Unit) Unit := { rows := [], flat := [], keep := 0, rl := (RdL.cons (Rd.agg (RdL.cons (Rd.int .i64) (RdL.cons (Rd.int .i64) RdL.nil))) RdL.nil), rb := RdBL.nil }
noncomputable def run_ratchetref05_Place : P_ratchetref05_Place → Option R_ratchetref05_Place
 | .start text0 at1 =>
   run_ratchetref05_Place (.p116 text0 at1 (0 : Int) (0 : Int) (0 : Int) (1 : Int) (1 : Int))
 | .p116 text0 at1 i6 B0_0 B0_1 B1_0 B1_1 =>
   if (decide (i6 < at1)) = true then
     (sidx text0 i6) >>= fun t1 =>
     if (t1 == (10 : Int)) = true then
       run_ratchetref05_Place (.p116 text0 at1 (IntKind.wrap .i64 (i6 + (1 : Int))) B0_0 B0_1 (IntKind.wrap .i64 (B1_0 + (1 : Int))) (1 : Int))
     else
       run_ratchetref05_Place (.p116 text0 at1 (IntKind.wrap .i64 (i6 + (1 : Int))) B0_0 B0_1 B1_0 (IntKind.wrap .i64 (B1_1 + (1 : Int))))
   else
     some (((B1_0, (B1_1, ())), ()), ())
  partial_fixpoint
noncomputable def tab_ratchetref05_Place : List (Plc E P_ratchetref05_Place) := [⟨116, [false, false, true, false, true, true], { slots := [0, 1, 4, 5, 6], rows := [], flat := [], keep := 0 }, (ByteArray × (Int × (Unit × (Unit × (Int × Unit))))), ((Int × (Int × Unit)) × ((Int × (Int × Unit)) × Unit)), (RdL.cons Rd.str (RdL.cons (Rd.int .i64) (RdL.cons (Rd.bp 0 0) (RdL.cons (Rd.bp 1 0) (RdL.cons (Rd.int .i64) RdL.nil))))), (RdBL.cons (RdB.var 47 (RdL.cons (Rd.int .i64) (RdL.cons (Rd.int .i64) RdL.nil))) (RdBL.cons (RdB.var 47 (RdL.cons (Rd.int .i64) (RdL.cons (Rd.int .i64) RdL.nil))) RdBL.nil)), fun a b => .p116 a.1 a.2.1 a.2.2.2.2.1 b.1.1 b.1.2.1 b.2.1.1 b.2.1.2.1⟩]
theorem tab_ratchetref05_Place_ok : All (PlcOk 26 0 place_ratchetref05_Place st_ratchetref05_Place) tab_ratchetref05_Place := ⟨⟨rfl, rfl, fun _ _ => rfl, fun _ _ => rfl⟩, trivial⟩
noncomputable def code_ratchetref05_Place : Code := Tryd.f26.body.getD .skip
noncomputable def spec_ratchetref05_Place : Spec E.S := noSpec
theorem spec_ratchetref05_Place_ok : SpecOk E spec_ratchetref05_Place := noSpec_ok
theorem good_ratchetref05_Place : ∀ pt r, run_ratchetref05_Place pt = some r → Good E Tryd.f26 code_ratchetref05_Place 0 (res_ratchetref05_Place.av r) (res_ratchetref05_Place.bx r) (place_ratchetref05_Place pt) (st_ratchetref05_Place pt) := by
  refine run_ratchetref05_Place.partial_correctness (fun pt r => Good E Tryd.f26 code_ratchetref05_Place 0 (res_ratchetref05_Place.av r) (res_ratchetref05_Place.bx r) (place_ratchetref05_Place pt) (st_ratchetref05_Place pt)) ?_
  intro run' ih pt r hr
  cases pt <;> exact fn_step (spec := spec_ratchetref05_Place) (wr := (fun i => mem i [5])) (l := tab_ratchetref05_Place) (z := 26) (p := res_ratchetref05_Place) E_ok tab_ratchetref05_Place_ok.mem rfl spec_ratchetref05_Place_ok ih (Eq.trans (by kernel_rfl) hr)
noncomputable def con_ratchetref05_Place : Con E := ⟨26, (ByteArray × (Int × Unit)), Unit, (RwL.cons Rd.str.w (RwL.cons (Rd.int .i64).w RwL.nil)), RdBL.nil, 0, R_ratchetref05_Place, fun a b => run_ratchetref05_Place (.start a.1 a.2.1), res_ratchetref05_Place.av, res_ratchetref05_Place.bx⟩
theorem con_ratchetref05_Place_ok : con_ratchetref05_Place.Ok := fun a b r h => fn_ok (fn := Tryd.f26) (code := code_ratchetref05_Place) E_ok (by kernel_rfl) (by kernel_rfl) (by kernel_rfl) (Nat.le_of_ble_eq_true rfl) (good_ratchetref05_Place (.start a.1 a.2.1) r h)

/-! ### ratchet/ratchetref05.Offset -/
inductive P_ratchetref05_Offset where
 | start (text0 : ByteArray) (place1_0 : Int) (place1_1 : Int)
 | p52 (text0 : ByteArray) (i5 : Int) (B0_0 : Int) (B0_1 : Int)
noncomputable def place_ratchetref05_Offset : P_ratchetref05_Offset → List Bool
 | .start .. => []
 | .p52 .. => [false, false, true, false, true]
noncomputable def st_ratchetref05_Offset : P_ratchetref05_Offset → St E.S
 | .start text0 place1_0 place1_1 => st0 18 [.v (.string text0), .agg [.v (.int .i64 place1_0), .v (.int .i64 place1_1)]] []
 | .p52 text0 i5 B0_0 B0_1 => mkSt 18 [0, 3, 5] [.v (.string text0), .bp 0 0, .v (.int .i64 i5)] [.var 47 [.v (.int .i64 B0_0), .v (.int .i64 B0_1)]]
abbrev R_ratchetref05_Offset : Type := ((Int × Unit) × Unit)
noncomputable def res_ratchetref05_Offset : Res E (Int × Unit) Unit := { rows := [], flat := [], keep := 0, rl := (RdL.cons (Rd.int .i64) RdL.nil), rb := RdBL.nil }
noncomputable def run_ratchetref05_Offset : P_ratchetref05_Offset → Option R_ratchetref05_Offset
 | .start text0 place1_0 place1_1 =>
   run_ratchetref05_Offset (.p52 text0 (0 : Int) place1_0 place1_1)
 | .p52 text0 i5 B0_0 B0_1 =>
   if (decide (i5 ≤ (text0.size : Int))) = true then
     (run_ratchetref05_Place (.start text0 i5)) >>= fun t1 =>
     if ((t1.1.1.1 == B0_0) && ((t1.1.1.2.1 == B0_1) && true)) = true then
       some ((i5, ()), ())
     else
       run_ratchetref05_Offset (.p52 text0 (IntKind.wrap .i64 (i5 + (1 : Int))) B0_0 B0_1)
   else
     some (((-1 : Int), ()), ())
  partial_fixpoint
noncomputable def tab_ratchetref05_Offset : List (Plc E P_ratchetref05_Offset) := [⟨52, [false, false, true, false, true], { slots := [0, 3, 5], rows := [], flat := [], keep := 0 }, (ByteArray × (Unit × (Int × Unit))), ((Int × (Int × Unit)) × Unit), (RdL.cons Rd.str (RdL.cons (Rd.bp 0 0) (RdL.cons (Rd.int .i64) RdL.nil))), (RdBL.cons (RdB.var 47 (RdL.cons (Rd.int .i64) (RdL.cons (Rd.int .i64) RdL.nil))) RdBL.nil), fun a b => .p52 a.1 a.2.2.1 b.1.1 b.1.2.1⟩]
theorem tab_ratchetref05_Offset_ok : All (PlcOk 18 0 place_ratchetref05_Offset st_ratchetref05_Offset) tab_ratchetref05_Offset := ⟨⟨rfl, rfl, fun _ _ => rfl, fun _ _ => rfl⟩, trivial⟩
noncomputable def code_ratchetref05_Offset : Code := Tryd.f24.body.getD .skip
noncomputable def spec_ratchetref05_Offset : Spec E.S := (Con.add con_ratchetref05_Place noSpec)
theorem spec_ratchetref05_Offset_ok : SpecOk E spec_ratchetref05_Offset := (Con.add_ok con_ratchetref05_Place_ok noSpec_ok)
theorem good_ratchetref05_Offset : ∀ pt r, run_ratchetref05_Offset pt = some r → Good E Tryd.f24 code_ratchetref05_Offset 0 (res_ratchetref05_Offset.av r) (res_ratchetref05_Offset.bx r) (place_ratchetref05_Offset pt) (st_ratchetref05_Offset pt) := by
  refine run_ratchetref05_Offset.partial_correctness (fun pt r => Good E Tryd.f24 code_ratchetref05_Offset 0 (res_ratchetref05_Offset.av r) (res_ratchetref05_Offset.bx r) (place_ratchetref05_Offset pt) (st_ratchetref05_Offset pt)) ?_
  intro run' ih pt r hr
  cases pt <;> exact fn_step (spec := spec_ratchetref05_Offset) (wr := (fun i => mem i [])) (l := tab_ratchetref05_Offset) (z := 18) (p := res_ratchetref05_Offset) E_ok tab_ratchetref05_Offset_ok.mem rfl spec_ratchetref05_Offset_ok ih (Eq.trans (by kernel_rfl) hr)
noncomputable def con_ratchetref05_Offset : Con E := ⟨24, (ByteArray × ((Int × (Int × Unit)) × Unit)), Unit, (RwL.cons Rd.str.w (RwL.cons (Rw.agg (RwL.cons (Rd.int .i64).w (RwL.cons (Rd.int .i64).w RwL.nil))) RwL.nil)), RdBL.nil, 0, R_ratchetref05_Offset, fun a b => run_ratchetref05_Offset (.start a.1 a.2.1.1 a.2.1.2.1), res_ratchetref05_Offset.av, res_ratchetref05_Offset.bx⟩
theorem con_ratchetref05_Offset_ok : con_ratchetref05_Offset.Ok := fun a b r h => fn_ok (fn := Tryd.f24) (code := code_ratchetref05_Offset) E_ok (by kernel_rfl) (by kernel_rfl) (by kernel_rfl) (Nat.le_of_ble_eq_true rfl) (good_ratchetref05_Offset (.start a.1 a.2.1.1 a.2.1.2.1) r h)

/-! ### ratchet/ratchetbase.Within -/
inductive P_ratchetbase_Within where
 | start (n0 : Int) (lo1 : Int) (hi2 : Int)
noncomputable def place_ratchetbase_Within : P_ratchetbase_Within → List Bool
 | .start .. => []
noncomputable def st_ratchetbase_Within : P_ratchetbase_Within → St E.S
 | .start n0 lo1 hi2 => st0 15 [.v (.int .i64 n0), .v (.int .i64 lo1), .v (.int .i64 hi2)] []
abbrev R_ratchetbase_Within : Type := ((Bool × Unit) × Unit)
noncomputable def res_ratchetbase_Within : Res E (Bool × Unit) Unit := { rows := [], flat := [], keep := 0, rl := (RdL.cons Rd.bool RdL.nil), rb := RdBL.nil }
noncomputable def run_ratchetbase_Within : P_ratchetbase_Within → Option R_ratchetbase_Within
 | .start n0 lo1 hi2 =>
   if (decide (lo1 ≤ n0)) = true then
     some ((decide (n0 ≤ hi2), ()), ())
   else
     some ((false, ()), ())
noncomputable def tab_ratchetbase_Within : List (Plc E P_ratchetbase_Within) := []
theorem tab_ratchetbase_Within_ok : All (PlcOk 15 0 place_ratchetbase_Within st_ratchetbase_Within) tab_ratchetbase_Within := trivial
noncomputable def code_ratchetbase_Within : Code := Tryd.f25.body.getD .skip
noncomputable def spec_ratchetbase_Within : Spec E.S := noSpec
theorem spec_ratchetbase_Within_ok : SpecOk E spec_ratchetbase_Within := noSpec_ok
theorem good_ratchetbase_Within : ∀ pt r, run_ratchetbase_Within pt = some r → Good E Tryd.f25 code_ratchetbase_Within 0 (res_ratchetbase_Within.av r) (res_ratchetbase_Within.bx r) (place_ratchetbase_Within pt) (st_ratchetbase_Within pt) := by
  intro pt r hr
  cases pt <;> exact fn_step (spec := spec_ratchetbase_Within) (wr := (fun i => mem i [])) (l := tab_ratchetbase_Within) (z := 15) (p := res_ratchetbase_Within) (run' := fun _ => none) E_ok tab_ratchetbase_Within_ok.mem rfl spec_ratchetbase_Within_ok (fun _ _ h => by cases h) (Eq.trans (by kernel_rfl) hr)
noncomputable def con_ratchetbase_Within : Con E := ⟨25, (Int × (Int × (Int × Unit))), Unit, (RwL.cons (Rd.int .i64).w (RwL.cons (Rd.int .i64).w (RwL.cons (Rd.int .i64).w RwL.nil))), RdBL.nil, 0, R_ratchetbase_Within, fun a b => run_ratchetbase_Within (.start a.1 a.2.1 a.2.2.1), res_ratchetbase_Within.av, res_ratchetbase_Within.bx⟩
theorem con_ratchetbase_Within_ok : con_ratchetbase_Within.Ok := fun a b r h => fn_ok (fn := Tryd.f25) (code := code_ratchetbase_Within) E_ok (by kernel_rfl) (by kernel_rfl) (by kernel_rfl) (Nat.le_of_ble_eq_true rfl) (good_ratchetbase_Within (.start a.1 a.2.1 a.2.2.1) r h)

/-! ### ratchet/ratchetlaw05.LexerPlaces -/
inductive P_ratchetlaw05_LexerPlaces where
 | start (text0 : ByteArray) (at1 : Int) (place2_0 : Int) (place2_1 : Int)
 | p127 (text0 : ByteArray) (at1 : Int) (e8 : Int) (B0_0 : Int) (B0_1 : Int)
 | p511 (text0 : ByteArray) (at1 : Int) (B0_0 : Int) (B0_1 : Int)
 | p2047 (text0 : ByteArray) (at1 : Int) (B0_0 : Int) (B0_1 : Int)
noncomputable def place_ratchetlaw05_LexerPlaces : P_ratchetlaw05_LexerPlaces → List Bool
 | .start .. => []
 | .p127 .. => [true, true, true, true, true, true]
 | .p511 .. => [true, true, true, true, true, true, true, true]
 | .p2047 .. => [true, true, true, true, true, true, true, true, true, true]
noncomputable def st_ratchetlaw05_LexerPlaces : P_ratchetlaw05_LexerPlaces → St E.S
 | .start text0 at1 place2_0 place2_1 => st0 134 [.v (.string text0), .v (.int .i64 at1), .agg [.v (.int .i64 place2_0), .v (.int .i64 place2_1)]] []
 | .p127 text0 at1 e8 B0_0 B0_1 => mkSt 134 [0, 1, 7, 8] [.v (.string text0), .v (.int .i64 at1), .bp 0 0, .v (.int .i64 e8)] [.var 47 [.v (.int .i64 B0_0), .v (.int .i64 B0_1)]]
 | .p511 text0 at1 B0_0 B0_1 => mkSt 134 [0, 1, 7] [.v (.string text0), .v (.int .i64 at1), .bp 0 0] [.var 47 [.v (.int .i64 B0_0), .v (.int .i64 B0_1)]]
 | .p2047 text0 at1 B0_0 B0_1 => mkSt 134 [0, 1, 7] [.v (.string text0), .v (.int .i64 at1), .bp 0 0] [.var 47 [.v (.int .i64 B0_0), .v (.int .i64 B0_1)]]
abbrev R_ratchetlaw05_LexerPlaces : Type := ((Bool × Unit) × Unit)
noncomputable def res_ratchetlaw05_LexerPlaces : Res E (Bool × Unit) Unit := { rows := [], flat := [], keep := 0, rl := (RdL.cons Rd.bool RdL.nil), rb := RdBL.nil }
noncomputable def run_ratchetlaw05_LexerPlaces : P_ratchetlaw05_LexerPlaces → Option R_ratchetlaw05_LexerPlaces
 | .start text0 at1 place2_0 place2_1 =>
   (some () : Option Unit) >>= fun t1 =>
   if (!true) = true then
     some ((false, ()), ())
   else
     if (decide ((text0.size : Int) > (200 : Int))) = true then
       some ((true, ()), ())
     else
       (run_lexer_PlaceOf (.start text0 at1)) >>= fun t2 =>
       (offRun (text0, (place2_0, place2_1, ()), ()) ()) >>= fun t3 =>
       (run_ratchetref05_Offset (.start text0 place2_0 place2_1)) >>= fun t4 =>
       if (decide (t4.1.1 < (0 : Int))) = true then
         if (t3.1.2.1 != (6 : Int)) = true then
           some ((false, ()), ())
         else
           if (t3.1.1 != (0 : Int)) = true then
             some ((false, ()), ())
           else
             if (decide (t4.1.1 ≥ (0 : Int))) = true then
               if (t3.1.2.1 != (0 : Int)) = true then
                 some ((false, ()), ())
               else
                 if (t3.1.1 != t4.1.1) = true then
                   some ((false, ()), ())
                 else
                   run_ratchetlaw05_LexerPlaces (.p127 text0 at1 t2.1.2.1 t2.1.1.1 t2.1.1.2.1)
             else
               run_ratchetlaw05_LexerPlaces (.p127 text0 at1 t2.1.2.1 t2.1.1.1 t2.1.1.2.1)
       else
         if (decide (t4.1.1 ≥ (0 : Int))) = true then
           if (t3.1.2.1 != (0 : Int)) = true then
             some ((false, ()), ())
           else
             if (t3.1.1 != t4.1.1) = true then
               some ((false, ()), ())
             else
               run_ratchetlaw05_LexerPlaces (.p127 text0 at1 t2.1.2.1 t2.1.1.1 t2.1.1.2.1)
         else
           run_ratchetlaw05_LexerPlaces (.p127 text0 at1 t2.1.2.1 t2.1.1.1 t2.1.1.2.1)
 | .p127 text0 at1 e8 B0_0 B0_1 =>
   (run_ratchetbase_Within (.start at1 (0 : Int) (text0.size : Int))) >>= fun t1 =>
   if (!t1.1.1) = true then
     if (e8 == (2 : Int)) = true then
       some ((((B0_0 == (0 : Int)) && ((B0_1 == (0 : Int)) && true)), ()), ())
     else
       some ((false, ()), ())
   else
     if (e8 != (0 : Int)) = true then
       some ((false, ()), ())
     else
       (run_ratchetref05_Place (.start text0 at1)) >>= fun t2 =>
       if (!((B0_0 == t2.1.1.1) && ((B0_1 == t2.1.1.2.1) && true))) = true then
         some ((false, ()), ())
       else
         run_ratchetlaw05_LexerPlaces (.p511 text0 at1 B0_0 B0_1)
 | .p511 text0 at1 B0_0 B0_1 =>
   (offRun (text0, (B0_0, B0_1, ()), ()) ()) >>= fun t1 =>
   if (t1.1.2.1 != (0 : Int)) = true then
     some ((false, ()), ())
   else
     if (t1.1.1 != at1) = true then
       some ((false, ()), ())
     else
       run_ratchetlaw05_LexerPlaces (.p2047 text0 at1 B0_0 B0_1)
 | .p2047 text0 at1 B0_0 B0_1 =>
   if (at1 == (text0.size : Int)) = true then
     some ((true, ()), ())
   else
     (run_lexer_PlaceOf (.start text0 (IntKind.wrap .i64 (at1 + (1 : Int))))) >>= fun t1 =>
     if (t1.1.2.1 == (0 : Int)) = true then
       if (t1.1.1.1 == B0_0) = true then
         if (t1.1.1.2.1 == (IntKind.wrap .i64 (B0_1 + (1 : Int)))) = true then
           some ((true, ()), ())
         else
           if (t1.1.1.1 == (IntKind.wrap .i64 (B0_0 + (1 : Int)))) = true then
             some ((t1.1.1.2.1 == (1 : Int), ()), ())
           else
             some ((false, ()), ())
       else
         if (t1.1.1.1 == (IntKind.wrap .i64 (B0_0 + (1 : Int)))) = true then
           some ((t1.1.1.2.1 == (1 : Int), ()), ())
         else
           some ((false, ()), ())
     else
       some ((false, ()), ())
  partial_fixpoint
noncomputable def tab_ratchetlaw05_LexerPlaces : List (Plc E P_ratchetlaw05_LexerPlaces) := [⟨127, [true, true, true, true, true, true], { slots := [0, 1, 7, 8], rows := [], flat := [], keep := 0 }, (ByteArray × (Int × (Unit × (Int × Unit)))), ((Int × (Int × Unit)) × Unit), (RdL.cons Rd.str (RdL.cons (Rd.int .i64) (RdL.cons (Rd.bp 0 0) (RdL.cons (Rd.int .i64) RdL.nil)))), (RdBL.cons (RdB.var 47 (RdL.cons (Rd.int .i64) (RdL.cons (Rd.int .i64) RdL.nil))) RdBL.nil), fun a b => .p127 a.1 a.2.1 a.2.2.2.1 b.1.1 b.1.2.1⟩,
  ⟨511, [true, true, true, true, true, true, true, true], { slots := [0, 1, 7], rows := [], flat := [], keep := 0 }, (ByteArray × (Int × (Unit × Unit))), ((Int × (Int × Unit)) × Unit), (RdL.cons Rd.str (RdL.cons (Rd.int .i64) (RdL.cons (Rd.bp 0 0) RdL.nil))), (RdBL.cons (RdB.var 47 (RdL.cons (Rd.int .i64) (RdL.cons (Rd.int .i64) RdL.nil))) RdBL.nil), fun a b => .p511 a.1 a.2.1 b.1.1 b.1.2.1⟩,
  ⟨2047, [true, true, true, true, true, true, true, true, true, true], { slots := [0, 1, 7], rows := [], flat := [], keep := 0 }, (ByteArray × (Int × (Unit × Unit))), ((Int × (Int × Unit)) × Unit), (RdL.cons Rd.str (RdL.cons (Rd.int .i64) (RdL.cons (Rd.bp 0 0) RdL.nil))), (RdBL.cons (RdB.var 47 (RdL.cons (Rd.int .i64) (RdL.cons (Rd.int .i64) RdL.nil))) RdBL.nil), fun a b => .p2047 a.1 a.2.1 b.1.1 b.1.2.1⟩]
theorem tab_ratchetlaw05_LexerPlaces_ok : All (PlcOk 134 0 place_ratchetlaw05_LexerPlaces st_ratchetlaw05_LexerPlaces) tab_ratchetlaw05_LexerPlaces := ⟨⟨rfl, rfl, fun _ _ => rfl, fun _ _ => rfl⟩, ⟨⟨rfl, rfl, fun _ _ => rfl, fun _ _ => rfl⟩, ⟨⟨rfl, rfl, fun _ _ => rfl, fun _ _ => rfl⟩, trivial⟩⟩⟩
noncomputable def code_ratchetlaw05_LexerPlaces : Code := Tryd.f6.body.getD .skip
noncomputable def spec_ratchetlaw05_LexerPlaces : Spec E.S := (Con.add con_ratchetref05_Place (Con.add con_ratchetbase_Within (Con.add con_ratchetref05_Offset (Con.add con_lexer_OffsetOf (Con.add con_lexer_PlaceOf (Con.add con_ratchetlaw05_awake noSpec))))))
theorem spec_ratchetlaw05_LexerPlaces_ok : SpecOk E spec_ratchetlaw05_LexerPlaces := (Con.add_ok con_ratchetref05_Place_ok (Con.add_ok con_ratchetbase_Within_ok (Con.add_ok con_ratchetref05_Offset_ok (Con.add_ok con_lexer_OffsetOf_ok (Con.add_ok con_lexer_PlaceOf_ok (Con.add_ok con_ratchetlaw05_awake_ok noSpec_ok))))))
theorem good_ratchetlaw05_LexerPlaces : ∀ pt r, run_ratchetlaw05_LexerPlaces pt = some r → Good E Tryd.f6 code_ratchetlaw05_LexerPlaces 0 (res_ratchetlaw05_LexerPlaces.av r) (res_ratchetlaw05_LexerPlaces.bx r) (place_ratchetlaw05_LexerPlaces pt) (st_ratchetlaw05_LexerPlaces pt) := by
  refine run_ratchetlaw05_LexerPlaces.partial_correctness (fun pt r => Good E Tryd.f6 code_ratchetlaw05_LexerPlaces 0 (res_ratchetlaw05_LexerPlaces.av r) (res_ratchetlaw05_LexerPlaces.bx r) (place_ratchetlaw05_LexerPlaces pt) (st_ratchetlaw05_LexerPlaces pt)) ?_
  intro run' ih pt r hr
  cases pt <;> exact fn_step (spec := spec_ratchetlaw05_LexerPlaces) (wr := (fun i => mem i [])) (l := tab_ratchetlaw05_LexerPlaces) (z := 134) (p := res_ratchetlaw05_LexerPlaces) E_ok tab_ratchetlaw05_LexerPlaces_ok.mem rfl spec_ratchetlaw05_LexerPlaces_ok ih (Eq.trans (by kernel_rfl) hr)
noncomputable def con_ratchetlaw05_LexerPlaces : Con E := ⟨6, (ByteArray × (Int × ((Int × (Int × Unit)) × Unit))), Unit, (RwL.cons Rd.str.w (RwL.cons (Rd.int .i64).w (RwL.cons (Rw.agg (RwL.cons (Rd.int .i64).w (RwL.cons (Rd.int .i64).w RwL.nil))) RwL.nil))), RdBL.nil, 0, R_ratchetlaw05_LexerPlaces, fun a b => run_ratchetlaw05_LexerPlaces (.start a.1 a.2.1 a.2.2.1.1 a.2.2.1.2.1), res_ratchetlaw05_LexerPlaces.av, res_ratchetlaw05_LexerPlaces.bx⟩
theorem con_ratchetlaw05_LexerPlaces_ok : con_ratchetlaw05_LexerPlaces.Ok := fun a b r h => fn_ok (fn := Tryd.f6) (code := code_ratchetlaw05_LexerPlaces) E_ok (by kernel_rfl) (by kernel_rfl) (by kernel_rfl) (Nat.le_of_ble_eq_true rfl) (good_ratchetlaw05_LexerPlaces (.start a.1 a.2.1 a.2.2.1.1 a.2.2.1.2.1) r h)

end Go.Proofs.YtfmkleeneddijaaDoor.Ev.F
