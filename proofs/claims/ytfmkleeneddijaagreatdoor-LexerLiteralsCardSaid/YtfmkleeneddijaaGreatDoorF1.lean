/- PRINTED by wip/gen/evp.py: what the functions come to. -/
import Derived.Test.YtfmkleeneddijaaGreatDoorEvShelf
import Derived.Test.YtfmkleeneddijaaGreatDoorShelf
import Derived.Test.YtfmkleeneddijaaGreatDoorOff
import Derived.Test.YtfmkleeneddijaaGreatDoorEvLib
import Derived.Test.YtfmkleeneddijaaGreatDoorEvRun
import Derived.Test.YtfmkleeneddijaaGreatDoorProg
set_option linter.unusedVariables false
namespace Go.Proofs.YtfmkleeneddijaaGreatDoor.Ev.F
open Go.Proofs Go.Proofs.YtfmkleeneddijaaGreatDoor.Ev

/-- api.LexerToken -/
structure api_LexerToken where
  Kind : Int
  At : Int
  Text : ByteArray
  Value : Int
  Width : Int
/-- [2]int -/
structure arr2_int where
  a0 : Int
  a1 : Int
/-- api.Range -/
structure api_Range where
  Lo : Int
  Hi : Int
noncomputable def S : Nat → Type
 | 5 => Int
 | 9 => ByteArray
 | 33 => api_LexerToken
 | 63 => api_Range
 | 110 => Bool
 | 128 => Int
 | _ => Unit
noncomputable def pk (e : Nat) : Pk S (S e) :=
  if h : e = 5 then h ▸ ((Pk.int .u8) : Pk S Int) else
  if h : e = 9 then h ▸ (Pk.str : Pk S ByteArray) else
  if h : e = 33 then h ▸ ((Pk.iso (Pk.cons (Pk.int .i64) (Pk.cons (Pk.int .i64) (Pk.cons Pk.str (Pk.cons (Pk.int .i64) (Pk.cons (Pk.int .i64) Pk.unit))))) (fun a => (⟨a.1, a.2.1, a.2.2.1, a.2.2.2.1, a.2.2.2.2.1⟩ : api_LexerToken)) (fun x => (x.Kind, x.At, x.Text, x.Value, x.Width, ())) (fun _ => rfl)) : Pk S api_LexerToken) else
  if h : e = 63 then h ▸ ((Pk.iso (Pk.cons (Pk.int .i64) (Pk.cons (Pk.int .i64) Pk.unit)) (fun a => (⟨a.1, a.2.1⟩ : api_Range)) (fun x => (x.Lo, x.Hi, ())) (fun _ => rfl)) : Pk S api_Range) else
  if h : e = 110 then h ▸ (Pk.err : Pk S Bool) else
  if h : e = 128 then h ▸ ((Pk.int .u64) : Pk S Int) else
  Pk.no (Tryz.prog.cellsOf e)
theorem pk_len (e : Nat) : (pk e).len = Tryz.prog.cellsOf e := by
  unfold pk
  by_cases h : e = 5
  · subst h; kernel_rfl
  refine (congrArg Pk.len (dif_neg h)).trans ?_; clear h
  by_cases h : e = 9
  · subst h; kernel_rfl
  refine (congrArg Pk.len (dif_neg h)).trans ?_; clear h
  by_cases h : e = 33
  · subst h; kernel_rfl
  refine (congrArg Pk.len (dif_neg h)).trans ?_; clear h
  by_cases h : e = 63
  · subst h; kernel_rfl
  refine (congrArg Pk.len (dif_neg h)).trans ?_; clear h
  by_cases h : e = 110
  · subst h; kernel_rfl
  refine (congrArg Pk.len (dif_neg h)).trans ?_; clear h
  by_cases h : e = 128
  · subst h; kernel_rfl
  refine (congrArg Pk.len (dif_neg h)).trans ?_; clear h
  exact Pk.no_len _
noncomputable def plain : Nat → Bool := fun t => mem t [33, 47, 63]
noncomputable def byt (e : Nat) (s : ByteArray) : Option (List (S e)) := if h : e = 5 then some (h ▸ (strBytes s : List Int)) else none
theorem byt_ok : ∀ e s l, byt e s = some l → Tryz.prog.underlying e = some (.int .u8) ∧ Tryz.prog.cellsOf e = 1 ∧ l.length = s.size ∧ ∀ i x, l[i]? = some x → (pk e).wt x = [.v (.int .u8 ((s.data.toList.getD i 0).toNat : Int))] := by
  intro e s l h
  unfold byt at h
  split at h
  · rename_i he; subst he; obtain rfl := Option.some.inj h
    exact ⟨by kernel_rfl, by kernel_rfl, (strBytes_ok s).1, fun i x hx => by rw [(strBytes_ok s).2 i x hx]; kernel_rfl⟩
  cases h
def glob1 : List Int := [1, 10, 100, 1000, 10000, 100000, 1000000, 10000000, 100000000, 1000000000, 10000000000, 100000000000, 1000000000000, 10000000000000, 100000000000000, 1000000000000000, 10000000000000000, 100000000000000000, 1000000000000000000, 10000000000000000000]
def glob6 : List Int := [0, 1, 28, 2, 29, 14, 24, 3, 30, 22, 20, 15, 25, 17, 4, 8, 31, 27, 13, 23, 21, 19, 16, 7, 26, 12, 18, 6, 11, 5, 10, 9]
def glob7 : List Int := [0, 1, 56, 2, 57, 49, 28, 3, 61, 58, 42, 50, 38, 29, 17, 4, 62, 47, 59, 36, 45, 43, 51, 22, 53, 39, 33, 30, 24, 18, 12, 5, 63, 55, 48, 27, 60, 41, 37, 16, 46, 35, 44, 21, 52, 32, 23, 11, 54, 26, 40, 15, 34, 20, 31, 10, 25, 14, 19, 9, 13, 8, 7, 6]
noncomputable def globs : Nat → Option (AV S)
 | 1 => some (.ar 128 glob1)
 | 6 => some (.ar 5 glob6)
 | 7 => some (.ar 5 glob7)
 | 2 => some (.el 110 true 0)
 | 3 => some (.el 110 true 0)
 | _ => none
theorem globs_ok : ∀ g x, globs g = some x → idsV x = [] := by
  intro g x h
  unfold globs at h
  split at h <;> first | (cases h; done) | (obtain rfl := Option.some.inj h; rfl)
noncomputable def nums : (e : Nat) → List (S e) → Option (List Int)
 | 5, l => some l
 | _, _ => none
theorem nums_ok : ∀ e l xs, nums e l = some xs → Tryz.prog.underlying e = some (.int .u8) ∧ xs.length = l.length ∧ ∀ (i : Nat) x n, l[i]? = some x → xs[i]? = some n → (pk e).wt x = [.v (.int .u8 n)] := by
  intro e l xs h
  unfold nums at h
  split at h
  · obtain rfl := Option.some.inj h
    exact ⟨by kernel_rfl, rfl, fun i x n hx hn => by obtain rfl : x = n := Option.some.inj (hx.symm.trans hn); kernel_rfl⟩
  · cases h
noncomputable def held : Nat → Option (String × Array Value)
 | 1 => some ("internal/strconv.uint64pow10", (Go.Lib.pow10Tab.map fun z => Value.int .u64 z).toArray)
 | _ => none
noncomputable abbrev E : Env := mkEnv Tryz.prog S pk globs plain byt nums held
theorem E_ok : E.Ok := mkEnv_ok pk_len (by kernel_rfl) globs_ok (fun t h => mem_cases (Q := fun t => Tryz.prog.stoodInHeld t = false ∧ Tryz.prog.eqGuardType Tryz.prog.depth t = false) h ⟨⟨by kernel_rfl, by kernel_rfl⟩, ⟨⟨by kernel_rfl, by kernel_rfl⟩, ⟨⟨by kernel_rfl, by kernel_rfl⟩, trivial⟩⟩⟩) byt_ok nums_ok
noncomputable def con_lexer_OffsetOf : Con E := conOff E
theorem con_lexer_OffsetOf_ok : con_lexer_OffsetOf.Ok := conOff_ok rfl
noncomputable def con_strings_Join : Con E := conJoin E 34 9 joinRun
theorem con_strings_Join_ok : con_strings_Join.Ok := conJoin_ok (fn := Tryz.f34) (by kernel_rfl) (by kernel_rfl) (by kernel_rfl) (fun x => x) (fun _ => rfl) (by kernel_rfl) (fun p u => congrArg (fun l => joinRun (l, p.2) u) (List.map_id' p.1).symm) (fun a c sep w => Tryz.strings_Join_none a c sep w) (fun bk o c xs sep w => Tryz.strings_Join bk o c xs sep w)
noncomputable def con_strings_Repeat : Con E := conRepeat E 45
theorem con_strings_Repeat_ok : con_strings_Repeat.Ok := conRepeat_ok (fn := Tryz.f45) (by kernel_rfl) (by kernel_rfl) (by kernel_rfl) (fun s c w hc hl => Tryz.strings_Repeat s c w hc hl)
noncomputable def con_strconv_Itoa : Con E := conItoa E 46
theorem con_strconv_Itoa_ok : con_strconv_Itoa.Ok := conItoa_ok (fn := Tryz.f46) (by kernel_rfl) (by kernel_rfl) (by kernel_rfl) (g := 1) rfl (fun n w h0 h1 ht => Tryz.strconv_Itoa n h0 h1 w ht)
noncomputable def con_strconv_Atoi : Con E := conAtoi E 76
theorem con_strconv_Atoi_ok : con_strconv_Atoi.Ok := conAtoi_ok (ρ := Tryz.laysC172_ren) Tryz.laysC172 rfl rfl rfl (g15 := 2) (g16 := 3) (fn := Tryz.f76) (by kernel_rfl) (by kernel_rfl) (by kernel_rfl) (e := 110) (x15 := (true : Bool)) (x16 := (true : Bool)) rfl rfl (by kernel_rfl) (by kernel_rfl)
noncomputable def con_internal_stringslite_Index : Con E := conOne E 98 Go.Lib.indexByte
theorem con_internal_stringslite_Index_ok : con_internal_stringslite_Index.Ok := conOne_ok (fn := Tryz.f98) (by kernel_rfl) (by kernel_rfl) (by kernel_rfl) Tryz.stringslite_Index_one
noncomputable def con_internal_bytealg_IndexByteString : Con E := conIndexByteString E 125
theorem con_internal_bytealg_IndexByteString_ok : con_internal_bytealg_IndexByteString.Ok := conIndexByteString_ok 125 (fn := Tryz.f125) (by kernel_rfl) (by kernel_rfl) (by kernel_rfl) (by kernel_rfl) (by kernel_rfl)
noncomputable def base : Spec E.S := (Con.add con_internal_bytealg_IndexByteString (Con.add con_internal_stringslite_Index (Con.add con_strconv_Atoi (Con.add con_strconv_Itoa (Con.add con_strings_Repeat (Con.add con_strings_Join (Con.add con_lexer_OffsetOf noSpec)))))))
theorem base_ok : SpecOk E base := (Con.add_ok con_internal_bytealg_IndexByteString_ok (Con.add_ok con_internal_stringslite_Index_ok (Con.add_ok con_strconv_Atoi_ok (Con.add_ok con_strconv_Itoa_ok (Con.add_ok con_strings_Repeat_ok (Con.add_ok con_strings_Join_ok (Con.add_ok con_lexer_OffsetOf_ok noSpec_ok)))))))
noncomputable def con_ratchetlaw05_awake : Con E := conConst E 7 (.v (.bool true))
noncomputable def wrs_ratchetlaw05_awake : Nat → List Nat
 | 79 => [5, 30, 38, 42]
 | 104 => [0, 17, 42, 45, 55, 58, 68, 71, 81, 84, 110, 113, 123, 126, 145, 148, 162]
 | 105 => [12, 97, 100]
 | _ => []
theorem con_ratchetlaw05_awake_ok : con_ratchetlaw05_awake.Ok := conConst_ok E_ok base_ok wrs_ratchetlaw05_awake 400 60 (ys := [.v (.bool true)]) rfl (by kernel_rfl)

/-! ### ratchet/lexer.textErr -/
inductive P_lexer_textErr where
 | start (text0 : ByteArray)
noncomputable def place_lexer_textErr : P_lexer_textErr → List Bool
 | .start .. => []
noncomputable def st_lexer_textErr : P_lexer_textErr → St E.S
 | .start text0 => st0 6 [.v (.string text0)] []
abbrev R_lexer_textErr : Type := ((Int × Unit) × Unit)
noncomputable def res_lexer_textErr : Res E (Int × Unit) Unit := { rows := [], flat := [], keep := 0, rl := (RdL.cons (Rd.int .i64) RdL.nil), rb := RdBL.nil }
noncomputable def run_lexer_textErr : P_lexer_textErr → Option R_lexer_textErr
 | .start text0 =>
   if (decide ((text0.size : Int) > (60000 : Int))) = true then
     some (((8 : Int), ()), ())
   else
     some (((0 : Int), ()), ())
noncomputable def tab_lexer_textErr : List (Plc E P_lexer_textErr) := []
theorem tab_lexer_textErr_ok : All (PlcOk 6 0 place_lexer_textErr st_lexer_textErr) tab_lexer_textErr := trivial
noncomputable def code_lexer_textErr : Code := Tryz.f25.body.getD .skip
noncomputable def spec_lexer_textErr : Spec E.S := noSpec
theorem spec_lexer_textErr_ok : SpecOk E spec_lexer_textErr := noSpec_ok
theorem good_lexer_textErr : ∀ pt r, run_lexer_textErr pt = some r → Good E Tryz.f25 code_lexer_textErr 0 (res_lexer_textErr.av r) (res_lexer_textErr.bx r) (place_lexer_textErr pt) (st_lexer_textErr pt) := by
  intro pt r hr
  cases pt <;> exact fn_step (spec := spec_lexer_textErr) (wr := (fun i => mem i [])) (l := tab_lexer_textErr) (z := 6) (p := res_lexer_textErr) (run' := fun _ => none) E_ok tab_lexer_textErr_ok.mem rfl spec_lexer_textErr_ok (fun _ _ h => by cases h) (Eq.trans (by kernel_rfl) hr)
noncomputable def con_lexer_textErr : Con E := ⟨25, (ByteArray × Unit), Unit, (RwL.cons Rd.str.w RwL.nil), RdBL.nil, 0, R_lexer_textErr, fun a b => run_lexer_textErr (.start a.1), res_lexer_textErr.av, res_lexer_textErr.bx⟩
theorem con_lexer_textErr_ok : con_lexer_textErr.Ok := fun a b r h => fn_ok (fn := Tryz.f25) (code := code_lexer_textErr) E_ok (by kernel_rfl) (by kernel_rfl) (by kernel_rfl) (Nat.le_of_ble_eq_true rfl) (good_lexer_textErr (.start a.1) r h)

/-! ### (*ratchet/lexer.scanner).ended -/
inductive P_lexer_scanner_ended where
 | start (B0_0 : ByteArray) (B0_1 : Int) (B0_2 : Int)
noncomputable def place_lexer_scanner_ended : P_lexer_scanner_ended → List Bool
 | .start .. => []
noncomputable def st_lexer_scanner_ended : P_lexer_scanner_ended → St E.S
 | .start B0_0 B0_1 B0_2 => st0 20 [.bp 0 0] [.var 67 [.v (.string B0_0), .v (.int .i64 B0_1), .v (.int .i64 B0_2)]]
abbrev R_lexer_scanner_ended : Type := ((Bool × Unit) × ((ByteArray × (Int × (Int × Unit))) × Unit))
noncomputable def res_lexer_scanner_ended : Res E (Bool × Unit) ((ByteArray × (Int × (Int × Unit))) × Unit) := { rows := [], flat := [], keep := 1, rl := (RdL.cons Rd.bool RdL.nil), rb := (RdBL.cons (RdB.var 67 (RdL.cons Rd.str (RdL.cons (Rd.int .i64) (RdL.cons (Rd.int .i64) RdL.nil)))) RdBL.nil) }
noncomputable def run_lexer_scanner_ended : P_lexer_scanner_ended → Option R_lexer_scanner_ended
 | .start B0_0 B0_1 B0_2 =>
   if (B0_2 != (0 : Int)) = true then
     some ((true, ()), ((B0_0, (B0_1, (B0_2, ()))), ()))
   else
     some ((B0_1 == (B0_0.size : Int), ()), ((B0_0, (B0_1, (B0_2, ()))), ()))
noncomputable def tab_lexer_scanner_ended : List (Plc E P_lexer_scanner_ended) := []
theorem tab_lexer_scanner_ended_ok : All (PlcOk 20 1 place_lexer_scanner_ended st_lexer_scanner_ended) tab_lexer_scanner_ended := trivial
noncomputable def code_lexer_scanner_ended : Code := Tryz.f27.body.getD .skip
noncomputable def spec_lexer_scanner_ended : Spec E.S := noSpec
theorem spec_lexer_scanner_ended_ok : SpecOk E spec_lexer_scanner_ended := noSpec_ok
theorem good_lexer_scanner_ended : ∀ pt r, run_lexer_scanner_ended pt = some r → Good E Tryz.f27 code_lexer_scanner_ended 1 (res_lexer_scanner_ended.av r) (res_lexer_scanner_ended.bx r) (place_lexer_scanner_ended pt) (st_lexer_scanner_ended pt) := by
  intro pt r hr
  cases pt <;> exact fn_step (spec := spec_lexer_scanner_ended) (wr := (fun i => mem i [])) (l := tab_lexer_scanner_ended) (z := 20) (p := res_lexer_scanner_ended) (run' := fun _ => none) E_ok tab_lexer_scanner_ended_ok.mem rfl spec_lexer_scanner_ended_ok (fun _ _ h => by cases h) (Eq.trans (by kernel_rfl) hr)
noncomputable def con_lexer_scanner_ended : Con E := ⟨27, (Unit × Unit), ((ByteArray × (Int × (Int × Unit))) × Unit), (RwL.cons (Rd.bp 0 0).w RwL.nil), (RdBL.cons (RdB.var 67 (RdL.cons Rd.str (RdL.cons (Rd.int .i64) (RdL.cons (Rd.int .i64) RdL.nil)))) RdBL.nil), 1, R_lexer_scanner_ended, fun a b => run_lexer_scanner_ended (.start b.1.1 b.1.2.1 b.1.2.2.1), res_lexer_scanner_ended.av, res_lexer_scanner_ended.bx⟩
theorem con_lexer_scanner_ended_ok : con_lexer_scanner_ended.Ok := fun a b r h => fn_ok (fn := Tryz.f27) (code := code_lexer_scanner_ended) E_ok (by kernel_rfl) (by kernel_rfl) (by kernel_rfl) (Nat.le_of_ble_eq_true rfl) (good_lexer_scanner_ended (.start b.1.1 b.1.2.1 b.1.2.2.1) r h)

/-! ### ratchet/lexer.isSpace -/
inductive P_lexer_isSpace where
 | start (c0 : Int)
noncomputable def place_lexer_isSpace : P_lexer_isSpace → List Bool
 | .start .. => []
noncomputable def st_lexer_isSpace : P_lexer_isSpace → St E.S
 | .start c0 => st0 13 [.v (.int .u8 c0)] []
abbrev R_lexer_isSpace : Type := ((Bool × Unit) × Unit)
noncomputable def res_lexer_isSpace : Res E (Bool × Unit) Unit := { rows := [], flat := [], keep := 0, rl := (RdL.cons Rd.bool RdL.nil), rb := RdBL.nil }
noncomputable def run_lexer_isSpace : P_lexer_isSpace → Option R_lexer_isSpace
 | .start c0 =>
   if (c0 == (9 : Int)) = true then
     some ((true, ()), ())
   else
     if (c0 == (10 : Int)) = true then
       some ((true, ()), ())
     else
       some ((c0 == (32 : Int), ()), ())
noncomputable def tab_lexer_isSpace : List (Plc E P_lexer_isSpace) := []
theorem tab_lexer_isSpace_ok : All (PlcOk 13 0 place_lexer_isSpace st_lexer_isSpace) tab_lexer_isSpace := trivial
noncomputable def code_lexer_isSpace : Code := Tryz.f53.body.getD .skip
noncomputable def spec_lexer_isSpace : Spec E.S := noSpec
theorem spec_lexer_isSpace_ok : SpecOk E spec_lexer_isSpace := noSpec_ok
theorem good_lexer_isSpace : ∀ pt r, run_lexer_isSpace pt = some r → Good E Tryz.f53 code_lexer_isSpace 0 (res_lexer_isSpace.av r) (res_lexer_isSpace.bx r) (place_lexer_isSpace pt) (st_lexer_isSpace pt) := by
  intro pt r hr
  cases pt <;> exact fn_step (spec := spec_lexer_isSpace) (wr := (fun i => mem i [])) (l := tab_lexer_isSpace) (z := 13) (p := res_lexer_isSpace) (run' := fun _ => none) E_ok tab_lexer_isSpace_ok.mem rfl spec_lexer_isSpace_ok (fun _ _ h => by cases h) (Eq.trans (by kernel_rfl) hr)
noncomputable def con_lexer_isSpace : Con E := ⟨53, (Int × Unit), Unit, (RwL.cons (Rd.int .u8).w RwL.nil), RdBL.nil, 0, R_lexer_isSpace, fun a b => run_lexer_isSpace (.start a.1), res_lexer_isSpace.av, res_lexer_isSpace.bx⟩
theorem con_lexer_isSpace_ok : con_lexer_isSpace.Ok := fun a b r h => fn_ok (fn := Tryz.f53) (code := code_lexer_isSpace) E_ok (by kernel_rfl) (by kernel_rfl) (by kernel_rfl) (Nat.le_of_ble_eq_true rfl) (good_lexer_isSpace (.start a.1) r h)

/-! ### internal/stringslite.HasPrefix -/
inductive P_internal_stringslite_HasPrefix where
 | start (s0 : ByteArray) (prefix1 : ByteArray)
noncomputable def place_internal_stringslite_HasPrefix : P_internal_stringslite_HasPrefix → List Bool
 | .start .. => []
noncomputable def st_internal_stringslite_HasPrefix : P_internal_stringslite_HasPrefix → St E.S
 | .start s0 prefix1 => st0 18 [.v (.string s0), .v (.string prefix1)] []
abbrev R_internal_stringslite_HasPrefix : Type := ((Bool × Unit) × Unit)
noncomputable def res_internal_stringslite_HasPrefix : Res E (Bool × Unit) Unit := { rows := [], flat := [], keep := 0, rl := (RdL.cons Rd.bool RdL.nil), rb := RdBL.nil }
noncomputable def run_internal_stringslite_HasPrefix : P_internal_stringslite_HasPrefix → Option R_internal_stringslite_HasPrefix
 | .start s0 prefix1 =>
   if (decide ((s0.size : Int) ≥ (prefix1.size : Int))) = true then
     (span s0.size (0 : Int) (prefix1.size : Int)) >>= fun t1 =>
     some ((seq (s0.extract t1.1 t1.2) prefix1, ()), ())
   else
     some ((false, ()), ())
noncomputable def tab_internal_stringslite_HasPrefix : List (Plc E P_internal_stringslite_HasPrefix) := []
theorem tab_internal_stringslite_HasPrefix_ok : All (PlcOk 18 0 place_internal_stringslite_HasPrefix st_internal_stringslite_HasPrefix) tab_internal_stringslite_HasPrefix := trivial
noncomputable def code_internal_stringslite_HasPrefix : Code := Tryz.f108.body.getD .skip
noncomputable def spec_internal_stringslite_HasPrefix : Spec E.S := noSpec
theorem spec_internal_stringslite_HasPrefix_ok : SpecOk E spec_internal_stringslite_HasPrefix := noSpec_ok
theorem good_internal_stringslite_HasPrefix : ∀ pt r, run_internal_stringslite_HasPrefix pt = some r → Good E Tryz.f108 code_internal_stringslite_HasPrefix 0 (res_internal_stringslite_HasPrefix.av r) (res_internal_stringslite_HasPrefix.bx r) (place_internal_stringslite_HasPrefix pt) (st_internal_stringslite_HasPrefix pt) := by
  intro pt r hr
  cases pt <;> exact fn_step (spec := spec_internal_stringslite_HasPrefix) (wr := (fun i => mem i [])) (l := tab_internal_stringslite_HasPrefix) (z := 18) (p := res_internal_stringslite_HasPrefix) (run' := fun _ => none) E_ok tab_internal_stringslite_HasPrefix_ok.mem rfl spec_internal_stringslite_HasPrefix_ok (fun _ _ h => by cases h) (Eq.trans (by kernel_rfl) hr)
noncomputable def con_internal_stringslite_HasPrefix : Con E := ⟨108, (ByteArray × (ByteArray × Unit)), Unit, (RwL.cons Rd.str.w (RwL.cons Rd.str.w RwL.nil)), RdBL.nil, 0, R_internal_stringslite_HasPrefix, fun a b => run_internal_stringslite_HasPrefix (.start a.1 a.2.1), res_internal_stringslite_HasPrefix.av, res_internal_stringslite_HasPrefix.bx⟩
theorem con_internal_stringslite_HasPrefix_ok : con_internal_stringslite_HasPrefix.Ok := fun a b r h => fn_ok (fn := Tryz.f108) (code := code_internal_stringslite_HasPrefix) E_ok (by kernel_rfl) (by kernel_rfl) (by kernel_rfl) (Nat.le_of_ble_eq_true rfl) (good_internal_stringslite_HasPrefix (.start a.1 a.2.1) r h)

/-! ### strings.HasPrefix -/
inductive P_strings_HasPrefix where
 | start (s0 : ByteArray) (prefix1 : ByteArray)
noncomputable def place_strings_HasPrefix : P_strings_HasPrefix → List Bool
 | .start .. => []
noncomputable def st_strings_HasPrefix : P_strings_HasPrefix → St E.S
 | .start s0 prefix1 => st0 8 [.v (.string s0), .v (.string prefix1)] []
abbrev R_strings_HasPrefix : Type := ((Bool × Unit) × Unit)
noncomputable def res_strings_HasPrefix : Res E (Bool × Unit) Unit := { rows := [], flat := [], keep := 0, rl := (RdL.cons Rd.bool RdL.nil), rb := RdBL.nil }
noncomputable def run_strings_HasPrefix : P_strings_HasPrefix → Option R_strings_HasPrefix
 | .start s0 prefix1 =>
   (run_internal_stringslite_HasPrefix (.start s0 prefix1)) >>= fun t1 =>
   some ((t1.1.1, ()), ())
noncomputable def tab_strings_HasPrefix : List (Plc E P_strings_HasPrefix) := []
theorem tab_strings_HasPrefix_ok : All (PlcOk 8 0 place_strings_HasPrefix st_strings_HasPrefix) tab_strings_HasPrefix := trivial
noncomputable def code_strings_HasPrefix : Code := Tryz.f81.body.getD .skip
noncomputable def spec_strings_HasPrefix : Spec E.S := (Con.add con_internal_stringslite_HasPrefix noSpec)
theorem spec_strings_HasPrefix_ok : SpecOk E spec_strings_HasPrefix := (Con.add_ok con_internal_stringslite_HasPrefix_ok noSpec_ok)
theorem good_strings_HasPrefix : ∀ pt r, run_strings_HasPrefix pt = some r → Good E Tryz.f81 code_strings_HasPrefix 0 (res_strings_HasPrefix.av r) (res_strings_HasPrefix.bx r) (place_strings_HasPrefix pt) (st_strings_HasPrefix pt) := by
  intro pt r hr
  cases pt <;> exact fn_step (spec := spec_strings_HasPrefix) (wr := (fun i => mem i [])) (l := tab_strings_HasPrefix) (z := 8) (p := res_strings_HasPrefix) (run' := fun _ => none) E_ok tab_strings_HasPrefix_ok.mem rfl spec_strings_HasPrefix_ok (fun _ _ h => by cases h) (Eq.trans (by kernel_rfl) hr)
noncomputable def con_strings_HasPrefix : Con E := ⟨81, (ByteArray × (ByteArray × Unit)), Unit, (RwL.cons Rd.str.w (RwL.cons Rd.str.w RwL.nil)), RdBL.nil, 0, R_strings_HasPrefix, fun a b => run_strings_HasPrefix (.start a.1 a.2.1), res_strings_HasPrefix.av, res_strings_HasPrefix.bx⟩
theorem con_strings_HasPrefix_ok : con_strings_HasPrefix.Ok := fun a b r h => fn_ok (fn := Tryz.f81) (code := code_strings_HasPrefix) E_ok (by kernel_rfl) (by kernel_rfl) (by kernel_rfl) (Nat.le_of_ble_eq_true rfl) (good_strings_HasPrefix (.start a.1 a.2.1) r h)

/-! ### (*ratchet/lexer.scanner).has -/
inductive P_lexer_scanner_has where
 | start (what1 : ByteArray) (B0_0 : ByteArray) (B0_1 : Int) (B0_2 : Int)
noncomputable def place_lexer_scanner_has : P_lexer_scanner_has → List Bool
 | .start .. => []
noncomputable def st_lexer_scanner_has : P_lexer_scanner_has → St E.S
 | .start what1 B0_0 B0_1 B0_2 => st0 16 [.bp 0 0, .v (.string what1)] [.var 67 [.v (.string B0_0), .v (.int .i64 B0_1), .v (.int .i64 B0_2)]]
abbrev R_lexer_scanner_has : Type := ((Bool × Unit) × ((ByteArray × (Int × (Int × Unit))) × Unit))
noncomputable def res_lexer_scanner_has : Res E (Bool × Unit) ((ByteArray × (Int × (Int × Unit))) × Unit) := { rows := [], flat := [], keep := 1, rl := (RdL.cons Rd.bool RdL.nil), rb := (RdBL.cons (RdB.var 67 (RdL.cons Rd.str (RdL.cons (Rd.int .i64) (RdL.cons (Rd.int .i64) RdL.nil)))) RdBL.nil) }
noncomputable def run_lexer_scanner_has : P_lexer_scanner_has → Option R_lexer_scanner_has
 | .start what1 B0_0 B0_1 B0_2 =>
   (span B0_0.size B0_1 (B0_0.size : Int)) >>= fun t1 =>
   (run_strings_HasPrefix (.start (B0_0.extract t1.1 t1.2) what1)) >>= fun t2 =>
   some ((t2.1.1, ()), ((B0_0, (B0_1, (B0_2, ()))), ()))
noncomputable def tab_lexer_scanner_has : List (Plc E P_lexer_scanner_has) := []
theorem tab_lexer_scanner_has_ok : All (PlcOk 16 1 place_lexer_scanner_has st_lexer_scanner_has) tab_lexer_scanner_has := trivial
noncomputable def code_lexer_scanner_has : Code := Tryz.f85.body.getD .skip
noncomputable def spec_lexer_scanner_has : Spec E.S := (Con.add con_strings_HasPrefix noSpec)
theorem spec_lexer_scanner_has_ok : SpecOk E spec_lexer_scanner_has := (Con.add_ok con_strings_HasPrefix_ok noSpec_ok)
theorem good_lexer_scanner_has : ∀ pt r, run_lexer_scanner_has pt = some r → Good E Tryz.f85 code_lexer_scanner_has 1 (res_lexer_scanner_has.av r) (res_lexer_scanner_has.bx r) (place_lexer_scanner_has pt) (st_lexer_scanner_has pt) := by
  intro pt r hr
  cases pt <;> exact fn_step (spec := spec_lexer_scanner_has) (wr := (fun i => mem i [])) (l := tab_lexer_scanner_has) (z := 16) (p := res_lexer_scanner_has) (run' := fun _ => none) E_ok tab_lexer_scanner_has_ok.mem rfl spec_lexer_scanner_has_ok (fun _ _ h => by cases h) (Eq.trans (by kernel_rfl) hr)
noncomputable def con_lexer_scanner_has : Con E := ⟨85, (Unit × (ByteArray × Unit)), ((ByteArray × (Int × (Int × Unit))) × Unit), (RwL.cons (Rd.bp 0 0).w (RwL.cons Rd.str.w RwL.nil)), (RdBL.cons (RdB.var 67 (RdL.cons Rd.str (RdL.cons (Rd.int .i64) (RdL.cons (Rd.int .i64) RdL.nil)))) RdBL.nil), 1, R_lexer_scanner_has, fun a b => run_lexer_scanner_has (.start a.2.1 b.1.1 b.1.2.1 b.1.2.2.1), res_lexer_scanner_has.av, res_lexer_scanner_has.bx⟩
theorem con_lexer_scanner_has_ok : con_lexer_scanner_has.Ok := fun a b r h => fn_ok (fn := Tryz.f85) (code := code_lexer_scanner_has) E_ok (by kernel_rfl) (by kernel_rfl) (by kernel_rfl) (Nat.le_of_ble_eq_true rfl) (good_lexer_scanner_has (.start a.2.1 b.1.1 b.1.2.1 b.1.2.2.1) r h)

/-! ### ratchet/lexer.isPermitted -/
inductive P_lexer_isPermitted where
 | start (c0 : Int)
noncomputable def place_lexer_isPermitted : P_lexer_isPermitted → List Bool
 | .start .. => []
noncomputable def st_lexer_isPermitted : P_lexer_isPermitted → St E.S
 | .start c0 => st0 17 [.v (.int .u8 c0)] []
abbrev R_lexer_isPermitted : Type := ((Bool × Unit) × Unit)
noncomputable def res_lexer_isPermitted : Res E (Bool × Unit) Unit := { rows := [], flat := [], keep := 0, rl := (RdL.cons Rd.bool RdL.nil), rb := RdBL.nil }
noncomputable def run_lexer_isPermitted : P_lexer_isPermitted → Option R_lexer_isPermitted
 | .start c0 =>
   if (c0 == (9 : Int)) = true then
     some ((true, ()), ())
   else
     if (c0 == (10 : Int)) = true then
       some ((true, ()), ())
     else
       if (decide ((32 : Int) ≤ c0)) = true then
         some ((decide (c0 ≤ (126 : Int)), ()), ())
       else
         some ((false, ()), ())
noncomputable def tab_lexer_isPermitted : List (Plc E P_lexer_isPermitted) := []
theorem tab_lexer_isPermitted_ok : All (PlcOk 17 0 place_lexer_isPermitted st_lexer_isPermitted) tab_lexer_isPermitted := trivial
noncomputable def code_lexer_isPermitted : Code := Tryz.f87.body.getD .skip
noncomputable def spec_lexer_isPermitted : Spec E.S := noSpec
theorem spec_lexer_isPermitted_ok : SpecOk E spec_lexer_isPermitted := noSpec_ok
theorem good_lexer_isPermitted : ∀ pt r, run_lexer_isPermitted pt = some r → Good E Tryz.f87 code_lexer_isPermitted 0 (res_lexer_isPermitted.av r) (res_lexer_isPermitted.bx r) (place_lexer_isPermitted pt) (st_lexer_isPermitted pt) := by
  intro pt r hr
  cases pt <;> exact fn_step (spec := spec_lexer_isPermitted) (wr := (fun i => mem i [])) (l := tab_lexer_isPermitted) (z := 17) (p := res_lexer_isPermitted) (run' := fun _ => none) E_ok tab_lexer_isPermitted_ok.mem rfl spec_lexer_isPermitted_ok (fun _ _ h => by cases h) (Eq.trans (by kernel_rfl) hr)
noncomputable def con_lexer_isPermitted : Con E := ⟨87, (Int × Unit), Unit, (RwL.cons (Rd.int .u8).w RwL.nil), RdBL.nil, 0, R_lexer_isPermitted, fun a b => run_lexer_isPermitted (.start a.1), res_lexer_isPermitted.av, res_lexer_isPermitted.bx⟩
theorem con_lexer_isPermitted_ok : con_lexer_isPermitted.Ok := fun a b r h => fn_ok (fn := Tryz.f87) (code := code_lexer_isPermitted) E_ok (by kernel_rfl) (by kernel_rfl) (by kernel_rfl) (Nat.le_of_ble_eq_true rfl) (good_lexer_isPermitted (.start a.1) r h)

/-! ### (*ratchet/lexer.scanner).fail -/
inductive P_lexer_scanner_fail where
 | start (at1 : Int) (e2 : Int) (B0_0 : ByteArray) (B0_1 : Int) (B0_2 : Int)
noncomputable def place_lexer_scanner_fail : P_lexer_scanner_fail → List Bool
 | .start .. => []
noncomputable def st_lexer_scanner_fail : P_lexer_scanner_fail → St E.S
 | .start at1 e2 B0_0 B0_1 B0_2 => st0 19 [.bp 0 0, .v (.int .i64 at1), .v (.int .i64 e2)] [.var 67 [.v (.string B0_0), .v (.int .i64 B0_1), .v (.int .i64 B0_2)]]
abbrev R_lexer_scanner_fail : Type := (Unit × ((ByteArray × (Int × (Int × Unit))) × Unit))
noncomputable def res_lexer_scanner_fail : Res E Unit ((ByteArray × (Int × (Int × Unit))) × Unit) := { rows := [], flat := [], keep := 1, rl := RdL.nil, rb := (RdBL.cons (RdB.var 67 (RdL.cons Rd.str (RdL.cons (Rd.int .i64) (RdL.cons (Rd.int .i64) RdL.nil)))) RdBL.nil) }
noncomputable def run_lexer_scanner_fail : P_lexer_scanner_fail → Option R_lexer_scanner_fail
 | .start at1 e2 B0_0 B0_1 B0_2 =>
   if (B0_2 == (0 : Int)) = true then
     some ((), ((B0_0, (at1, (e2, ()))), ()))
   else
     some ((), ((B0_0, (B0_1, (B0_2, ()))), ()))
noncomputable def tab_lexer_scanner_fail : List (Plc E P_lexer_scanner_fail) := []
theorem tab_lexer_scanner_fail_ok : All (PlcOk 19 1 place_lexer_scanner_fail st_lexer_scanner_fail) tab_lexer_scanner_fail := trivial
noncomputable def code_lexer_scanner_fail : Code := Tryz.f88.body.getD .skip
noncomputable def spec_lexer_scanner_fail : Spec E.S := noSpec
theorem spec_lexer_scanner_fail_ok : SpecOk E spec_lexer_scanner_fail := noSpec_ok
theorem good_lexer_scanner_fail : ∀ pt r, run_lexer_scanner_fail pt = some r → Good E Tryz.f88 code_lexer_scanner_fail 1 (res_lexer_scanner_fail.av r) (res_lexer_scanner_fail.bx r) (place_lexer_scanner_fail pt) (st_lexer_scanner_fail pt) := by
  intro pt r hr
  cases pt <;> exact fn_step (spec := spec_lexer_scanner_fail) (wr := (fun i => mem i [])) (l := tab_lexer_scanner_fail) (z := 19) (p := res_lexer_scanner_fail) (run' := fun _ => none) E_ok tab_lexer_scanner_fail_ok.mem rfl spec_lexer_scanner_fail_ok (fun _ _ h => by cases h) (Eq.trans (by kernel_rfl) hr)
noncomputable def con_lexer_scanner_fail : Con E := ⟨88, (Unit × (Int × (Int × Unit))), ((ByteArray × (Int × (Int × Unit))) × Unit), (RwL.cons (Rd.bp 0 0).w (RwL.cons (Rd.int .i64).w (RwL.cons (Rd.int .i64).w RwL.nil))), (RdBL.cons (RdB.var 67 (RdL.cons Rd.str (RdL.cons (Rd.int .i64) (RdL.cons (Rd.int .i64) RdL.nil)))) RdBL.nil), 1, R_lexer_scanner_fail, fun a b => run_lexer_scanner_fail (.start a.2.1 a.2.2.1 b.1.1 b.1.2.1 b.1.2.2.1), res_lexer_scanner_fail.av, res_lexer_scanner_fail.bx⟩
theorem con_lexer_scanner_fail_ok : con_lexer_scanner_fail.Ok := fun a b r h => fn_ok (fn := Tryz.f88) (code := code_lexer_scanner_fail) E_ok (by kernel_rfl) (by kernel_rfl) (by kernel_rfl) (Nat.le_of_ble_eq_true rfl) (good_lexer_scanner_fail (.start a.2.1 a.2.2.1 b.1.1 b.1.2.1 b.1.2.2.1) r h)

/-! ### (*ratchet/lexer.scanner).step -/
inductive P_lexer_scanner_step where
 | start (B0_0 : ByteArray) (B0_1 : Int) (B0_2 : Int)
noncomputable def place_lexer_scanner_step : P_lexer_scanner_step → List Bool
 | .start .. => []
noncomputable def st_lexer_scanner_step : P_lexer_scanner_step → St E.S
 | .start B0_0 B0_1 B0_2 => st0 26 [.bp 0 0] [.var 67 [.v (.string B0_0), .v (.int .i64 B0_1), .v (.int .i64 B0_2)]]
abbrev R_lexer_scanner_step : Type := (Unit × ((ByteArray × (Int × (Int × Unit))) × Unit))
noncomputable def res_lexer_scanner_step : Res E Unit ((ByteArray × (Int × (Int × Unit))) × Unit) := { rows := [], flat := [], keep := 1, rl := RdL.nil, rb := (RdBL.cons (RdB.var 67 (RdL.cons Rd.str (RdL.cons (Rd.int .i64) (RdL.cons (Rd.int .i64) RdL.nil)))) RdBL.nil) }
noncomputable def run_lexer_scanner_step : P_lexer_scanner_step → Option R_lexer_scanner_step
 | .start B0_0 B0_1 B0_2 =>
   (sidx B0_0 B0_1) >>= fun t1 =>
   (run_lexer_isPermitted (.start t1)) >>= fun t2 =>
   if (!t2.1.1) = true then
     (run_lexer_scanner_fail (.start B0_1 (15 : Int) B0_0 B0_1 B0_2)) >>= fun t3 =>
     some ((), ((t3.2.1.1, (t3.2.1.2.1, (t3.2.1.2.2.1, ()))), ()))
   else
     some ((), ((B0_0, (IntKind.wrap .i64 (B0_1 + (1 : Int)), (B0_2, ()))), ()))
noncomputable def tab_lexer_scanner_step : List (Plc E P_lexer_scanner_step) := []
theorem tab_lexer_scanner_step_ok : All (PlcOk 26 1 place_lexer_scanner_step st_lexer_scanner_step) tab_lexer_scanner_step := trivial
noncomputable def code_lexer_scanner_step : Code := Tryz.f50.body.getD .skip
noncomputable def spec_lexer_scanner_step : Spec E.S := (Con.add con_lexer_scanner_fail (Con.add con_lexer_isPermitted noSpec))
theorem spec_lexer_scanner_step_ok : SpecOk E spec_lexer_scanner_step := (Con.add_ok con_lexer_scanner_fail_ok (Con.add_ok con_lexer_isPermitted_ok noSpec_ok))
theorem good_lexer_scanner_step : ∀ pt r, run_lexer_scanner_step pt = some r → Good E Tryz.f50 code_lexer_scanner_step 1 (res_lexer_scanner_step.av r) (res_lexer_scanner_step.bx r) (place_lexer_scanner_step pt) (st_lexer_scanner_step pt) := by
  intro pt r hr
  cases pt <;> exact fn_step (spec := spec_lexer_scanner_step) (wr := (fun i => mem i [])) (l := tab_lexer_scanner_step) (z := 26) (p := res_lexer_scanner_step) (run' := fun _ => none) E_ok tab_lexer_scanner_step_ok.mem rfl spec_lexer_scanner_step_ok (fun _ _ h => by cases h) (Eq.trans (by kernel_rfl) hr)
noncomputable def con_lexer_scanner_step : Con E := ⟨50, (Unit × Unit), ((ByteArray × (Int × (Int × Unit))) × Unit), (RwL.cons (Rd.bp 0 0).w RwL.nil), (RdBL.cons (RdB.var 67 (RdL.cons Rd.str (RdL.cons (Rd.int .i64) (RdL.cons (Rd.int .i64) RdL.nil)))) RdBL.nil), 1, R_lexer_scanner_step, fun a b => run_lexer_scanner_step (.start b.1.1 b.1.2.1 b.1.2.2.1), res_lexer_scanner_step.av, res_lexer_scanner_step.bx⟩
theorem con_lexer_scanner_step_ok : con_lexer_scanner_step.Ok := fun a b r h => fn_ok (fn := Tryz.f50) (code := code_lexer_scanner_step) E_ok (by kernel_rfl) (by kernel_rfl) (by kernel_rfl) (Nat.le_of_ble_eq_true rfl) (good_lexer_scanner_step (.start b.1.1 b.1.2.1 b.1.2.2.1) r h)

/-! ### (*ratchet/lexer.scanner).nested -/
inductive P_lexer_scanner_nested where
 | start (B0_0 : ByteArray) (B0_1 : Int) (B0_2 : Int)
 | p24 (from2 : Int) (depth3 : Int) (B0_0 : ByteArray) (B0_1 : Int) (B0_2 : Int)
 | p197 (from2 : Int) (depth3 : Int) (B0_0 : ByteArray) (B0_1 : Int) (B0_2 : Int)
noncomputable def place_lexer_scanner_nested : P_lexer_scanner_nested → List Bool
 | .start .. => []
 | .p24 .. => [false, false, false, true]
 | .p197 .. => [true, false, true, false, false, false, true]
noncomputable def st_lexer_scanner_nested : P_lexer_scanner_nested → St E.S
 | .start B0_0 B0_1 B0_2 => st0 49 [.bp 0 0] [.var 67 [.v (.string B0_0), .v (.int .i64 B0_1), .v (.int .i64 B0_2)]]
 | .p24 from2 depth3 B0_0 B0_1 B0_2 => mkSt 49 [0, 2, 3] [.bp 0 0, .v (.int .i64 from2), .v (.int .i64 depth3)] [.var 67 [.v (.string B0_0), .v (.int .i64 B0_1), .v (.int .i64 B0_2)]]
 | .p197 from2 depth3 B0_0 B0_1 B0_2 => mkSt 49 [0, 2, 3] [.bp 0 0, .v (.int .i64 from2), .v (.int .i64 depth3)] [.var 67 [.v (.string B0_0), .v (.int .i64 B0_1), .v (.int .i64 B0_2)]]
abbrev R_lexer_scanner_nested : Type := (Unit × ((ByteArray × (Int × (Int × Unit))) × Unit))
noncomputable def res_lexer_scanner_nested : Res E Unit ((ByteArray × (Int × (Int × Unit))) × Unit) := { rows := [], flat := [], keep := 1, rl := RdL.nil, rb := (RdBL.cons (RdB.var 67 (RdL.cons Rd.str (RdL.cons (Rd.int .i64) (RdL.cons (Rd.int .i64) RdL.nil)))) RdBL.nil) }
noncomputable def run_lexer_scanner_nested : P_lexer_scanner_nested → Option R_lexer_scanner_nested
 | .start B0_0 B0_1 B0_2 =>
   run_lexer_scanner_nested (.p24 B0_1 (0 : Int) B0_0 B0_1 B0_2)
 | .p24 from2 depth3 B0_0 B0_1 B0_2 =>
   (run_lexer_scanner_ended (.start B0_0 B0_1 B0_2)) >>= fun t1 =>
   if (!t1.1.1) = true then
     (run_lexer_scanner_has (.start (⟨#[47, 42]⟩ : ByteArray) t1.2.1.1 t1.2.1.2.1 t1.2.1.2.2.1)) >>= fun t2 =>
     if t2.1.1 = true then
       run_lexer_scanner_nested (.p197 from2 (IntKind.wrap .i64 (depth3 + (1 : Int))) t2.2.1.1 (IntKind.wrap .i64 (t2.2.1.2.1 + (2 : Int))) t2.2.1.2.2.1)
     else
       (run_lexer_scanner_has (.start (⟨#[42, 47]⟩ : ByteArray) t2.2.1.1 t2.2.1.2.1 t2.2.1.2.2.1)) >>= fun t3 =>
       if t3.1.1 = true then
         run_lexer_scanner_nested (.p197 from2 (IntKind.wrap .i64 (depth3 - (1 : Int))) t3.2.1.1 (IntKind.wrap .i64 (t3.2.1.2.1 + (2 : Int))) t3.2.1.2.2.1)
       else
         (run_lexer_scanner_step (.start t3.2.1.1 t3.2.1.2.1 t3.2.1.2.2.1)) >>= fun t4 =>
         run_lexer_scanner_nested (.p197 from2 depth3 t4.2.1.1 t4.2.1.2.1 t4.2.1.2.2.1)
   else
     (run_lexer_scanner_fail (.start from2 (21 : Int) t1.2.1.1 t1.2.1.2.1 t1.2.1.2.2.1)) >>= fun t5 =>
     some ((), ((t5.2.1.1, (t5.2.1.2.1, (t5.2.1.2.2.1, ()))), ()))
 | .p197 from2 depth3 B0_0 B0_1 B0_2 =>
   if (depth3 == (0 : Int)) = true then
     if (B0_2 == (0 : Int)) = true then
       some ((), ((B0_0, (B0_1, (B0_2, ()))), ()))
     else
       run_lexer_scanner_nested (.p24 from2 depth3 B0_0 B0_1 B0_2)
   else
     run_lexer_scanner_nested (.p24 from2 depth3 B0_0 B0_1 B0_2)
  partial_fixpoint
noncomputable def tab_lexer_scanner_nested : List (Plc E P_lexer_scanner_nested) := [⟨24, [false, false, false, true], { slots := [0, 2, 3], rows := [], flat := [], keep := 1 }, (Unit × (Int × (Int × Unit))), ((ByteArray × (Int × (Int × Unit))) × Unit), (RdL.cons (Rd.bp 0 0) (RdL.cons (Rd.int .i64) (RdL.cons (Rd.int .i64) RdL.nil))), (RdBL.cons (RdB.var 67 (RdL.cons Rd.str (RdL.cons (Rd.int .i64) (RdL.cons (Rd.int .i64) RdL.nil)))) RdBL.nil), fun a b => .p24 a.2.1 a.2.2.1 b.1.1 b.1.2.1 b.1.2.2.1⟩,
  ⟨197, [true, false, true, false, false, false, true], { slots := [0, 2, 3], rows := [], flat := [], keep := 1 }, (Unit × (Int × (Int × Unit))), ((ByteArray × (Int × (Int × Unit))) × Unit), (RdL.cons (Rd.bp 0 0) (RdL.cons (Rd.int .i64) (RdL.cons (Rd.int .i64) RdL.nil))), (RdBL.cons (RdB.var 67 (RdL.cons Rd.str (RdL.cons (Rd.int .i64) (RdL.cons (Rd.int .i64) RdL.nil)))) RdBL.nil), fun a b => .p197 a.2.1 a.2.2.1 b.1.1 b.1.2.1 b.1.2.2.1⟩]
theorem tab_lexer_scanner_nested_ok : All (PlcOk 49 1 place_lexer_scanner_nested st_lexer_scanner_nested) tab_lexer_scanner_nested := ⟨⟨rfl, rfl, fun _ _ => rfl, fun _ _ => rfl⟩, ⟨⟨rfl, rfl, fun _ _ => rfl, fun _ _ => rfl⟩, trivial⟩⟩
noncomputable def code_lexer_scanner_nested : Code := Tryz.f86.body.getD .skip
noncomputable def spec_lexer_scanner_nested : Spec E.S := (Con.add con_lexer_scanner_fail (Con.add con_lexer_scanner_step (Con.add con_lexer_scanner_has (Con.add con_lexer_scanner_ended noSpec))))
theorem spec_lexer_scanner_nested_ok : SpecOk E spec_lexer_scanner_nested := (Con.add_ok con_lexer_scanner_fail_ok (Con.add_ok con_lexer_scanner_step_ok (Con.add_ok con_lexer_scanner_has_ok (Con.add_ok con_lexer_scanner_ended_ok noSpec_ok))))
theorem good_lexer_scanner_nested : ∀ pt r, run_lexer_scanner_nested pt = some r → Good E Tryz.f86 code_lexer_scanner_nested 1 (res_lexer_scanner_nested.av r) (res_lexer_scanner_nested.bx r) (place_lexer_scanner_nested pt) (st_lexer_scanner_nested pt) := by
  refine run_lexer_scanner_nested.partial_correctness (fun pt r => Good E Tryz.f86 code_lexer_scanner_nested 1 (res_lexer_scanner_nested.av r) (res_lexer_scanner_nested.bx r) (place_lexer_scanner_nested pt) (st_lexer_scanner_nested pt)) ?_
  intro run' ih pt r hr
  cases pt <;> exact fn_step (spec := spec_lexer_scanner_nested) (wr := (fun i => mem i [])) (l := tab_lexer_scanner_nested) (z := 49) (p := res_lexer_scanner_nested) E_ok tab_lexer_scanner_nested_ok.mem rfl spec_lexer_scanner_nested_ok ih (Eq.trans (by kernel_rfl) hr)
noncomputable def con_lexer_scanner_nested : Con E := ⟨86, (Unit × Unit), ((ByteArray × (Int × (Int × Unit))) × Unit), (RwL.cons (Rd.bp 0 0).w RwL.nil), (RdBL.cons (RdB.var 67 (RdL.cons Rd.str (RdL.cons (Rd.int .i64) (RdL.cons (Rd.int .i64) RdL.nil)))) RdBL.nil), 1, R_lexer_scanner_nested, fun a b => run_lexer_scanner_nested (.start b.1.1 b.1.2.1 b.1.2.2.1), res_lexer_scanner_nested.av, res_lexer_scanner_nested.bx⟩
theorem con_lexer_scanner_nested_ok : con_lexer_scanner_nested.Ok := fun a b r h => fn_ok (fn := Tryz.f86) (code := code_lexer_scanner_nested) E_ok (by kernel_rfl) (by kernel_rfl) (by kernel_rfl) (Nat.le_of_ble_eq_true rfl) (good_lexer_scanner_nested (.start b.1.1 b.1.2.1 b.1.2.2.1) r h)

/-! ### (*ratchet/lexer.scanner).comment -/
inductive P_lexer_scanner_comment where
 | start (B0_0 : ByteArray) (B0_1 : Int) (B0_2 : Int)
 | p200 (B0_0 : ByteArray) (B0_1 : Int) (B0_2 : Int)
noncomputable def place_lexer_scanner_comment : P_lexer_scanner_comment → List Bool
 | .start .. => []
 | .p200 .. => [false, false, false, true, false, false, true]
noncomputable def st_lexer_scanner_comment : P_lexer_scanner_comment → St E.S
 | .start B0_0 B0_1 B0_2 => st0 28 [.bp 0 0] [.var 67 [.v (.string B0_0), .v (.int .i64 B0_1), .v (.int .i64 B0_2)]]
 | .p200 B0_0 B0_1 B0_2 => mkSt 28 [0] [.bp 0 0] [.var 67 [.v (.string B0_0), .v (.int .i64 B0_1), .v (.int .i64 B0_2)]]
abbrev R_lexer_scanner_comment : Type := ((Bool × Unit) × ((ByteArray × (Int × (Int × Unit))) × Unit))
noncomputable def res_lexer_scanner_comment : Res E (Bool × Unit) ((ByteArray × (Int × (Int × Unit))) × Unit) := { rows := [], flat := [], keep := 1, rl := (RdL.cons Rd.bool RdL.nil), rb := (RdBL.cons (RdB.var 67 (RdL.cons Rd.str (RdL.cons (Rd.int .i64) (RdL.cons (Rd.int .i64) RdL.nil)))) RdBL.nil) }
noncomputable def run_lexer_scanner_comment : P_lexer_scanner_comment → Option R_lexer_scanner_comment
 | .start B0_0 B0_1 B0_2 =>
   (run_lexer_scanner_has (.start (⟨#[47, 47]⟩ : ByteArray) B0_0 B0_1 B0_2)) >>= fun t1 =>
   if t1.1.1 = true then
     run_lexer_scanner_comment (.p200 t1.2.1.1 t1.2.1.2.1 t1.2.1.2.2.1)
   else
     (run_lexer_scanner_has (.start (⟨#[47, 42]⟩ : ByteArray) t1.2.1.1 t1.2.1.2.1 t1.2.1.2.2.1)) >>= fun t2 =>
     if t2.1.1 = true then
       (run_lexer_scanner_nested (.start t2.2.1.1 t2.2.1.2.1 t2.2.1.2.2.1)) >>= fun t3 =>
       some ((true, ()), ((t3.2.1.1, (t3.2.1.2.1, (t3.2.1.2.2.1, ()))), ()))
     else
       some ((false, ()), ((t2.2.1.1, (t2.2.1.2.1, (t2.2.1.2.2.1, ()))), ()))
 | .p200 B0_0 B0_1 B0_2 =>
   (run_lexer_scanner_ended (.start B0_0 B0_1 B0_2)) >>= fun t1 =>
   if (!t1.1.1) = true then
     (sidx t1.2.1.1 t1.2.1.2.1) >>= fun t2 =>
     if (t2 != (10 : Int)) = true then
       (run_lexer_scanner_step (.start t1.2.1.1 t1.2.1.2.1 t1.2.1.2.2.1)) >>= fun t3 =>
       run_lexer_scanner_comment (.p200 t3.2.1.1 t3.2.1.2.1 t3.2.1.2.2.1)
     else
       some ((true, ()), ((t1.2.1.1, (t1.2.1.2.1, (t1.2.1.2.2.1, ()))), ()))
   else
     some ((true, ()), ((t1.2.1.1, (t1.2.1.2.1, (t1.2.1.2.2.1, ()))), ()))
  partial_fixpoint
noncomputable def tab_lexer_scanner_comment : List (Plc E P_lexer_scanner_comment) := [⟨200, [false, false, false, true, false, false, true], { slots := [0], rows := [], flat := [], keep := 1 }, (Unit × Unit), ((ByteArray × (Int × (Int × Unit))) × Unit), (RdL.cons (Rd.bp 0 0) RdL.nil), (RdBL.cons (RdB.var 67 (RdL.cons Rd.str (RdL.cons (Rd.int .i64) (RdL.cons (Rd.int .i64) RdL.nil)))) RdBL.nil), fun a b => .p200 b.1.1 b.1.2.1 b.1.2.2.1⟩]
theorem tab_lexer_scanner_comment_ok : All (PlcOk 28 1 place_lexer_scanner_comment st_lexer_scanner_comment) tab_lexer_scanner_comment := ⟨⟨rfl, rfl, fun _ _ => rfl, fun _ _ => rfl⟩, trivial⟩
noncomputable def code_lexer_scanner_comment : Code := Tryz.f49.body.getD .skip
noncomputable def spec_lexer_scanner_comment : Spec E.S := (Con.add con_lexer_scanner_step (Con.add con_lexer_scanner_ended (Con.add con_lexer_scanner_nested (Con.add con_lexer_scanner_has noSpec))))
theorem spec_lexer_scanner_comment_ok : SpecOk E spec_lexer_scanner_comment := (Con.add_ok con_lexer_scanner_step_ok (Con.add_ok con_lexer_scanner_ended_ok (Con.add_ok con_lexer_scanner_nested_ok (Con.add_ok con_lexer_scanner_has_ok noSpec_ok))))
theorem good_lexer_scanner_comment : ∀ pt r, run_lexer_scanner_comment pt = some r → Good E Tryz.f49 code_lexer_scanner_comment 1 (res_lexer_scanner_comment.av r) (res_lexer_scanner_comment.bx r) (place_lexer_scanner_comment pt) (st_lexer_scanner_comment pt) := by
  refine run_lexer_scanner_comment.partial_correctness (fun pt r => Good E Tryz.f49 code_lexer_scanner_comment 1 (res_lexer_scanner_comment.av r) (res_lexer_scanner_comment.bx r) (place_lexer_scanner_comment pt) (st_lexer_scanner_comment pt)) ?_
  intro run' ih pt r hr
  cases pt <;> exact fn_step (spec := spec_lexer_scanner_comment) (wr := (fun i => mem i [])) (l := tab_lexer_scanner_comment) (z := 28) (p := res_lexer_scanner_comment) E_ok tab_lexer_scanner_comment_ok.mem rfl spec_lexer_scanner_comment_ok ih (Eq.trans (by kernel_rfl) hr)
noncomputable def con_lexer_scanner_comment : Con E := ⟨49, (Unit × Unit), ((ByteArray × (Int × (Int × Unit))) × Unit), (RwL.cons (Rd.bp 0 0).w RwL.nil), (RdBL.cons (RdB.var 67 (RdL.cons Rd.str (RdL.cons (Rd.int .i64) (RdL.cons (Rd.int .i64) RdL.nil)))) RdBL.nil), 1, R_lexer_scanner_comment, fun a b => run_lexer_scanner_comment (.start b.1.1 b.1.2.1 b.1.2.2.1), res_lexer_scanner_comment.av, res_lexer_scanner_comment.bx⟩
theorem con_lexer_scanner_comment_ok : con_lexer_scanner_comment.Ok := fun a b r h => fn_ok (fn := Tryz.f49) (code := code_lexer_scanner_comment) E_ok (by kernel_rfl) (by kernel_rfl) (by kernel_rfl) (Nat.le_of_ble_eq_true rfl) (good_lexer_scanner_comment (.start b.1.1 b.1.2.1 b.1.2.2.1) r h)

/-! ### (*ratchet/lexer.scanner).skip -/
inductive P_lexer_scanner_skip where
 | start (B0_0 : ByteArray) (B0_1 : Int) (B0_2 : Int)
 | p4 (B0_0 : ByteArray) (B0_1 : Int) (B0_2 : Int)
noncomputable def place_lexer_scanner_skip : P_lexer_scanner_skip → List Bool
 | .start .. => []
 | .p4 .. => [false, false]
noncomputable def st_lexer_scanner_skip : P_lexer_scanner_skip → St E.S
 | .start B0_0 B0_1 B0_2 => st0 27 [.bp 0 0] [.var 67 [.v (.string B0_0), .v (.int .i64 B0_1), .v (.int .i64 B0_2)]]
 | .p4 B0_0 B0_1 B0_2 => mkSt 27 [0] [.bp 0 0] [.var 67 [.v (.string B0_0), .v (.int .i64 B0_1), .v (.int .i64 B0_2)]]
abbrev R_lexer_scanner_skip : Type := (Unit × ((ByteArray × (Int × (Int × Unit))) × Unit))
noncomputable def res_lexer_scanner_skip : Res E Unit ((ByteArray × (Int × (Int × Unit))) × Unit) := { rows := [], flat := [], keep := 1, rl := RdL.nil, rb := (RdBL.cons (RdB.var 67 (RdL.cons Rd.str (RdL.cons (Rd.int .i64) (RdL.cons (Rd.int .i64) RdL.nil)))) RdBL.nil) }
noncomputable def run_lexer_scanner_skip : P_lexer_scanner_skip → Option R_lexer_scanner_skip
 | .start B0_0 B0_1 B0_2 =>
   run_lexer_scanner_skip (.p4 B0_0 B0_1 B0_2)
 | .p4 B0_0 B0_1 B0_2 =>
   (run_lexer_scanner_ended (.start B0_0 B0_1 B0_2)) >>= fun t1 =>
   if (!t1.1.1) = true then
     (sidx t1.2.1.1 t1.2.1.2.1) >>= fun t2 =>
     (run_lexer_isSpace (.start t2)) >>= fun t3 =>
     if t3.1.1 = true then
       run_lexer_scanner_skip (.p4 t1.2.1.1 (IntKind.wrap .i64 (t1.2.1.2.1 + (1 : Int))) t1.2.1.2.2.1)
     else
       (run_lexer_scanner_comment (.start t1.2.1.1 t1.2.1.2.1 t1.2.1.2.2.1)) >>= fun t4 =>
       if (!t4.1.1) = true then
         some ((), ((t4.2.1.1, (t4.2.1.2.1, (t4.2.1.2.2.1, ()))), ()))
       else
         run_lexer_scanner_skip (.p4 t4.2.1.1 t4.2.1.2.1 t4.2.1.2.2.1)
   else
     some ((), ((t1.2.1.1, (t1.2.1.2.1, (t1.2.1.2.2.1, ()))), ()))
  partial_fixpoint
noncomputable def tab_lexer_scanner_skip : List (Plc E P_lexer_scanner_skip) := [⟨4, [false, false], { slots := [0], rows := [], flat := [], keep := 1 }, (Unit × Unit), ((ByteArray × (Int × (Int × Unit))) × Unit), (RdL.cons (Rd.bp 0 0) RdL.nil), (RdBL.cons (RdB.var 67 (RdL.cons Rd.str (RdL.cons (Rd.int .i64) (RdL.cons (Rd.int .i64) RdL.nil)))) RdBL.nil), fun a b => .p4 b.1.1 b.1.2.1 b.1.2.2.1⟩]
theorem tab_lexer_scanner_skip_ok : All (PlcOk 27 1 place_lexer_scanner_skip st_lexer_scanner_skip) tab_lexer_scanner_skip := ⟨⟨rfl, rfl, fun _ _ => rfl, fun _ _ => rfl⟩, trivial⟩
noncomputable def code_lexer_scanner_skip : Code := Tryz.f26.body.getD .skip
noncomputable def spec_lexer_scanner_skip : Spec E.S := (Con.add con_lexer_scanner_comment (Con.add con_lexer_isSpace (Con.add con_lexer_scanner_ended noSpec)))
theorem spec_lexer_scanner_skip_ok : SpecOk E spec_lexer_scanner_skip := (Con.add_ok con_lexer_scanner_comment_ok (Con.add_ok con_lexer_isSpace_ok (Con.add_ok con_lexer_scanner_ended_ok noSpec_ok)))
theorem good_lexer_scanner_skip : ∀ pt r, run_lexer_scanner_skip pt = some r → Good E Tryz.f26 code_lexer_scanner_skip 1 (res_lexer_scanner_skip.av r) (res_lexer_scanner_skip.bx r) (place_lexer_scanner_skip pt) (st_lexer_scanner_skip pt) := by
  refine run_lexer_scanner_skip.partial_correctness (fun pt r => Good E Tryz.f26 code_lexer_scanner_skip 1 (res_lexer_scanner_skip.av r) (res_lexer_scanner_skip.bx r) (place_lexer_scanner_skip pt) (st_lexer_scanner_skip pt)) ?_
  intro run' ih pt r hr
  cases pt <;> exact fn_step (spec := spec_lexer_scanner_skip) (wr := (fun i => mem i [])) (l := tab_lexer_scanner_skip) (z := 27) (p := res_lexer_scanner_skip) E_ok tab_lexer_scanner_skip_ok.mem rfl spec_lexer_scanner_skip_ok ih (Eq.trans (by kernel_rfl) hr)
noncomputable def con_lexer_scanner_skip : Con E := ⟨26, (Unit × Unit), ((ByteArray × (Int × (Int × Unit))) × Unit), (RwL.cons (Rd.bp 0 0).w RwL.nil), (RdBL.cons (RdB.var 67 (RdL.cons Rd.str (RdL.cons (Rd.int .i64) (RdL.cons (Rd.int .i64) RdL.nil)))) RdBL.nil), 1, R_lexer_scanner_skip, fun a b => run_lexer_scanner_skip (.start b.1.1 b.1.2.1 b.1.2.2.1), res_lexer_scanner_skip.av, res_lexer_scanner_skip.bx⟩
theorem con_lexer_scanner_skip_ok : con_lexer_scanner_skip.Ok := fun a b r h => fn_ok (fn := Tryz.f26) (code := code_lexer_scanner_skip) E_ok (by kernel_rfl) (by kernel_rfl) (by kernel_rfl) (Nat.le_of_ble_eq_true rfl) (good_lexer_scanner_skip (.start b.1.1 b.1.2.1 b.1.2.2.1) r h)

/-! ### ratchet/lexer.isCapital -/
inductive P_lexer_isCapital where
 | start (c0 : Int)
noncomputable def place_lexer_isCapital : P_lexer_isCapital → List Bool
 | .start .. => []
noncomputable def st_lexer_isCapital : P_lexer_isCapital → St E.S
 | .start c0 => st0 9 [.v (.int .u8 c0)] []
abbrev R_lexer_isCapital : Type := ((Bool × Unit) × Unit)
noncomputable def res_lexer_isCapital : Res E (Bool × Unit) Unit := { rows := [], flat := [], keep := 0, rl := (RdL.cons Rd.bool RdL.nil), rb := RdBL.nil }
noncomputable def run_lexer_isCapital : P_lexer_isCapital → Option R_lexer_isCapital
 | .start c0 =>
   if (decide ((65 : Int) ≤ c0)) = true then
     some ((decide (c0 ≤ (90 : Int)), ()), ())
   else
     some ((false, ()), ())
noncomputable def tab_lexer_isCapital : List (Plc E P_lexer_isCapital) := []
theorem tab_lexer_isCapital_ok : All (PlcOk 9 0 place_lexer_isCapital st_lexer_isCapital) tab_lexer_isCapital := trivial
noncomputable def code_lexer_isCapital : Code := Tryz.f91.body.getD .skip
noncomputable def spec_lexer_isCapital : Spec E.S := noSpec
theorem spec_lexer_isCapital_ok : SpecOk E spec_lexer_isCapital := noSpec_ok
theorem good_lexer_isCapital : ∀ pt r, run_lexer_isCapital pt = some r → Good E Tryz.f91 code_lexer_isCapital 0 (res_lexer_isCapital.av r) (res_lexer_isCapital.bx r) (place_lexer_isCapital pt) (st_lexer_isCapital pt) := by
  intro pt r hr
  cases pt <;> exact fn_step (spec := spec_lexer_isCapital) (wr := (fun i => mem i [])) (l := tab_lexer_isCapital) (z := 9) (p := res_lexer_isCapital) (run' := fun _ => none) E_ok tab_lexer_isCapital_ok.mem rfl spec_lexer_isCapital_ok (fun _ _ h => by cases h) (Eq.trans (by kernel_rfl) hr)
noncomputable def con_lexer_isCapital : Con E := ⟨91, (Int × Unit), Unit, (RwL.cons (Rd.int .u8).w RwL.nil), RdBL.nil, 0, R_lexer_isCapital, fun a b => run_lexer_isCapital (.start a.1), res_lexer_isCapital.av, res_lexer_isCapital.bx⟩
theorem con_lexer_isCapital_ok : con_lexer_isCapital.Ok := fun a b r h => fn_ok (fn := Tryz.f91) (code := code_lexer_isCapital) E_ok (by kernel_rfl) (by kernel_rfl) (by kernel_rfl) (Nat.le_of_ble_eq_true rfl) (good_lexer_isCapital (.start a.1) r h)

/-! ### ratchet/lexer.isLetter -/
inductive P_lexer_isLetter where
 | start (c0 : Int)
noncomputable def place_lexer_isLetter : P_lexer_isLetter → List Bool
 | .start .. => []
noncomputable def st_lexer_isLetter : P_lexer_isLetter → St E.S
 | .start c0 => st0 13 [.v (.int .u8 c0)] []
abbrev R_lexer_isLetter : Type := ((Bool × Unit) × Unit)
noncomputable def res_lexer_isLetter : Res E (Bool × Unit) Unit := { rows := [], flat := [], keep := 0, rl := (RdL.cons Rd.bool RdL.nil), rb := RdBL.nil }
noncomputable def run_lexer_isLetter : P_lexer_isLetter → Option R_lexer_isLetter
 | .start c0 =>
   (run_lexer_isCapital (.start c0)) >>= fun t1 =>
   if t1.1.1 = true then
     some ((true, ()), ())
   else
     if (decide ((97 : Int) ≤ c0)) = true then
       some ((decide (c0 ≤ (122 : Int)), ()), ())
     else
       some ((false, ()), ())
noncomputable def tab_lexer_isLetter : List (Plc E P_lexer_isLetter) := []
theorem tab_lexer_isLetter_ok : All (PlcOk 13 0 place_lexer_isLetter st_lexer_isLetter) tab_lexer_isLetter := trivial
noncomputable def code_lexer_isLetter : Code := Tryz.f54.body.getD .skip
noncomputable def spec_lexer_isLetter : Spec E.S := (Con.add con_lexer_isCapital noSpec)
theorem spec_lexer_isLetter_ok : SpecOk E spec_lexer_isLetter := (Con.add_ok con_lexer_isCapital_ok noSpec_ok)
theorem good_lexer_isLetter : ∀ pt r, run_lexer_isLetter pt = some r → Good E Tryz.f54 code_lexer_isLetter 0 (res_lexer_isLetter.av r) (res_lexer_isLetter.bx r) (place_lexer_isLetter pt) (st_lexer_isLetter pt) := by
  intro pt r hr
  cases pt <;> exact fn_step (spec := spec_lexer_isLetter) (wr := (fun i => mem i [])) (l := tab_lexer_isLetter) (z := 13) (p := res_lexer_isLetter) (run' := fun _ => none) E_ok tab_lexer_isLetter_ok.mem rfl spec_lexer_isLetter_ok (fun _ _ h => by cases h) (Eq.trans (by kernel_rfl) hr)
noncomputable def con_lexer_isLetter : Con E := ⟨54, (Int × Unit), Unit, (RwL.cons (Rd.int .u8).w RwL.nil), RdBL.nil, 0, R_lexer_isLetter, fun a b => run_lexer_isLetter (.start a.1), res_lexer_isLetter.av, res_lexer_isLetter.bx⟩
theorem con_lexer_isLetter_ok : con_lexer_isLetter.Ok := fun a b r h => fn_ok (fn := Tryz.f54) (code := code_lexer_isLetter) E_ok (by kernel_rfl) (by kernel_rfl) (by kernel_rfl) (Nat.le_of_ble_eq_true rfl) (good_lexer_isLetter (.start a.1) r h)

/-! ### ratchet/lexer.isDigit -/
inductive P_lexer_isDigit where
 | start (c0 : Int)
noncomputable def place_lexer_isDigit : P_lexer_isDigit → List Bool
 | .start .. => []
noncomputable def st_lexer_isDigit : P_lexer_isDigit → St E.S
 | .start c0 => st0 9 [.v (.int .u8 c0)] []
abbrev R_lexer_isDigit : Type := ((Bool × Unit) × Unit)
noncomputable def res_lexer_isDigit : Res E (Bool × Unit) Unit := { rows := [], flat := [], keep := 0, rl := (RdL.cons Rd.bool RdL.nil), rb := RdBL.nil }
noncomputable def run_lexer_isDigit : P_lexer_isDigit → Option R_lexer_isDigit
 | .start c0 =>
   if (decide ((48 : Int) ≤ c0)) = true then
     some ((decide (c0 ≤ (57 : Int)), ()), ())
   else
     some ((false, ()), ())
noncomputable def tab_lexer_isDigit : List (Plc E P_lexer_isDigit) := []
theorem tab_lexer_isDigit_ok : All (PlcOk 9 0 place_lexer_isDigit st_lexer_isDigit) tab_lexer_isDigit := trivial
noncomputable def code_lexer_isDigit : Code := Tryz.f56.body.getD .skip
noncomputable def spec_lexer_isDigit : Spec E.S := noSpec
theorem spec_lexer_isDigit_ok : SpecOk E spec_lexer_isDigit := noSpec_ok
theorem good_lexer_isDigit : ∀ pt r, run_lexer_isDigit pt = some r → Good E Tryz.f56 code_lexer_isDigit 0 (res_lexer_isDigit.av r) (res_lexer_isDigit.bx r) (place_lexer_isDigit pt) (st_lexer_isDigit pt) := by
  intro pt r hr
  cases pt <;> exact fn_step (spec := spec_lexer_isDigit) (wr := (fun i => mem i [])) (l := tab_lexer_isDigit) (z := 9) (p := res_lexer_isDigit) (run' := fun _ => none) E_ok tab_lexer_isDigit_ok.mem rfl spec_lexer_isDigit_ok (fun _ _ h => by cases h) (Eq.trans (by kernel_rfl) hr)
noncomputable def con_lexer_isDigit : Con E := ⟨56, (Int × Unit), Unit, (RwL.cons (Rd.int .u8).w RwL.nil), RdBL.nil, 0, R_lexer_isDigit, fun a b => run_lexer_isDigit (.start a.1), res_lexer_isDigit.av, res_lexer_isDigit.bx⟩
theorem con_lexer_isDigit_ok : con_lexer_isDigit.Ok := fun a b r h => fn_ok (fn := Tryz.f56) (code := code_lexer_isDigit) E_ok (by kernel_rfl) (by kernel_rfl) (by kernel_rfl) (Nat.le_of_ble_eq_true rfl) (good_lexer_isDigit (.start a.1) r h)

/-! ### ratchet/lexer.isWord -/
inductive P_lexer_isWord where
 | start (c0 : Int)
noncomputable def place_lexer_isWord : P_lexer_isWord → List Bool
 | .start .. => []
noncomputable def st_lexer_isWord : P_lexer_isWord → St E.S
 | .start c0 => st0 13 [.v (.int .u8 c0)] []
abbrev R_lexer_isWord : Type := ((Bool × Unit) × Unit)
noncomputable def res_lexer_isWord : Res E (Bool × Unit) Unit := { rows := [], flat := [], keep := 0, rl := (RdL.cons Rd.bool RdL.nil), rb := RdBL.nil }
noncomputable def run_lexer_isWord : P_lexer_isWord → Option R_lexer_isWord
 | .start c0 =>
   (run_lexer_isLetter (.start c0)) >>= fun t1 =>
   if t1.1.1 = true then
     some ((true, ()), ())
   else
     (run_lexer_isDigit (.start c0)) >>= fun t2 =>
     if t2.1.1 = true then
       some ((true, ()), ())
     else
       some ((c0 == (95 : Int), ()), ())
noncomputable def tab_lexer_isWord : List (Plc E P_lexer_isWord) := []
theorem tab_lexer_isWord_ok : All (PlcOk 13 0 place_lexer_isWord st_lexer_isWord) tab_lexer_isWord := trivial
noncomputable def code_lexer_isWord : Code := Tryz.f59.body.getD .skip
noncomputable def spec_lexer_isWord : Spec E.S := (Con.add con_lexer_isDigit (Con.add con_lexer_isLetter noSpec))
theorem spec_lexer_isWord_ok : SpecOk E spec_lexer_isWord := (Con.add_ok con_lexer_isDigit_ok (Con.add_ok con_lexer_isLetter_ok noSpec_ok))
theorem good_lexer_isWord : ∀ pt r, run_lexer_isWord pt = some r → Good E Tryz.f59 code_lexer_isWord 0 (res_lexer_isWord.av r) (res_lexer_isWord.bx r) (place_lexer_isWord pt) (st_lexer_isWord pt) := by
  intro pt r hr
  cases pt <;> exact fn_step (spec := spec_lexer_isWord) (wr := (fun i => mem i [])) (l := tab_lexer_isWord) (z := 13) (p := res_lexer_isWord) (run' := fun _ => none) E_ok tab_lexer_isWord_ok.mem rfl spec_lexer_isWord_ok (fun _ _ h => by cases h) (Eq.trans (by kernel_rfl) hr)
noncomputable def con_lexer_isWord : Con E := ⟨59, (Int × Unit), Unit, (RwL.cons (Rd.int .u8).w RwL.nil), RdBL.nil, 0, R_lexer_isWord, fun a b => run_lexer_isWord (.start a.1), res_lexer_isWord.av, res_lexer_isWord.bx⟩
theorem con_lexer_isWord_ok : con_lexer_isWord.Ok := fun a b r h => fn_ok (fn := Tryz.f59) (code := code_lexer_isWord) E_ok (by kernel_rfl) (by kernel_rfl) (by kernel_rfl) (Nat.le_of_ble_eq_true rfl) (good_lexer_isWord (.start a.1) r h)

/-! ### (*ratchet/lexer.scanner).run$1 -/
inductive P_lexer_scanner_run_1 where
 | start (r0 : Int)
noncomputable def place_lexer_scanner_run_1 : P_lexer_scanner_run_1 → List Bool
 | .start .. => []
noncomputable def st_lexer_scanner_run_1 : P_lexer_scanner_run_1 → St E.S
 | .start r0 => st0 13 [.v (.int .i32 r0), .bp 0 0] [.var 95 [.fn 59 []]]
abbrev R_lexer_scanner_run_1 : Type := ((Bool × Unit) × ((Unit × Unit) × Unit))
noncomputable def res_lexer_scanner_run_1 : Res E (Bool × Unit) ((Unit × Unit) × Unit) := { rows := [], flat := [], keep := 1, rl := (RdL.cons Rd.bool RdL.nil), rb := (RdBL.cons (RdB.var 95 (RdL.cons (Rd.fn 59 RdL.nil) RdL.nil)) RdBL.nil) }
noncomputable def run_lexer_scanner_run_1 : P_lexer_scanner_run_1 → Option R_lexer_scanner_run_1
 | .start r0 =>
   if (decide (r0 > (126 : Int))) = true then
     some ((true, ()), (((), ()), ()))
   else
     (run_lexer_isWord (.start (IntKind.wrap .u8 r0))) >>= fun t1 =>
     some ((!t1.1.1, ()), (((), ()), ()))
noncomputable def tab_lexer_scanner_run_1 : List (Plc E P_lexer_scanner_run_1) := []
theorem tab_lexer_scanner_run_1_ok : All (PlcOk 13 1 place_lexer_scanner_run_1 st_lexer_scanner_run_1) tab_lexer_scanner_run_1 := trivial
noncomputable def code_lexer_scanner_run_1 : Code := Tryz.f94.body.getD .skip
noncomputable def spec_lexer_scanner_run_1 : Spec E.S := (Con.add con_lexer_isWord noSpec)
theorem spec_lexer_scanner_run_1_ok : SpecOk E spec_lexer_scanner_run_1 := (Con.add_ok con_lexer_isWord_ok noSpec_ok)
theorem good_lexer_scanner_run_1 : ∀ pt r, run_lexer_scanner_run_1 pt = some r → Good E Tryz.f94 code_lexer_scanner_run_1 1 (res_lexer_scanner_run_1.av r) (res_lexer_scanner_run_1.bx r) (place_lexer_scanner_run_1 pt) (st_lexer_scanner_run_1 pt) := by
  intro pt r hr
  cases pt <;> exact fn_step (spec := spec_lexer_scanner_run_1) (wr := (fun i => mem i [])) (l := tab_lexer_scanner_run_1) (z := 13) (p := res_lexer_scanner_run_1) (run' := fun _ => none) E_ok tab_lexer_scanner_run_1_ok.mem rfl spec_lexer_scanner_run_1_ok (fun _ _ h => by cases h) (Eq.trans (by kernel_rfl) hr)
noncomputable def con_lexer_scanner_run_1 : Con E := ⟨94, (Int × (Unit × Unit)), ((Unit × Unit) × Unit), (RwL.cons (Rd.int .i32).w (RwL.cons (Rd.bp 0 0).w RwL.nil)), (RdBL.cons (RdB.var 95 (RdL.cons (Rd.fn 59 RdL.nil) RdL.nil)) RdBL.nil), 1, R_lexer_scanner_run_1, fun a b => run_lexer_scanner_run_1 (.start a.1), res_lexer_scanner_run_1.av, res_lexer_scanner_run_1.bx⟩
theorem con_lexer_scanner_run_1_ok : con_lexer_scanner_run_1.Ok := fun a b r h => fn_ok (fn := Tryz.f94) (code := code_lexer_scanner_run_1) E_ok (by kernel_rfl) (by kernel_rfl) (by kernel_rfl) (Nat.le_of_ble_eq_true rfl) (good_lexer_scanner_run_1 (.start a.1) r h)

/-! ### strings.indexFunc -/
inductive P_strings_indexFunc where
 | start (s0 : ByteArray) (truth2 : Bool)
 | p52 (truth2 : Bool) (B1_0 : ByteArray) (B1_1 : Nat)
noncomputable def place_strings_indexFunc : P_strings_indexFunc → List Bool
 | .start .. => []
 | .p52 .. => [false, false, true, false, true]
noncomputable def st_strings_indexFunc : P_strings_indexFunc → St E.S
 | .start s0 truth2 => st0 21 [.v (.string s0), .fn 94 [.bp 0 0], .v (.bool truth2)] [.var 95 [.fn 59 []]]
 | .p52 truth2 B1_0 B1_1 => mkSt 21 [1, 2, 10] [.fn 94 [.bp 0 0], .v (.bool truth2), .bp 1 0] [.var 95 [.fn 59 []], .iter B1_0 B1_1]
abbrev R_strings_indexFunc : Type := ((Int × Unit) × ((Unit × Unit) × Unit))
noncomputable def res_strings_indexFunc : Res E (Int × Unit) ((Unit × Unit) × Unit) := { rows := [], flat := [], keep := 1, rl := (RdL.cons (Rd.int .i64) RdL.nil), rb := (RdBL.cons (RdB.var 95 (RdL.cons (Rd.fn 59 RdL.nil) RdL.nil)) RdBL.nil) }
noncomputable def run_strings_indexFunc : P_strings_indexFunc → Option R_strings_indexFunc
 | .start s0 truth2 =>
   run_strings_indexFunc (.p52 truth2 s0 (0 : Nat))
 | .p52 truth2 B1_0 B1_1 =>
   if (decide (B1_1 < B1_0.size)) = true then
     (run_lexer_scanner_run_1 (.start ((Utf8.decode B1_0 B1_1).1 : Int))) >>= fun t1 =>
     if (t1.1.1 == truth2) = true then
       some (((B1_1 : Int), ()), (((), ()), ()))
     else
       run_strings_indexFunc (.p52 truth2 B1_0 (B1_1 + (Utf8.decode B1_0 B1_1).2))
   else
     some (((-1 : Int), ()), (((), ()), ()))
  partial_fixpoint
noncomputable def tab_strings_indexFunc : List (Plc E P_strings_indexFunc) := [⟨52, [false, false, true, false, true], { slots := [1, 2, 10], rows := [], flat := [], keep := 1 }, ((Unit × Unit) × (Bool × (Unit × Unit))), ((Unit × Unit) × ((ByteArray × (Nat × Unit)) × Unit)), (RdL.cons (Rd.fn 94 (RdL.cons (Rd.bp 0 0) RdL.nil)) (RdL.cons Rd.bool (RdL.cons (Rd.bp 1 0) RdL.nil))), (RdBL.cons (RdB.var 95 (RdL.cons (Rd.fn 59 RdL.nil) RdL.nil)) (RdBL.cons RdB.iter RdBL.nil)), fun a b => .p52 a.2.1 b.2.1.1 b.2.1.2.1⟩]
theorem tab_strings_indexFunc_ok : All (PlcOk 21 1 place_strings_indexFunc st_strings_indexFunc) tab_strings_indexFunc := ⟨⟨rfl, rfl, fun _ _ => rfl, fun _ _ => rfl⟩, trivial⟩
noncomputable def code_strings_indexFunc : Code := Tryz.f114.body.getD .skip
noncomputable def spec_strings_indexFunc : Spec E.S := (Con.add con_lexer_scanner_run_1 noSpec)
theorem spec_strings_indexFunc_ok : SpecOk E spec_strings_indexFunc := (Con.add_ok con_lexer_scanner_run_1_ok noSpec_ok)
theorem good_strings_indexFunc : ∀ pt r, run_strings_indexFunc pt = some r → Good E Tryz.f114 code_strings_indexFunc 1 (res_strings_indexFunc.av r) (res_strings_indexFunc.bx r) (place_strings_indexFunc pt) (st_strings_indexFunc pt) := by
  refine run_strings_indexFunc.partial_correctness (fun pt r => Good E Tryz.f114 code_strings_indexFunc 1 (res_strings_indexFunc.av r) (res_strings_indexFunc.bx r) (place_strings_indexFunc pt) (st_strings_indexFunc pt)) ?_
  intro run' ih pt r hr
  cases pt <;> exact fn_step (spec := spec_strings_indexFunc) (wr := (fun i => mem i [])) (l := tab_strings_indexFunc) (z := 21) (p := res_strings_indexFunc) E_ok tab_strings_indexFunc_ok.mem rfl spec_strings_indexFunc_ok ih (Eq.trans (by kernel_rfl) hr)
noncomputable def con_strings_indexFunc : Con E := ⟨114, (ByteArray × ((Unit × Unit) × (Bool × Unit))), ((Unit × Unit) × Unit), (RwL.cons Rd.str.w (RwL.cons (Rd.fn 94 (RdL.cons (Rd.bp 0 0) RdL.nil)).w (RwL.cons Rd.bool.w RwL.nil))), (RdBL.cons (RdB.var 95 (RdL.cons (Rd.fn 59 RdL.nil) RdL.nil)) RdBL.nil), 1, R_strings_indexFunc, fun a b => run_strings_indexFunc (.start a.1 a.2.2.1), res_strings_indexFunc.av, res_strings_indexFunc.bx⟩
theorem con_strings_indexFunc_ok : con_strings_indexFunc.Ok := fun a b r h => fn_ok (fn := Tryz.f114) (code := code_strings_indexFunc) E_ok (by kernel_rfl) (by kernel_rfl) (by kernel_rfl) (Nat.le_of_ble_eq_true rfl) (good_strings_indexFunc (.start a.1 a.2.2.1) r h)

/-! ### strings.IndexFunc -/
inductive P_strings_IndexFunc where
 | start (s0 : ByteArray)
noncomputable def place_strings_IndexFunc : P_strings_IndexFunc → List Bool
 | .start .. => []
noncomputable def st_strings_IndexFunc : P_strings_IndexFunc → St E.S
 | .start s0 => st0 8 [.v (.string s0), .fn 94 [.bp 0 0]] [.var 95 [.fn 59 []]]
abbrev R_strings_IndexFunc : Type := ((Int × Unit) × ((Unit × Unit) × Unit))
noncomputable def res_strings_IndexFunc : Res E (Int × Unit) ((Unit × Unit) × Unit) := { rows := [], flat := [], keep := 1, rl := (RdL.cons (Rd.int .i64) RdL.nil), rb := (RdBL.cons (RdB.var 95 (RdL.cons (Rd.fn 59 RdL.nil) RdL.nil)) RdBL.nil) }
noncomputable def run_strings_IndexFunc : P_strings_IndexFunc → Option R_strings_IndexFunc
 | .start s0 =>
   (run_strings_indexFunc (.start s0 true)) >>= fun t1 =>
   some ((t1.1.1, ()), (((), ()), ()))
noncomputable def tab_strings_IndexFunc : List (Plc E P_strings_IndexFunc) := []
theorem tab_strings_IndexFunc_ok : All (PlcOk 8 1 place_strings_IndexFunc st_strings_IndexFunc) tab_strings_IndexFunc := trivial
noncomputable def code_strings_IndexFunc : Code := Tryz.f93.body.getD .skip
noncomputable def spec_strings_IndexFunc : Spec E.S := (Con.add con_strings_indexFunc noSpec)
theorem spec_strings_IndexFunc_ok : SpecOk E spec_strings_IndexFunc := (Con.add_ok con_strings_indexFunc_ok noSpec_ok)
theorem good_strings_IndexFunc : ∀ pt r, run_strings_IndexFunc pt = some r → Good E Tryz.f93 code_strings_IndexFunc 1 (res_strings_IndexFunc.av r) (res_strings_IndexFunc.bx r) (place_strings_IndexFunc pt) (st_strings_IndexFunc pt) := by
  intro pt r hr
  cases pt <;> exact fn_step (spec := spec_strings_IndexFunc) (wr := (fun i => mem i [])) (l := tab_strings_IndexFunc) (z := 8) (p := res_strings_IndexFunc) (run' := fun _ => none) E_ok tab_strings_IndexFunc_ok.mem rfl spec_strings_IndexFunc_ok (fun _ _ h => by cases h) (Eq.trans (by kernel_rfl) hr)
noncomputable def con_strings_IndexFunc : Con E := ⟨93, (ByteArray × ((Unit × Unit) × Unit)), ((Unit × Unit) × Unit), (RwL.cons Rd.str.w (RwL.cons (Rd.fn 94 (RdL.cons (Rd.bp 0 0) RdL.nil)).w RwL.nil)), (RdBL.cons (RdB.var 95 (RdL.cons (Rd.fn 59 RdL.nil) RdL.nil)) RdBL.nil), 1, R_strings_IndexFunc, fun a b => run_strings_IndexFunc (.start a.1), res_strings_IndexFunc.av, res_strings_IndexFunc.bx⟩
theorem con_strings_IndexFunc_ok : con_strings_IndexFunc.Ok := fun a b r h => fn_ok (fn := Tryz.f93) (code := code_strings_IndexFunc) E_ok (by kernel_rfl) (by kernel_rfl) (by kernel_rfl) (Nat.le_of_ble_eq_true rfl) (good_strings_IndexFunc (.start a.1) r h)

/-! ### (*ratchet/lexer.scanner).run -/
inductive P_lexer_scanner_run where
 | start (B0_0 : ByteArray) (B0_1 : Int) (B0_2 : Int)
noncomputable def place_lexer_scanner_run : P_lexer_scanner_run → List Bool
 | .start .. => []
noncomputable def st_lexer_scanner_run : P_lexer_scanner_run → St E.S
 | .start B0_0 B0_1 B0_2 => st0 25 [.bp 0 0, .fn 59 []] [.var 67 [.v (.string B0_0), .v (.int .i64 B0_1), .v (.int .i64 B0_2)]]
abbrev R_lexer_scanner_run : Type := ((ByteArray × Unit) × ((ByteArray × (Int × (Int × Unit))) × Unit))
noncomputable def res_lexer_scanner_run : Res E (ByteArray × Unit) ((ByteArray × (Int × (Int × Unit))) × Unit) := { rows := [], flat := [], keep := 1, rl := (RdL.cons Rd.str RdL.nil), rb := (RdBL.cons (RdB.var 67 (RdL.cons Rd.str (RdL.cons (Rd.int .i64) (RdL.cons (Rd.int .i64) RdL.nil)))) RdBL.nil) }
noncomputable def run_lexer_scanner_run : P_lexer_scanner_run → Option R_lexer_scanner_run
 | .start B0_0 B0_1 B0_2 =>
   (span B0_0.size B0_1 (B0_0.size : Int)) >>= fun t1 =>
   (run_strings_IndexFunc (.start (B0_0.extract t1.1 t1.2))) >>= fun t2 =>
   if (decide (t2.1.1 ≥ (0 : Int))) = true then
     (span (B0_0.extract t1.1 t1.2).size (0 : Int) t2.1.1) >>= fun t3 =>
     some (((B0_0.extract t1.1 t1.2).extract t3.1 t3.2, ()), ((B0_0, (B0_1, (B0_2, ()))), ()))
   else
     some ((B0_0.extract t1.1 t1.2, ()), ((B0_0, (B0_1, (B0_2, ()))), ()))
noncomputable def tab_lexer_scanner_run : List (Plc E P_lexer_scanner_run) := []
theorem tab_lexer_scanner_run_ok : All (PlcOk 25 1 place_lexer_scanner_run st_lexer_scanner_run) tab_lexer_scanner_run := trivial
noncomputable def code_lexer_scanner_run : Code := Tryz.f57.body.getD .skip
noncomputable def spec_lexer_scanner_run : Spec E.S := (Con.add con_strings_IndexFunc noSpec)
theorem spec_lexer_scanner_run_ok : SpecOk E spec_lexer_scanner_run := (Con.add_ok con_strings_IndexFunc_ok noSpec_ok)
theorem good_lexer_scanner_run : ∀ pt r, run_lexer_scanner_run pt = some r → Good E Tryz.f57 code_lexer_scanner_run 1 (res_lexer_scanner_run.av r) (res_lexer_scanner_run.bx r) (place_lexer_scanner_run pt) (st_lexer_scanner_run pt) := by
  intro pt r hr
  cases pt <;> exact fn_step (spec := spec_lexer_scanner_run) (wr := (fun i => mem i [])) (l := tab_lexer_scanner_run) (z := 25) (p := res_lexer_scanner_run) (run' := fun _ => none) E_ok tab_lexer_scanner_run_ok.mem rfl spec_lexer_scanner_run_ok (fun _ _ h => by cases h) (Eq.trans (by kernel_rfl) hr)
noncomputable def con_lexer_scanner_run : Con E := ⟨57, (Unit × (Unit × Unit)), ((ByteArray × (Int × (Int × Unit))) × Unit), (RwL.cons (Rd.bp 0 0).w (RwL.cons (Rd.fn 59 RdL.nil).w RwL.nil)), (RdBL.cons (RdB.var 67 (RdL.cons Rd.str (RdL.cons (Rd.int .i64) (RdL.cons (Rd.int .i64) RdL.nil)))) RdBL.nil), 1, R_lexer_scanner_run, fun a b => run_lexer_scanner_run (.start b.1.1 b.1.2.1 b.1.2.2.1), res_lexer_scanner_run.av, res_lexer_scanner_run.bx⟩
theorem con_lexer_scanner_run_ok : con_lexer_scanner_run.Ok := fun a b r h => fn_ok (fn := Tryz.f57) (code := code_lexer_scanner_run) E_ok (by kernel_rfl) (by kernel_rfl) (by kernel_rfl) (Nat.le_of_ble_eq_true rfl) (good_lexer_scanner_run (.start b.1.1 b.1.2.1 b.1.2.2.1) r h)

/-! ### ratchet/lexer.Keywords -/
inductive P_lexer_Keywords where
 | start
noncomputable def place_lexer_Keywords : P_lexer_Keywords → List Bool
 | .start => []
noncomputable def st_lexer_Keywords : P_lexer_Keywords → St E.S
 | .start => st0 2 [] []
abbrev R_lexer_Keywords : Type := (((List ByteArray) × Unit) × Unit)
noncomputable def res_lexer_Keywords : Res E ((List ByteArray) × Unit) Unit := { rows := [], flat := [], keep := 0, rl := (RdL.cons (Rd.sl 9 true) RdL.nil), rb := RdBL.nil }
noncomputable def run_lexer_Keywords : P_lexer_Keywords → Option R_lexer_Keywords
 | .start =>
   some ((([(⟨#[98, 105, 116, 115]⟩ : ByteArray), (⟨#[99, 97, 115, 101]⟩ : ByteArray), (⟨#[100, 97, 116, 97]⟩ : ByteArray), (⟨#[100, 101, 102]⟩ : ByteArray), (⟨#[101, 108, 115, 101]⟩ : ByteArray), (⟨#[101, 120, 116, 101, 110, 100]⟩ : ByteArray), (⟨#[102, 111, 114]⟩ : ByteArray), (⟨#[105, 102]⟩ : ByteArray), (⟨#[105, 109, 112, 111, 114, 116]⟩ : ByteArray), (⟨#[105, 110]⟩ : ByteArray), (⟨#[105, 110, 115, 116]⟩ : ByteArray), (⟨#[105, 110, 112, 117, 116]⟩ : ByteArray), (⟨#[108, 101, 116]⟩ : ByteArray), (⟨#[108, 111, 103]⟩ : ByteArray), (⟨#[109, 101, 116, 104, 111, 100]⟩ : ByteArray), (⟨#[109, 111, 100, 117, 108, 101]⟩ : ByteArray), (⟨#[111, 102]⟩ : ByteArray), (⟨#[111, 117, 116, 112, 117, 116]⟩ : ByteArray), (⟨#[112, 97, 99, 107, 97, 103, 101]⟩ : ByteArray), (⟨#[114, 101, 103]⟩ : ByteArray), (⟨#[114, 117, 108, 101]⟩ : ByteArray), (⟨#[115, 101, 120, 116, 101, 110, 100]⟩ : ByteArray), (⟨#[116, 104, 101, 110]⟩ : ByteArray), (⟨#[119, 104, 101, 110]⟩ : ByteArray), (⟨#[119, 105, 114, 101]⟩ : ByteArray)] : List ByteArray), ()), ())
noncomputable def tab_lexer_Keywords : List (Plc E P_lexer_Keywords) := []
theorem tab_lexer_Keywords_ok : All (PlcOk 2 0 place_lexer_Keywords st_lexer_Keywords) tab_lexer_Keywords := trivial
noncomputable def code_lexer_Keywords : Code := Tryz.f113.body.getD .skip
noncomputable def spec_lexer_Keywords : Spec E.S := noSpec
theorem spec_lexer_Keywords_ok : SpecOk E spec_lexer_Keywords := noSpec_ok
theorem good_lexer_Keywords : ∀ pt r, run_lexer_Keywords pt = some r → Good E Tryz.f113 code_lexer_Keywords 0 (res_lexer_Keywords.av r) (res_lexer_Keywords.bx r) (place_lexer_Keywords pt) (st_lexer_Keywords pt) := by
  intro pt r hr
  cases pt <;> exact fn_step (spec := spec_lexer_Keywords) (wr := (fun i => mem i [])) (l := tab_lexer_Keywords) (z := 2) (p := res_lexer_Keywords) (run' := fun _ => none) E_ok tab_lexer_Keywords_ok.mem rfl spec_lexer_Keywords_ok (fun _ _ h => by cases h) (Eq.trans (by kernel_rfl) hr)
noncomputable def con_lexer_Keywords : Con E := ⟨113, Unit, Unit, RwL.nil, RdBL.nil, 0, R_lexer_Keywords, fun a b => run_lexer_Keywords (.start), res_lexer_Keywords.av, res_lexer_Keywords.bx⟩
theorem con_lexer_Keywords_ok : con_lexer_Keywords.Ok := fun a b r h => fn_ok (fn := Tryz.f113) (code := code_lexer_Keywords) E_ok (by kernel_rfl) (by kernel_rfl) (by kernel_rfl) (Nat.le_of_ble_eq_true rfl) (good_lexer_Keywords (.start) r h)

/-! ### slices.Index[[]string,string] -/
inductive P_slices_Index_string_string where
 | start (s0 : (List ByteArray)) (v1 : ByteArray)
 | p52 (s0 : (List ByteArray)) (v1 : ByteArray) (s7 : Int) (s8 : Int)
noncomputable def place_slices_Index_string_string : P_slices_Index_string_string → List Bool
 | .start .. => []
 | .p52 .. => [false, false, true, false, true]
noncomputable def st_slices_Index_string_string : P_slices_Index_string_string → St E.S
 | .start s0 v1 => st0 19 [.sl 9 s0 false, .v (.string v1)] []
 | .p52 s0 v1 s7 s8 => mkSt 19 [0, 1, 7, 8] [.sl 9 s0 false, .v (.string v1), .v (.int .i64 s7), .v (.int .i64 s8)] []
abbrev R_slices_Index_string_string : Type := ((Int × Unit) × Unit)
noncomputable def res_slices_Index_string_string : Res E (Int × Unit) Unit := { rows := [], flat := [], keep := 0, rl := (RdL.cons (Rd.int .i64) RdL.nil), rb := RdBL.nil }
noncomputable def run_slices_Index_string_string : P_slices_Index_string_string → Option R_slices_Index_string_string
 | .start s0 v1 =>
   run_slices_Index_string_string (.p52 s0 v1 (List.length s0 : Int) (0 : Int))
 | .p52 s0 v1 s7 s8 =>
   if (decide (s8 < s7)) = true then
     (idx s0 s8) >>= fun t1 =>
     if (seq v1 t1) = true then
       some ((s8, ()), ())
     else
       run_slices_Index_string_string (.p52 s0 v1 s7 (IntKind.wrap .i64 (s8 + (1 : Int))))
   else
     some (((-1 : Int), ()), ())
  partial_fixpoint
noncomputable def tab_slices_Index_string_string : List (Plc E P_slices_Index_string_string) := [⟨52, [false, false, true, false, true], { slots := [0, 1, 7, 8], rows := [], flat := [], keep := 0 }, ((List ByteArray) × (ByteArray × (Int × (Int × Unit)))), Unit, (RdL.cons (Rd.sl 9 false) (RdL.cons Rd.str (RdL.cons (Rd.int .i64) (RdL.cons (Rd.int .i64) RdL.nil)))), RdBL.nil, fun a b => .p52 a.1 a.2.1 a.2.2.1 a.2.2.2.1⟩]
theorem tab_slices_Index_string_string_ok : All (PlcOk 19 0 place_slices_Index_string_string st_slices_Index_string_string) tab_slices_Index_string_string := ⟨⟨rfl, rfl, fun _ _ => rfl, fun _ _ => rfl⟩, trivial⟩
noncomputable def code_slices_Index_string_string : Code := Tryz.f132.body.getD .skip
noncomputable def spec_slices_Index_string_string : Spec E.S := noSpec
theorem spec_slices_Index_string_string_ok : SpecOk E spec_slices_Index_string_string := noSpec_ok
theorem good_slices_Index_string_string : ∀ pt r, run_slices_Index_string_string pt = some r → Good E Tryz.f132 code_slices_Index_string_string 0 (res_slices_Index_string_string.av r) (res_slices_Index_string_string.bx r) (place_slices_Index_string_string pt) (st_slices_Index_string_string pt) := by
  refine run_slices_Index_string_string.partial_correctness (fun pt r => Good E Tryz.f132 code_slices_Index_string_string 0 (res_slices_Index_string_string.av r) (res_slices_Index_string_string.bx r) (place_slices_Index_string_string pt) (st_slices_Index_string_string pt)) ?_
  intro run' ih pt r hr
  cases pt <;> exact fn_step (spec := spec_slices_Index_string_string) (wr := (fun i => mem i [])) (l := tab_slices_Index_string_string) (z := 19) (p := res_slices_Index_string_string) E_ok tab_slices_Index_string_string_ok.mem rfl spec_slices_Index_string_string_ok ih (Eq.trans (by kernel_rfl) hr)
noncomputable def con_slices_Index_string_string : Con E := ⟨132, ((List ByteArray) × (ByteArray × Unit)), Unit, (RwL.cons (Rw.sl 9) (RwL.cons Rd.str.w RwL.nil)), RdBL.nil, 0, R_slices_Index_string_string, fun a b => run_slices_Index_string_string (.start a.1 a.2.1), res_slices_Index_string_string.av, res_slices_Index_string_string.bx⟩
theorem con_slices_Index_string_string_ok : con_slices_Index_string_string.Ok := fun a b r h => fn_ok (fn := Tryz.f132) (code := code_slices_Index_string_string) E_ok (by kernel_rfl) (by kernel_rfl) (by kernel_rfl) (Nat.le_of_ble_eq_true rfl) (good_slices_Index_string_string (.start a.1 a.2.1) r h)

/-! ### slices.Contains[[]string,string] -/
inductive P_slices_Contains_string_string where
 | start (s0 : (List ByteArray)) (v1 : ByteArray)
noncomputable def place_slices_Contains_string_string : P_slices_Contains_string_string → List Bool
 | .start .. => []
noncomputable def st_slices_Contains_string_string : P_slices_Contains_string_string → St E.S
 | .start s0 v1 => st0 9 [.sl 9 s0 false, .v (.string v1)] []
abbrev R_slices_Contains_string_string : Type := ((Bool × Unit) × Unit)
noncomputable def res_slices_Contains_string_string : Res E (Bool × Unit) Unit := { rows := [], flat := [], keep := 0, rl := (RdL.cons Rd.bool RdL.nil), rb := RdBL.nil }
noncomputable def run_slices_Contains_string_string : P_slices_Contains_string_string → Option R_slices_Contains_string_string
 | .start s0 v1 =>
   (run_slices_Index_string_string (.start s0 v1)) >>= fun t1 =>
   some ((decide (t1.1.1 ≥ (0 : Int)), ()), ())
noncomputable def tab_slices_Contains_string_string : List (Plc E P_slices_Contains_string_string) := []
theorem tab_slices_Contains_string_string_ok : All (PlcOk 9 0 place_slices_Contains_string_string st_slices_Contains_string_string) tab_slices_Contains_string_string := trivial
noncomputable def code_slices_Contains_string_string : Code := Tryz.f112.body.getD .skip
noncomputable def spec_slices_Contains_string_string : Spec E.S := (Con.add con_slices_Index_string_string noSpec)
theorem spec_slices_Contains_string_string_ok : SpecOk E spec_slices_Contains_string_string := (Con.add_ok con_slices_Index_string_string_ok noSpec_ok)
theorem good_slices_Contains_string_string : ∀ pt r, run_slices_Contains_string_string pt = some r → Good E Tryz.f112 code_slices_Contains_string_string 0 (res_slices_Contains_string_string.av r) (res_slices_Contains_string_string.bx r) (place_slices_Contains_string_string pt) (st_slices_Contains_string_string pt) := by
  intro pt r hr
  cases pt <;> exact fn_step (spec := spec_slices_Contains_string_string) (wr := (fun i => mem i [])) (l := tab_slices_Contains_string_string) (z := 9) (p := res_slices_Contains_string_string) (run' := fun _ => none) E_ok tab_slices_Contains_string_string_ok.mem rfl spec_slices_Contains_string_string_ok (fun _ _ h => by cases h) (Eq.trans (by kernel_rfl) hr)
noncomputable def con_slices_Contains_string_string : Con E := ⟨112, ((List ByteArray) × (ByteArray × Unit)), Unit, (RwL.cons (Rw.sl 9) (RwL.cons Rd.str.w RwL.nil)), RdBL.nil, 0, R_slices_Contains_string_string, fun a b => run_slices_Contains_string_string (.start a.1 a.2.1), res_slices_Contains_string_string.av, res_slices_Contains_string_string.bx⟩
theorem con_slices_Contains_string_string_ok : con_slices_Contains_string_string.Ok := fun a b r h => fn_ok (fn := Tryz.f112) (code := code_slices_Contains_string_string) E_ok (by kernel_rfl) (by kernel_rfl) (by kernel_rfl) (Nat.le_of_ble_eq_true rfl) (good_slices_Contains_string_string (.start a.1 a.2.1) r h)

/-! ### ratchet/lexer.IsKeyword -/
inductive P_lexer_IsKeyword where
 | start (s0 : ByteArray)
noncomputable def place_lexer_IsKeyword : P_lexer_IsKeyword → List Bool
 | .start .. => []
noncomputable def st_lexer_IsKeyword : P_lexer_IsKeyword → St E.S
 | .start s0 => st0 6 [.v (.string s0)] []
abbrev R_lexer_IsKeyword : Type := ((Bool × Unit) × Unit)
noncomputable def res_lexer_IsKeyword : Res E (Bool × Unit) Unit := { rows := [], flat := [], keep := 0, rl := (RdL.cons Rd.bool RdL.nil), rb := RdBL.nil }
noncomputable def run_lexer_IsKeyword : P_lexer_IsKeyword → Option R_lexer_IsKeyword
 | .start s0 =>
   (run_lexer_Keywords .start) >>= fun t1 =>
   (run_slices_Contains_string_string (.start t1.1.1 s0)) >>= fun t2 =>
   some ((t2.1.1, ()), ())
noncomputable def tab_lexer_IsKeyword : List (Plc E P_lexer_IsKeyword) := []
theorem tab_lexer_IsKeyword_ok : All (PlcOk 6 0 place_lexer_IsKeyword st_lexer_IsKeyword) tab_lexer_IsKeyword := trivial
noncomputable def code_lexer_IsKeyword : Code := Tryz.f92.body.getD .skip
noncomputable def spec_lexer_IsKeyword : Spec E.S := (Con.add con_slices_Contains_string_string (Con.add con_lexer_Keywords noSpec))
theorem spec_lexer_IsKeyword_ok : SpecOk E spec_lexer_IsKeyword := (Con.add_ok con_slices_Contains_string_string_ok (Con.add_ok con_lexer_Keywords_ok noSpec_ok))
theorem good_lexer_IsKeyword : ∀ pt r, run_lexer_IsKeyword pt = some r → Good E Tryz.f92 code_lexer_IsKeyword 0 (res_lexer_IsKeyword.av r) (res_lexer_IsKeyword.bx r) (place_lexer_IsKeyword pt) (st_lexer_IsKeyword pt) := by
  intro pt r hr
  cases pt <;> exact fn_step (spec := spec_lexer_IsKeyword) (wr := (fun i => mem i [])) (l := tab_lexer_IsKeyword) (z := 6) (p := res_lexer_IsKeyword) (run' := fun _ => none) E_ok tab_lexer_IsKeyword_ok.mem rfl spec_lexer_IsKeyword_ok (fun _ _ h => by cases h) (Eq.trans (by kernel_rfl) hr)
noncomputable def con_lexer_IsKeyword : Con E := ⟨92, (ByteArray × Unit), Unit, (RwL.cons Rd.str.w RwL.nil), RdBL.nil, 0, R_lexer_IsKeyword, fun a b => run_lexer_IsKeyword (.start a.1), res_lexer_IsKeyword.av, res_lexer_IsKeyword.bx⟩
theorem con_lexer_IsKeyword_ok : con_lexer_IsKeyword.Ok := fun a b r h => fn_ok (fn := Tryz.f92) (code := code_lexer_IsKeyword) E_ok (by kernel_rfl) (by kernel_rfl) (by kernel_rfl) (Nat.le_of_ble_eq_true rfl) (good_lexer_IsKeyword (.start a.1) r h)

/-! ### (*ratchet/lexer.scanner).word -/
inductive P_lexer_scanner_word where
 | start (B0_0 : ByteArray) (B0_1 : Int) (B0_2 : Int)
noncomputable def place_lexer_scanner_word : P_lexer_scanner_word → List Bool
 | .start .. => []
noncomputable def st_lexer_scanner_word : P_lexer_scanner_word → St E.S
 | .start B0_0 B0_1 B0_2 => st0 27 [.bp 0 0] [.var 67 [.v (.string B0_0), .v (.int .i64 B0_1), .v (.int .i64 B0_2)]]
abbrev R_lexer_scanner_word : Type := ((Int × (ByteArray × Unit)) × ((ByteArray × (Int × (Int × Unit))) × Unit))
noncomputable def res_lexer_scanner_word : Res E (Int × (ByteArray × Unit)) ((ByteArray × (Int × (Int × Unit))) × Unit) := { rows := [], flat := [], keep := 1, rl := (RdL.cons (Rd.int .i64) (RdL.cons Rd.str RdL.nil)), rb := (RdBL.cons (RdB.var 67 (RdL.cons Rd.str (RdL.cons (Rd.int .i64) (RdL.cons (Rd.int .i64) RdL.nil)))) RdBL.nil) }
noncomputable def run_lexer_scanner_word : P_lexer_scanner_word → Option R_lexer_scanner_word
 | .start B0_0 B0_1 B0_2 =>
   (run_lexer_scanner_run (.start B0_0 B0_1 B0_2)) >>= fun t1 =>
   if (decide ((t1.1.1.size : Int) > (16 : Int))) = true then
     (run_lexer_scanner_fail (.start t1.2.1.2.1 (4 : Int) t1.2.1.1 t1.2.1.2.1 t1.2.1.2.2.1)) >>= fun t2 =>
     some (((0 : Int), (t1.1.1, ())), ((t2.2.1.1, (t2.2.1.2.1, (t2.2.1.2.2.1, ()))), ()))
   else
     (run_lexer_IsKeyword (.start t1.1.1)) >>= fun t3 =>
     if t3.1.1 = true then
       some (((2 : Int), (t1.1.1, ())), ((t1.2.1.1, (t1.2.1.2.1, (t1.2.1.2.2.1, ()))), ()))
     else
       (sidx t1.1.1 (0 : Int)) >>= fun t4 =>
       (run_lexer_isCapital (.start t4)) >>= fun t5 =>
       if t5.1.1 = true then
         some (((1 : Int), (t1.1.1, ())), ((t1.2.1.1, (t1.2.1.2.1, (t1.2.1.2.2.1, ()))), ()))
       else
         some (((0 : Int), (t1.1.1, ())), ((t1.2.1.1, (t1.2.1.2.1, (t1.2.1.2.2.1, ()))), ()))
noncomputable def tab_lexer_scanner_word : List (Plc E P_lexer_scanner_word) := []
theorem tab_lexer_scanner_word_ok : All (PlcOk 27 1 place_lexer_scanner_word st_lexer_scanner_word) tab_lexer_scanner_word := trivial
noncomputable def code_lexer_scanner_word : Code := Tryz.f55.body.getD .skip
noncomputable def spec_lexer_scanner_word : Spec E.S := (Con.add con_lexer_isCapital (Con.add con_lexer_IsKeyword (Con.add con_lexer_scanner_fail (Con.add con_lexer_scanner_run noSpec))))
theorem spec_lexer_scanner_word_ok : SpecOk E spec_lexer_scanner_word := (Con.add_ok con_lexer_isCapital_ok (Con.add_ok con_lexer_IsKeyword_ok (Con.add_ok con_lexer_scanner_fail_ok (Con.add_ok con_lexer_scanner_run_ok noSpec_ok))))
theorem good_lexer_scanner_word : ∀ pt r, run_lexer_scanner_word pt = some r → Good E Tryz.f55 code_lexer_scanner_word 1 (res_lexer_scanner_word.av r) (res_lexer_scanner_word.bx r) (place_lexer_scanner_word pt) (st_lexer_scanner_word pt) := by
  intro pt r hr
  cases pt <;> exact fn_step (spec := spec_lexer_scanner_word) (wr := (fun i => mem i [])) (l := tab_lexer_scanner_word) (z := 27) (p := res_lexer_scanner_word) (run' := fun _ => none) E_ok tab_lexer_scanner_word_ok.mem rfl spec_lexer_scanner_word_ok (fun _ _ h => by cases h) (Eq.trans (by kernel_rfl) hr)
noncomputable def con_lexer_scanner_word : Con E := ⟨55, (Unit × Unit), ((ByteArray × (Int × (Int × Unit))) × Unit), (RwL.cons (Rd.bp 0 0).w RwL.nil), (RdBL.cons (RdB.var 67 (RdL.cons Rd.str (RdL.cons (Rd.int .i64) (RdL.cons (Rd.int .i64) RdL.nil)))) RdBL.nil), 1, R_lexer_scanner_word, fun a b => run_lexer_scanner_word (.start b.1.1 b.1.2.1 b.1.2.2.1), res_lexer_scanner_word.av, res_lexer_scanner_word.bx⟩
theorem con_lexer_scanner_word_ok : con_lexer_scanner_word.Ok := fun a b r h => fn_ok (fn := Tryz.f55) (code := code_lexer_scanner_word) E_ok (by kernel_rfl) (by kernel_rfl) (by kernel_rfl) (Nat.le_of_ble_eq_true rfl) (good_lexer_scanner_word (.start b.1.1 b.1.2.1 b.1.2.2.1) r h)

/-! ### (*ratchet/lexer.scanner).token$1 -/
inductive P_lexer_scanner_token_1 where
 | start (c0 : Int)
noncomputable def place_lexer_scanner_token_1 : P_lexer_scanner_token_1 → List Bool
 | .start .. => []
noncomputable def st_lexer_scanner_token_1 : P_lexer_scanner_token_1 → St E.S
 | .start c0 => st0 9 [.v (.int .u8 c0)] []
abbrev R_lexer_scanner_token_1 : Type := ((Bool × Unit) × Unit)
noncomputable def res_lexer_scanner_token_1 : Res E (Bool × Unit) Unit := { rows := [], flat := [], keep := 0, rl := (RdL.cons Rd.bool RdL.nil), rb := RdBL.nil }
noncomputable def run_lexer_scanner_token_1 : P_lexer_scanner_token_1 → Option R_lexer_scanner_token_1
 | .start c0 =>
   (run_lexer_isWord (.start c0)) >>= fun t1 =>
   if t1.1.1 = true then
     some ((true, ()), ())
   else
     some ((c0 == (39 : Int), ()), ())
noncomputable def tab_lexer_scanner_token_1 : List (Plc E P_lexer_scanner_token_1) := []
theorem tab_lexer_scanner_token_1_ok : All (PlcOk 9 0 place_lexer_scanner_token_1 st_lexer_scanner_token_1) tab_lexer_scanner_token_1 := trivial
noncomputable def code_lexer_scanner_token_1 : Code := Tryz.f58.body.getD .skip
noncomputable def spec_lexer_scanner_token_1 : Spec E.S := (Con.add con_lexer_isWord noSpec)
theorem spec_lexer_scanner_token_1_ok : SpecOk E spec_lexer_scanner_token_1 := (Con.add_ok con_lexer_isWord_ok noSpec_ok)
theorem good_lexer_scanner_token_1 : ∀ pt r, run_lexer_scanner_token_1 pt = some r → Good E Tryz.f58 code_lexer_scanner_token_1 0 (res_lexer_scanner_token_1.av r) (res_lexer_scanner_token_1.bx r) (place_lexer_scanner_token_1 pt) (st_lexer_scanner_token_1 pt) := by
  intro pt r hr
  cases pt <;> exact fn_step (spec := spec_lexer_scanner_token_1) (wr := (fun i => mem i [])) (l := tab_lexer_scanner_token_1) (z := 9) (p := res_lexer_scanner_token_1) (run' := fun _ => none) E_ok tab_lexer_scanner_token_1_ok.mem rfl spec_lexer_scanner_token_1_ok (fun _ _ h => by cases h) (Eq.trans (by kernel_rfl) hr)
noncomputable def con_lexer_scanner_token_1 : Con E := ⟨58, (Int × Unit), Unit, (RwL.cons (Rd.int .u8).w RwL.nil), RdBL.nil, 0, R_lexer_scanner_token_1, fun a b => run_lexer_scanner_token_1 (.start a.1), res_lexer_scanner_token_1.av, res_lexer_scanner_token_1.bx⟩
theorem con_lexer_scanner_token_1_ok : con_lexer_scanner_token_1.Ok := fun a b r h => fn_ok (fn := Tryz.f58) (code := code_lexer_scanner_token_1) E_ok (by kernel_rfl) (by kernel_rfl) (by kernel_rfl) (Nat.le_of_ble_eq_true rfl) (good_lexer_scanner_token_1 (.start a.1) r h)

/-! ### (*ratchet/lexer.scanner).run$1 -/
inductive P_lexer_scanner_run_1_v1 where
 | start (r0 : Int)
noncomputable def place_lexer_scanner_run_1_v1 : P_lexer_scanner_run_1_v1 → List Bool
 | .start .. => []
noncomputable def st_lexer_scanner_run_1_v1 : P_lexer_scanner_run_1_v1 → St E.S
 | .start r0 => st0 13 [.v (.int .i32 r0), .bp 0 0] [.var 95 [.fn 58 []]]
abbrev R_lexer_scanner_run_1_v1 : Type := ((Bool × Unit) × ((Unit × Unit) × Unit))
noncomputable def res_lexer_scanner_run_1_v1 : Res E (Bool × Unit) ((Unit × Unit) × Unit) := { rows := [], flat := [], keep := 1, rl := (RdL.cons Rd.bool RdL.nil), rb := (RdBL.cons (RdB.var 95 (RdL.cons (Rd.fn 58 RdL.nil) RdL.nil)) RdBL.nil) }
noncomputable def run_lexer_scanner_run_1_v1 : P_lexer_scanner_run_1_v1 → Option R_lexer_scanner_run_1_v1
 | .start r0 =>
   if (decide (r0 > (126 : Int))) = true then
     some ((true, ()), (((), ()), ()))
   else
     (run_lexer_scanner_token_1 (.start (IntKind.wrap .u8 r0))) >>= fun t1 =>
     some ((!t1.1.1, ()), (((), ()), ()))
noncomputable def tab_lexer_scanner_run_1_v1 : List (Plc E P_lexer_scanner_run_1_v1) := []
theorem tab_lexer_scanner_run_1_v1_ok : All (PlcOk 13 1 place_lexer_scanner_run_1_v1 st_lexer_scanner_run_1_v1) tab_lexer_scanner_run_1_v1 := trivial
noncomputable def code_lexer_scanner_run_1_v1 : Code := Tryz.f94.body.getD .skip
noncomputable def spec_lexer_scanner_run_1_v1 : Spec E.S := (Con.add con_lexer_scanner_token_1 noSpec)
theorem spec_lexer_scanner_run_1_v1_ok : SpecOk E spec_lexer_scanner_run_1_v1 := (Con.add_ok con_lexer_scanner_token_1_ok noSpec_ok)
theorem good_lexer_scanner_run_1_v1 : ∀ pt r, run_lexer_scanner_run_1_v1 pt = some r → Good E Tryz.f94 code_lexer_scanner_run_1_v1 1 (res_lexer_scanner_run_1_v1.av r) (res_lexer_scanner_run_1_v1.bx r) (place_lexer_scanner_run_1_v1 pt) (st_lexer_scanner_run_1_v1 pt) := by
  intro pt r hr
  cases pt <;> exact fn_step (spec := spec_lexer_scanner_run_1_v1) (wr := (fun i => mem i [])) (l := tab_lexer_scanner_run_1_v1) (z := 13) (p := res_lexer_scanner_run_1_v1) (run' := fun _ => none) E_ok tab_lexer_scanner_run_1_v1_ok.mem rfl spec_lexer_scanner_run_1_v1_ok (fun _ _ h => by cases h) (Eq.trans (by kernel_rfl) hr)
noncomputable def con_lexer_scanner_run_1_v1 : Con E := ⟨94, (Int × (Unit × Unit)), ((Unit × Unit) × Unit), (RwL.cons (Rd.int .i32).w (RwL.cons (Rd.bp 0 0).w RwL.nil)), (RdBL.cons (RdB.var 95 (RdL.cons (Rd.fn 58 RdL.nil) RdL.nil)) RdBL.nil), 1, R_lexer_scanner_run_1_v1, fun a b => run_lexer_scanner_run_1_v1 (.start a.1), res_lexer_scanner_run_1_v1.av, res_lexer_scanner_run_1_v1.bx⟩
theorem con_lexer_scanner_run_1_v1_ok : con_lexer_scanner_run_1_v1.Ok := fun a b r h => fn_ok (fn := Tryz.f94) (code := code_lexer_scanner_run_1_v1) E_ok (by kernel_rfl) (by kernel_rfl) (by kernel_rfl) (Nat.le_of_ble_eq_true rfl) (good_lexer_scanner_run_1_v1 (.start a.1) r h)

/-! ### strings.indexFunc -/
inductive P_strings_indexFunc_v1 where
 | start (s0 : ByteArray) (truth2 : Bool)
 | p52 (truth2 : Bool) (B1_0 : ByteArray) (B1_1 : Nat)
noncomputable def place_strings_indexFunc_v1 : P_strings_indexFunc_v1 → List Bool
 | .start .. => []
 | .p52 .. => [false, false, true, false, true]
noncomputable def st_strings_indexFunc_v1 : P_strings_indexFunc_v1 → St E.S
 | .start s0 truth2 => st0 21 [.v (.string s0), .fn 94 [.bp 0 0], .v (.bool truth2)] [.var 95 [.fn 58 []]]
 | .p52 truth2 B1_0 B1_1 => mkSt 21 [1, 2, 10] [.fn 94 [.bp 0 0], .v (.bool truth2), .bp 1 0] [.var 95 [.fn 58 []], .iter B1_0 B1_1]
abbrev R_strings_indexFunc_v1 : Type := ((Int × Unit) × ((Unit × Unit) × Unit))
noncomputable def res_strings_indexFunc_v1 : Res E (Int × Unit) ((Unit × Unit) × Unit) := { rows := [], flat := [], keep := 1, rl := (RdL.cons (Rd.int .i64) RdL.nil), rb := (RdBL.cons (RdB.var 95 (RdL.cons (Rd.fn 58 RdL.nil) RdL.nil)) RdBL.nil) }
noncomputable def run_strings_indexFunc_v1 : P_strings_indexFunc_v1 → Option R_strings_indexFunc_v1
 | .start s0 truth2 =>
   run_strings_indexFunc_v1 (.p52 truth2 s0 (0 : Nat))
 | .p52 truth2 B1_0 B1_1 =>
   if (decide (B1_1 < B1_0.size)) = true then
     (run_lexer_scanner_run_1_v1 (.start ((Utf8.decode B1_0 B1_1).1 : Int))) >>= fun t1 =>
     if (t1.1.1 == truth2) = true then
       some (((B1_1 : Int), ()), (((), ()), ()))
     else
       run_strings_indexFunc_v1 (.p52 truth2 B1_0 (B1_1 + (Utf8.decode B1_0 B1_1).2))
   else
     some (((-1 : Int), ()), (((), ()), ()))
  partial_fixpoint
noncomputable def tab_strings_indexFunc_v1 : List (Plc E P_strings_indexFunc_v1) := [⟨52, [false, false, true, false, true], { slots := [1, 2, 10], rows := [], flat := [], keep := 1 }, ((Unit × Unit) × (Bool × (Unit × Unit))), ((Unit × Unit) × ((ByteArray × (Nat × Unit)) × Unit)), (RdL.cons (Rd.fn 94 (RdL.cons (Rd.bp 0 0) RdL.nil)) (RdL.cons Rd.bool (RdL.cons (Rd.bp 1 0) RdL.nil))), (RdBL.cons (RdB.var 95 (RdL.cons (Rd.fn 58 RdL.nil) RdL.nil)) (RdBL.cons RdB.iter RdBL.nil)), fun a b => .p52 a.2.1 b.2.1.1 b.2.1.2.1⟩]
theorem tab_strings_indexFunc_v1_ok : All (PlcOk 21 1 place_strings_indexFunc_v1 st_strings_indexFunc_v1) tab_strings_indexFunc_v1 := ⟨⟨rfl, rfl, fun _ _ => rfl, fun _ _ => rfl⟩, trivial⟩
noncomputable def code_strings_indexFunc_v1 : Code := Tryz.f114.body.getD .skip
noncomputable def spec_strings_indexFunc_v1 : Spec E.S := (Con.add con_lexer_scanner_run_1_v1 noSpec)
theorem spec_strings_indexFunc_v1_ok : SpecOk E spec_strings_indexFunc_v1 := (Con.add_ok con_lexer_scanner_run_1_v1_ok noSpec_ok)
theorem good_strings_indexFunc_v1 : ∀ pt r, run_strings_indexFunc_v1 pt = some r → Good E Tryz.f114 code_strings_indexFunc_v1 1 (res_strings_indexFunc_v1.av r) (res_strings_indexFunc_v1.bx r) (place_strings_indexFunc_v1 pt) (st_strings_indexFunc_v1 pt) := by
  refine run_strings_indexFunc_v1.partial_correctness (fun pt r => Good E Tryz.f114 code_strings_indexFunc_v1 1 (res_strings_indexFunc_v1.av r) (res_strings_indexFunc_v1.bx r) (place_strings_indexFunc_v1 pt) (st_strings_indexFunc_v1 pt)) ?_
  intro run' ih pt r hr
  cases pt <;> exact fn_step (spec := spec_strings_indexFunc_v1) (wr := (fun i => mem i [])) (l := tab_strings_indexFunc_v1) (z := 21) (p := res_strings_indexFunc_v1) E_ok tab_strings_indexFunc_v1_ok.mem rfl spec_strings_indexFunc_v1_ok ih (Eq.trans (by kernel_rfl) hr)
noncomputable def con_strings_indexFunc_v1 : Con E := ⟨114, (ByteArray × ((Unit × Unit) × (Bool × Unit))), ((Unit × Unit) × Unit), (RwL.cons Rd.str.w (RwL.cons (Rd.fn 94 (RdL.cons (Rd.bp 0 0) RdL.nil)).w (RwL.cons Rd.bool.w RwL.nil))), (RdBL.cons (RdB.var 95 (RdL.cons (Rd.fn 58 RdL.nil) RdL.nil)) RdBL.nil), 1, R_strings_indexFunc_v1, fun a b => run_strings_indexFunc_v1 (.start a.1 a.2.2.1), res_strings_indexFunc_v1.av, res_strings_indexFunc_v1.bx⟩
theorem con_strings_indexFunc_v1_ok : con_strings_indexFunc_v1.Ok := fun a b r h => fn_ok (fn := Tryz.f114) (code := code_strings_indexFunc_v1) E_ok (by kernel_rfl) (by kernel_rfl) (by kernel_rfl) (Nat.le_of_ble_eq_true rfl) (good_strings_indexFunc_v1 (.start a.1 a.2.2.1) r h)

/-! ### strings.IndexFunc -/
inductive P_strings_IndexFunc_v1 where
 | start (s0 : ByteArray)
noncomputable def place_strings_IndexFunc_v1 : P_strings_IndexFunc_v1 → List Bool
 | .start .. => []
noncomputable def st_strings_IndexFunc_v1 : P_strings_IndexFunc_v1 → St E.S
 | .start s0 => st0 8 [.v (.string s0), .fn 94 [.bp 0 0]] [.var 95 [.fn 58 []]]
abbrev R_strings_IndexFunc_v1 : Type := ((Int × Unit) × ((Unit × Unit) × Unit))
noncomputable def res_strings_IndexFunc_v1 : Res E (Int × Unit) ((Unit × Unit) × Unit) := { rows := [], flat := [], keep := 1, rl := (RdL.cons (Rd.int .i64) RdL.nil), rb := (RdBL.cons (RdB.var 95 (RdL.cons (Rd.fn 58 RdL.nil) RdL.nil)) RdBL.nil) }
noncomputable def run_strings_IndexFunc_v1 : P_strings_IndexFunc_v1 → Option R_strings_IndexFunc_v1
 | .start s0 =>
   (run_strings_indexFunc_v1 (.start s0 true)) >>= fun t1 =>
   some ((t1.1.1, ()), (((), ()), ()))
noncomputable def tab_strings_IndexFunc_v1 : List (Plc E P_strings_IndexFunc_v1) := []
theorem tab_strings_IndexFunc_v1_ok : All (PlcOk 8 1 place_strings_IndexFunc_v1 st_strings_IndexFunc_v1) tab_strings_IndexFunc_v1 := trivial
noncomputable def code_strings_IndexFunc_v1 : Code := Tryz.f93.body.getD .skip
noncomputable def spec_strings_IndexFunc_v1 : Spec E.S := (Con.add con_strings_indexFunc_v1 noSpec)
theorem spec_strings_IndexFunc_v1_ok : SpecOk E spec_strings_IndexFunc_v1 := (Con.add_ok con_strings_indexFunc_v1_ok noSpec_ok)
theorem good_strings_IndexFunc_v1 : ∀ pt r, run_strings_IndexFunc_v1 pt = some r → Good E Tryz.f93 code_strings_IndexFunc_v1 1 (res_strings_IndexFunc_v1.av r) (res_strings_IndexFunc_v1.bx r) (place_strings_IndexFunc_v1 pt) (st_strings_IndexFunc_v1 pt) := by
  intro pt r hr
  cases pt <;> exact fn_step (spec := spec_strings_IndexFunc_v1) (wr := (fun i => mem i [])) (l := tab_strings_IndexFunc_v1) (z := 8) (p := res_strings_IndexFunc_v1) (run' := fun _ => none) E_ok tab_strings_IndexFunc_v1_ok.mem rfl spec_strings_IndexFunc_v1_ok (fun _ _ h => by cases h) (Eq.trans (by kernel_rfl) hr)
noncomputable def con_strings_IndexFunc_v1 : Con E := ⟨93, (ByteArray × ((Unit × Unit) × Unit)), ((Unit × Unit) × Unit), (RwL.cons Rd.str.w (RwL.cons (Rd.fn 94 (RdL.cons (Rd.bp 0 0) RdL.nil)).w RwL.nil)), (RdBL.cons (RdB.var 95 (RdL.cons (Rd.fn 58 RdL.nil) RdL.nil)) RdBL.nil), 1, R_strings_IndexFunc_v1, fun a b => run_strings_IndexFunc_v1 (.start a.1), res_strings_IndexFunc_v1.av, res_strings_IndexFunc_v1.bx⟩
theorem con_strings_IndexFunc_v1_ok : con_strings_IndexFunc_v1.Ok := fun a b r h => fn_ok (fn := Tryz.f93) (code := code_strings_IndexFunc_v1) E_ok (by kernel_rfl) (by kernel_rfl) (by kernel_rfl) (Nat.le_of_ble_eq_true rfl) (good_strings_IndexFunc_v1 (.start a.1) r h)

/-! ### (*ratchet/lexer.scanner).run -/
inductive P_lexer_scanner_run_v1 where
 | start (B0_0 : ByteArray) (B0_1 : Int) (B0_2 : Int)
noncomputable def place_lexer_scanner_run_v1 : P_lexer_scanner_run_v1 → List Bool
 | .start .. => []
noncomputable def st_lexer_scanner_run_v1 : P_lexer_scanner_run_v1 → St E.S
 | .start B0_0 B0_1 B0_2 => st0 25 [.bp 0 0, .fn 58 []] [.var 67 [.v (.string B0_0), .v (.int .i64 B0_1), .v (.int .i64 B0_2)]]
abbrev R_lexer_scanner_run_v1 : Type := ((ByteArray × Unit) × ((ByteArray × (Int × (Int × Unit))) × Unit))
noncomputable def res_lexer_scanner_run_v1 : Res E (ByteArray × Unit) ((ByteArray × (Int × (Int × Unit))) × Unit) := { rows := [], flat := [], keep := 1, rl := (RdL.cons Rd.str RdL.nil), rb := (RdBL.cons (RdB.var 67 (RdL.cons Rd.str (RdL.cons (Rd.int .i64) (RdL.cons (Rd.int .i64) RdL.nil)))) RdBL.nil) }
noncomputable def run_lexer_scanner_run_v1 : P_lexer_scanner_run_v1 → Option R_lexer_scanner_run_v1
 | .start B0_0 B0_1 B0_2 =>
   (span B0_0.size B0_1 (B0_0.size : Int)) >>= fun t1 =>
   (run_strings_IndexFunc_v1 (.start (B0_0.extract t1.1 t1.2))) >>= fun t2 =>
   if (decide (t2.1.1 ≥ (0 : Int))) = true then
     (span (B0_0.extract t1.1 t1.2).size (0 : Int) t2.1.1) >>= fun t3 =>
     some (((B0_0.extract t1.1 t1.2).extract t3.1 t3.2, ()), ((B0_0, (B0_1, (B0_2, ()))), ()))
   else
     some ((B0_0.extract t1.1 t1.2, ()), ((B0_0, (B0_1, (B0_2, ()))), ()))
noncomputable def tab_lexer_scanner_run_v1 : List (Plc E P_lexer_scanner_run_v1) := []
theorem tab_lexer_scanner_run_v1_ok : All (PlcOk 25 1 place_lexer_scanner_run_v1 st_lexer_scanner_run_v1) tab_lexer_scanner_run_v1 := trivial
noncomputable def code_lexer_scanner_run_v1 : Code := Tryz.f57.body.getD .skip
noncomputable def spec_lexer_scanner_run_v1 : Spec E.S := (Con.add con_strings_IndexFunc_v1 noSpec)
theorem spec_lexer_scanner_run_v1_ok : SpecOk E spec_lexer_scanner_run_v1 := (Con.add_ok con_strings_IndexFunc_v1_ok noSpec_ok)
theorem good_lexer_scanner_run_v1 : ∀ pt r, run_lexer_scanner_run_v1 pt = some r → Good E Tryz.f57 code_lexer_scanner_run_v1 1 (res_lexer_scanner_run_v1.av r) (res_lexer_scanner_run_v1.bx r) (place_lexer_scanner_run_v1 pt) (st_lexer_scanner_run_v1 pt) := by
  intro pt r hr
  cases pt <;> exact fn_step (spec := spec_lexer_scanner_run_v1) (wr := (fun i => mem i [])) (l := tab_lexer_scanner_run_v1) (z := 25) (p := res_lexer_scanner_run_v1) (run' := fun _ => none) E_ok tab_lexer_scanner_run_v1_ok.mem rfl spec_lexer_scanner_run_v1_ok (fun _ _ h => by cases h) (Eq.trans (by kernel_rfl) hr)
noncomputable def con_lexer_scanner_run_v1 : Con E := ⟨57, (Unit × (Unit × Unit)), ((ByteArray × (Int × (Int × Unit))) × Unit), (RwL.cons (Rd.bp 0 0).w (RwL.cons (Rd.fn 58 RdL.nil).w RwL.nil)), (RdBL.cons (RdB.var 67 (RdL.cons Rd.str (RdL.cons (Rd.int .i64) (RdL.cons (Rd.int .i64) RdL.nil)))) RdBL.nil), 1, R_lexer_scanner_run_v1, fun a b => run_lexer_scanner_run_v1 (.start b.1.1 b.1.2.1 b.1.2.2.1), res_lexer_scanner_run_v1.av, res_lexer_scanner_run_v1.bx⟩
theorem con_lexer_scanner_run_v1_ok : con_lexer_scanner_run_v1.Ok := fun a b r h => fn_ok (fn := Tryz.f57) (code := code_lexer_scanner_run_v1) E_ok (by kernel_rfl) (by kernel_rfl) (by kernel_rfl) (Nat.le_of_ble_eq_true rfl) (good_lexer_scanner_run_v1 (.start b.1.1 b.1.2.1 b.1.2.2.1) r h)

/-! ### ratchet/lexer.natural -/
inductive P_lexer_natural where
 | start (s0 : ByteArray)
noncomputable def place_lexer_natural : P_lexer_natural → List Bool
 | .start .. => []
noncomputable def st_lexer_natural : P_lexer_natural → St E.S
 | .start s0 => st0 30 [.v (.string s0)] []
abbrev R_lexer_natural : Type := ((Int × (Bool × Unit)) × Unit)
noncomputable def res_lexer_natural : Res E (Int × (Bool × Unit)) Unit := { rows := [], flat := [], keep := 0, rl := (RdL.cons (Rd.int .i64) (RdL.cons Rd.bool RdL.nil)), rb := RdBL.nil }
noncomputable def run_lexer_natural : P_lexer_natural → Option R_lexer_natural
 | .start s0 =>
   (atoiRun (s0, ()) ()) >>= fun t1 =>
   if (!t1.1.2.1) = true then
     if (decide ((s0.size : Int) ≤ (9 : Int))) = true then
       (itoaRun (t1.1.1, ()) ()) >>= fun t2 =>
       if (seq t2.1.1 s0) = true then
         (sidx s0 (0 : Int)) >>= fun t3 =>
         (run_lexer_isDigit (.start t3)) >>= fun t4 =>
         some ((t1.1.1, (t4.1.1, ())), ())
       else
         some ((t1.1.1, (false, ())), ())
     else
       some ((t1.1.1, (false, ())), ())
   else
     some ((t1.1.1, (false, ())), ())
noncomputable def tab_lexer_natural : List (Plc E P_lexer_natural) := []
theorem tab_lexer_natural_ok : All (PlcOk 30 0 place_lexer_natural st_lexer_natural) tab_lexer_natural := trivial
noncomputable def code_lexer_natural : Code := Tryz.f36.body.getD .skip
noncomputable def spec_lexer_natural : Spec E.S := (Con.add con_lexer_isDigit (Con.add con_strconv_Itoa (Con.add con_strconv_Atoi noSpec)))
theorem spec_lexer_natural_ok : SpecOk E spec_lexer_natural := (Con.add_ok con_lexer_isDigit_ok (Con.add_ok con_strconv_Itoa_ok (Con.add_ok con_strconv_Atoi_ok noSpec_ok)))
theorem good_lexer_natural : ∀ pt r, run_lexer_natural pt = some r → Good E Tryz.f36 code_lexer_natural 0 (res_lexer_natural.av r) (res_lexer_natural.bx r) (place_lexer_natural pt) (st_lexer_natural pt) := by
  intro pt r hr
  cases pt <;> exact fn_step (spec := spec_lexer_natural) (wr := (fun i => mem i [])) (l := tab_lexer_natural) (z := 30) (p := res_lexer_natural) (run' := fun _ => none) E_ok tab_lexer_natural_ok.mem rfl spec_lexer_natural_ok (fun _ _ h => by cases h) (Eq.trans (by kernel_rfl) hr)
noncomputable def con_lexer_natural : Con E := ⟨36, (ByteArray × Unit), Unit, (RwL.cons Rd.str.w RwL.nil), RdBL.nil, 0, R_lexer_natural, fun a b => run_lexer_natural (.start a.1), res_lexer_natural.av, res_lexer_natural.bx⟩
theorem con_lexer_natural_ok : con_lexer_natural.Ok := fun a b r h => fn_ok (fn := Tryz.f36) (code := code_lexer_natural) E_ok (by kernel_rfl) (by kernel_rfl) (by kernel_rfl) (Nat.le_of_ble_eq_true rfl) (good_lexer_natural (.start a.1) r h)

/-! ### internal/stringslite.Cut -/
inductive P_internal_stringslite_Cut where
 | start (s0 : ByteArray) (sep1 : ByteArray)
noncomputable def place_internal_stringslite_Cut : P_internal_stringslite_Cut → List Bool
 | .start .. => []
noncomputable def st_internal_stringslite_Cut : P_internal_stringslite_Cut → St E.S
 | .start s0 sep1 => st0 23 [.v (.string s0), .v (.string sep1)] []
abbrev R_internal_stringslite_Cut : Type := ((ByteArray × (ByteArray × (Bool × Unit))) × Unit)
noncomputable def res_internal_stringslite_Cut : Res E (ByteArray × (ByteArray × (Bool × Unit))) Unit := { rows := [], flat := [], keep := 0, rl := (RdL.cons Rd.str (RdL.cons Rd.str (RdL.cons Rd.bool RdL.nil))), rb := RdBL.nil }
noncomputable def run_internal_stringslite_Cut : P_internal_stringslite_Cut → Option R_internal_stringslite_Cut
 | .start s0 sep1 =>
   (oneRun Go.Lib.indexByte (s0, sep1, ()) ()) >>= fun t1 =>
   if (decide (t1.1.1 ≥ (0 : Int))) = true then
     (span s0.size (0 : Int) t1.1.1) >>= fun t2 =>
     (span s0.size (IntKind.wrap .i64 (t1.1.1 + (sep1.size : Int))) (s0.size : Int)) >>= fun t3 =>
     some ((s0.extract t2.1 t2.2, (s0.extract t3.1 t3.2, (true, ()))), ())
   else
     some ((s0, ((⟨#[]⟩ : ByteArray), (false, ()))), ())
noncomputable def tab_internal_stringslite_Cut : List (Plc E P_internal_stringslite_Cut) := []
theorem tab_internal_stringslite_Cut_ok : All (PlcOk 23 0 place_internal_stringslite_Cut st_internal_stringslite_Cut) tab_internal_stringslite_Cut := trivial
noncomputable def code_internal_stringslite_Cut : Code := Tryz.f75.body.getD .skip
noncomputable def spec_internal_stringslite_Cut : Spec E.S := (Con.add con_internal_stringslite_Index noSpec)
theorem spec_internal_stringslite_Cut_ok : SpecOk E spec_internal_stringslite_Cut := (Con.add_ok con_internal_stringslite_Index_ok noSpec_ok)
theorem good_internal_stringslite_Cut : ∀ pt r, run_internal_stringslite_Cut pt = some r → Good E Tryz.f75 code_internal_stringslite_Cut 0 (res_internal_stringslite_Cut.av r) (res_internal_stringslite_Cut.bx r) (place_internal_stringslite_Cut pt) (st_internal_stringslite_Cut pt) := by
  intro pt r hr
  cases pt <;> exact fn_step (spec := spec_internal_stringslite_Cut) (wr := (fun i => mem i [])) (l := tab_internal_stringslite_Cut) (z := 23) (p := res_internal_stringslite_Cut) (run' := fun _ => none) E_ok tab_internal_stringslite_Cut_ok.mem rfl spec_internal_stringslite_Cut_ok (fun _ _ h => by cases h) (Eq.trans (by kernel_rfl) hr)
noncomputable def con_internal_stringslite_Cut : Con E := ⟨75, (ByteArray × (ByteArray × Unit)), Unit, (RwL.cons Rd.str.w (RwL.cons Rd.str.w RwL.nil)), RdBL.nil, 0, R_internal_stringslite_Cut, fun a b => run_internal_stringslite_Cut (.start a.1 a.2.1), res_internal_stringslite_Cut.av, res_internal_stringslite_Cut.bx⟩
theorem con_internal_stringslite_Cut_ok : con_internal_stringslite_Cut.Ok := fun a b r h => fn_ok (fn := Tryz.f75) (code := code_internal_stringslite_Cut) E_ok (by kernel_rfl) (by kernel_rfl) (by kernel_rfl) (Nat.le_of_ble_eq_true rfl) (good_internal_stringslite_Cut (.start a.1 a.2.1) r h)

/-! ### strings.Cut -/
inductive P_strings_Cut where
 | start (s0 : ByteArray) (sep1 : ByteArray)
noncomputable def place_strings_Cut : P_strings_Cut → List Bool
 | .start .. => []
noncomputable def st_strings_Cut : P_strings_Cut → St E.S
 | .start s0 sep1 => st0 13 [.v (.string s0), .v (.string sep1)] []
abbrev R_strings_Cut : Type := ((ByteArray × (ByteArray × (Bool × Unit))) × Unit)
noncomputable def res_strings_Cut : Res E (ByteArray × (ByteArray × (Bool × Unit))) Unit := { rows := [], flat := [], keep := 0, rl := (RdL.cons Rd.str (RdL.cons Rd.str (RdL.cons Rd.bool RdL.nil))), rb := RdBL.nil }
noncomputable def run_strings_Cut : P_strings_Cut → Option R_strings_Cut
 | .start s0 sep1 =>
   (run_internal_stringslite_Cut (.start s0 sep1)) >>= fun t1 =>
   some ((t1.1.1, (t1.1.2.1, (t1.1.2.2.1, ()))), ())
noncomputable def tab_strings_Cut : List (Plc E P_strings_Cut) := []
theorem tab_strings_Cut_ok : All (PlcOk 13 0 place_strings_Cut st_strings_Cut) tab_strings_Cut := trivial
noncomputable def code_strings_Cut : Code := Tryz.f35.body.getD .skip
noncomputable def spec_strings_Cut : Spec E.S := (Con.add con_internal_stringslite_Cut noSpec)
theorem spec_strings_Cut_ok : SpecOk E spec_strings_Cut := (Con.add_ok con_internal_stringslite_Cut_ok noSpec_ok)
theorem good_strings_Cut : ∀ pt r, run_strings_Cut pt = some r → Good E Tryz.f35 code_strings_Cut 0 (res_strings_Cut.av r) (res_strings_Cut.bx r) (place_strings_Cut pt) (st_strings_Cut pt) := by
  intro pt r hr
  cases pt <;> exact fn_step (spec := spec_strings_Cut) (wr := (fun i => mem i [])) (l := tab_strings_Cut) (z := 13) (p := res_strings_Cut) (run' := fun _ => none) E_ok tab_strings_Cut_ok.mem rfl spec_strings_Cut_ok (fun _ _ h => by cases h) (Eq.trans (by kernel_rfl) hr)
noncomputable def con_strings_Cut : Con E := ⟨35, (ByteArray × (ByteArray × Unit)), Unit, (RwL.cons Rd.str.w (RwL.cons Rd.str.w RwL.nil)), RdBL.nil, 0, R_strings_Cut, fun a b => run_strings_Cut (.start a.1 a.2.1), res_strings_Cut.av, res_strings_Cut.bx⟩
theorem con_strings_Cut_ok : con_strings_Cut.Ok := fun a b r h => fn_ok (fn := Tryz.f35) (code := code_strings_Cut) E_ok (by kernel_rfl) (by kernel_rfl) (by kernel_rfl) (Nat.le_of_ble_eq_true rfl) (good_strings_Cut (.start a.1 a.2.1) r h)

/-! ### ratchet/lexer.within -/
inductive P_lexer_within where
 | start (n0 : Int) (lo1 : Int) (hi2 : Int)
noncomputable def place_lexer_within : P_lexer_within → List Bool
 | .start .. => []
noncomputable def st_lexer_within : P_lexer_within → St E.S
 | .start n0 lo1 hi2 => st0 15 [.v (.int .i64 n0), .v (.int .i64 lo1), .v (.int .i64 hi2)] []
abbrev R_lexer_within : Type := ((Bool × Unit) × Unit)
noncomputable def res_lexer_within : Res E (Bool × Unit) Unit := { rows := [], flat := [], keep := 0, rl := (RdL.cons Rd.bool RdL.nil), rb := RdBL.nil }
noncomputable def run_lexer_within : P_lexer_within → Option R_lexer_within
 | .start n0 lo1 hi2 =>
   if (decide (lo1 ≤ n0)) = true then
     some ((decide (n0 ≤ hi2), ()), ())
   else
     some ((false, ()), ())
noncomputable def tab_lexer_within : List (Plc E P_lexer_within) := []
theorem tab_lexer_within_ok : All (PlcOk 15 0 place_lexer_within st_lexer_within) tab_lexer_within := trivial
noncomputable def code_lexer_within : Code := Tryz.f32.body.getD .skip
noncomputable def spec_lexer_within : Spec E.S := noSpec
theorem spec_lexer_within_ok : SpecOk E spec_lexer_within := noSpec_ok
theorem good_lexer_within : ∀ pt r, run_lexer_within pt = some r → Good E Tryz.f32 code_lexer_within 0 (res_lexer_within.av r) (res_lexer_within.bx r) (place_lexer_within pt) (st_lexer_within pt) := by
  intro pt r hr
  cases pt <;> exact fn_step (spec := spec_lexer_within) (wr := (fun i => mem i [])) (l := tab_lexer_within) (z := 15) (p := res_lexer_within) (run' := fun _ => none) E_ok tab_lexer_within_ok.mem rfl spec_lexer_within_ok (fun _ _ h => by cases h) (Eq.trans (by kernel_rfl) hr)
noncomputable def con_lexer_within : Con E := ⟨32, (Int × (Int × (Int × Unit))), Unit, (RwL.cons (Rd.int .i64).w (RwL.cons (Rd.int .i64).w (RwL.cons (Rd.int .i64).w RwL.nil))), RdBL.nil, 0, R_lexer_within, fun a b => run_lexer_within (.start a.1 a.2.1 a.2.2.1), res_lexer_within.av, res_lexer_within.bx⟩
theorem con_lexer_within_ok : con_lexer_within.Ok := fun a b r h => fn_ok (fn := Tryz.f32) (code := code_lexer_within) E_ok (by kernel_rfl) (by kernel_rfl) (by kernel_rfl) (Nat.le_of_ble_eq_true rfl) (good_lexer_within (.start a.1 a.2.1 a.2.2.1) r h)

/-! ### internal/stringslite.IndexByte -/
inductive P_internal_stringslite_IndexByte where
 | start (s0 : ByteArray) (c1 : Int)
noncomputable def place_internal_stringslite_IndexByte : P_internal_stringslite_IndexByte → List Bool
 | .start .. => []
noncomputable def st_internal_stringslite_IndexByte : P_internal_stringslite_IndexByte → St E.S
 | .start s0 c1 => st0 8 [.v (.string s0), .v (.int .u8 c1)] []
abbrev R_internal_stringslite_IndexByte : Type := ((Int × Unit) × Unit)
noncomputable def res_internal_stringslite_IndexByte : Res E (Int × Unit) Unit := { rows := [], flat := [], keep := 0, rl := (RdL.cons (Rd.int .i64) RdL.nil), rb := RdBL.nil }
noncomputable def run_internal_stringslite_IndexByte : P_internal_stringslite_IndexByte → Option R_internal_stringslite_IndexByte
 | .start s0 c1 =>
   (byteAt (s0, c1, ()) ()) >>= fun t1 =>
   some ((t1.1.1, ()), ())
noncomputable def tab_internal_stringslite_IndexByte : List (Plc E P_internal_stringslite_IndexByte) := []
theorem tab_internal_stringslite_IndexByte_ok : All (PlcOk 8 0 place_internal_stringslite_IndexByte st_internal_stringslite_IndexByte) tab_internal_stringslite_IndexByte := trivial
noncomputable def code_internal_stringslite_IndexByte : Code := Tryz.f101.body.getD .skip
noncomputable def spec_internal_stringslite_IndexByte : Spec E.S := (Con.add con_internal_bytealg_IndexByteString noSpec)
theorem spec_internal_stringslite_IndexByte_ok : SpecOk E spec_internal_stringslite_IndexByte := (Con.add_ok con_internal_bytealg_IndexByteString_ok noSpec_ok)
theorem good_internal_stringslite_IndexByte : ∀ pt r, run_internal_stringslite_IndexByte pt = some r → Good E Tryz.f101 code_internal_stringslite_IndexByte 0 (res_internal_stringslite_IndexByte.av r) (res_internal_stringslite_IndexByte.bx r) (place_internal_stringslite_IndexByte pt) (st_internal_stringslite_IndexByte pt) := by
  intro pt r hr
  cases pt <;> exact fn_step (spec := spec_internal_stringslite_IndexByte) (wr := (fun i => mem i [])) (l := tab_internal_stringslite_IndexByte) (z := 8) (p := res_internal_stringslite_IndexByte) (run' := fun _ => none) E_ok tab_internal_stringslite_IndexByte_ok.mem rfl spec_internal_stringslite_IndexByte_ok (fun _ _ h => by cases h) (Eq.trans (by kernel_rfl) hr)
noncomputable def con_internal_stringslite_IndexByte : Con E := ⟨101, (ByteArray × (Int × Unit)), Unit, (RwL.cons Rd.str.w (RwL.cons (Rd.int .u8).w RwL.nil)), RdBL.nil, 0, R_internal_stringslite_IndexByte, fun a b => run_internal_stringslite_IndexByte (.start a.1 a.2.1), res_internal_stringslite_IndexByte.av, res_internal_stringslite_IndexByte.bx⟩
theorem con_internal_stringslite_IndexByte_ok : con_internal_stringslite_IndexByte.Ok := fun a b r h => fn_ok (fn := Tryz.f101) (code := code_internal_stringslite_IndexByte) E_ok (by kernel_rfl) (by kernel_rfl) (by kernel_rfl) (Nat.le_of_ble_eq_true rfl) (good_internal_stringslite_IndexByte (.start a.1 a.2.1) r h)

/-! ### strings.IndexByte -/
inductive P_strings_IndexByte where
 | start (s0 : ByteArray) (c1 : Int)
noncomputable def place_strings_IndexByte : P_strings_IndexByte → List Bool
 | .start .. => []
noncomputable def st_strings_IndexByte : P_strings_IndexByte → St E.S
 | .start s0 c1 => st0 8 [.v (.string s0), .v (.int .u8 c1)] []
abbrev R_strings_IndexByte : Type := ((Int × Unit) × Unit)
noncomputable def res_strings_IndexByte : Res E (Int × Unit) Unit := { rows := [], flat := [], keep := 0, rl := (RdL.cons (Rd.int .i64) RdL.nil), rb := RdBL.nil }
noncomputable def run_strings_IndexByte : P_strings_IndexByte → Option R_strings_IndexByte
 | .start s0 c1 =>
   (run_internal_stringslite_IndexByte (.start s0 c1)) >>= fun t1 =>
   some ((t1.1.1, ()), ())
noncomputable def tab_strings_IndexByte : List (Plc E P_strings_IndexByte) := []
theorem tab_strings_IndexByte_ok : All (PlcOk 8 0 place_strings_IndexByte st_strings_IndexByte) tab_strings_IndexByte := trivial
noncomputable def code_strings_IndexByte : Code := Tryz.f77.body.getD .skip
noncomputable def spec_strings_IndexByte : Spec E.S := (Con.add con_internal_stringslite_IndexByte noSpec)
theorem spec_strings_IndexByte_ok : SpecOk E spec_strings_IndexByte := (Con.add_ok con_internal_stringslite_IndexByte_ok noSpec_ok)
theorem good_strings_IndexByte : ∀ pt r, run_strings_IndexByte pt = some r → Good E Tryz.f77 code_strings_IndexByte 0 (res_strings_IndexByte.av r) (res_strings_IndexByte.bx r) (place_strings_IndexByte pt) (st_strings_IndexByte pt) := by
  intro pt r hr
  cases pt <;> exact fn_step (spec := spec_strings_IndexByte) (wr := (fun i => mem i [])) (l := tab_strings_IndexByte) (z := 8) (p := res_strings_IndexByte) (run' := fun _ => none) E_ok tab_strings_IndexByte_ok.mem rfl spec_strings_IndexByte_ok (fun _ _ h => by cases h) (Eq.trans (by kernel_rfl) hr)
noncomputable def con_strings_IndexByte : Con E := ⟨77, (ByteArray × (Int × Unit)), Unit, (RwL.cons Rd.str.w (RwL.cons (Rd.int .u8).w RwL.nil)), RdBL.nil, 0, R_strings_IndexByte, fun a b => run_strings_IndexByte (.start a.1 a.2.1), res_strings_IndexByte.av, res_strings_IndexByte.bx⟩
theorem con_strings_IndexByte_ok : con_strings_IndexByte.Ok := fun a b r h => fn_ok (fn := Tryz.f77) (code := code_strings_IndexByte) E_ok (by kernel_rfl) (by kernel_rfl) (by kernel_rfl) (Nat.le_of_ble_eq_true rfl) (good_strings_IndexByte (.start a.1 a.2.1) r h)

/-! ### ratchet/lexer.baseOf -/
inductive P_lexer_baseOf where
 | start (sign0 : Int)
noncomputable def place_lexer_baseOf : P_lexer_baseOf → List Bool
 | .start .. => []
noncomputable def st_lexer_baseOf : P_lexer_baseOf → St E.S
 | .start sign0 => st0 8 [.v (.int .u8 sign0)] []
abbrev R_lexer_baseOf : Type := ((Int × Unit) × Unit)
noncomputable def res_lexer_baseOf : Res E (Int × Unit) Unit := { rows := [], flat := [], keep := 0, rl := (RdL.cons (Rd.int .i64) RdL.nil), rb := RdBL.nil }
noncomputable def run_lexer_baseOf : P_lexer_baseOf → Option R_lexer_baseOf
 | .start sign0 =>
   (run_strings_IndexByte (.start (⟨#[98, 100, 104]⟩ : ByteArray) sign0)) >>= fun t1 =>
   if (decide ((IntKind.wrap .i64 ((1 : Int) + t1.1.1)) = 0)) = true then
     some (((0 : Int), ()), ())
   else
     if (decide ((IntKind.wrap .i64 ((1 : Int) + t1.1.1)) = 1)) = true then
       some (((2 : Int), ()), ())
     else
       if (decide ((IntKind.wrap .i64 ((1 : Int) + t1.1.1)) = 2)) = true then
         some (((10 : Int), ()), ())
       else
         if (decide ((IntKind.wrap .i64 ((1 : Int) + t1.1.1)) = 3)) = true then
           some (((16 : Int), ()), ())
         else none
noncomputable def tab_lexer_baseOf : List (Plc E P_lexer_baseOf) := []
theorem tab_lexer_baseOf_ok : All (PlcOk 8 0 place_lexer_baseOf st_lexer_baseOf) tab_lexer_baseOf := trivial
noncomputable def code_lexer_baseOf : Code := Tryz.f37.body.getD .skip
noncomputable def spec_lexer_baseOf : Spec E.S := (Con.add con_strings_IndexByte noSpec)
theorem spec_lexer_baseOf_ok : SpecOk E spec_lexer_baseOf := (Con.add_ok con_strings_IndexByte_ok noSpec_ok)
theorem good_lexer_baseOf : ∀ pt r, run_lexer_baseOf pt = some r → Good E Tryz.f37 code_lexer_baseOf 0 (res_lexer_baseOf.av r) (res_lexer_baseOf.bx r) (place_lexer_baseOf pt) (st_lexer_baseOf pt) := by
  intro pt r hr
  cases pt <;> exact fn_step (spec := spec_lexer_baseOf) (wr := (fun i => mem i [])) (l := tab_lexer_baseOf) (z := 8) (p := res_lexer_baseOf) (run' := fun _ => none) E_ok tab_lexer_baseOf_ok.mem rfl spec_lexer_baseOf_ok (fun _ _ h => by cases h) (Eq.trans (by kernel_rfl) hr)
noncomputable def con_lexer_baseOf : Con E := ⟨37, (Int × Unit), Unit, (RwL.cons (Rd.int .u8).w RwL.nil), RdBL.nil, 0, R_lexer_baseOf, fun a b => run_lexer_baseOf (.start a.1), res_lexer_baseOf.av, res_lexer_baseOf.bx⟩
theorem con_lexer_baseOf_ok : con_lexer_baseOf.Ok := fun a b r h => fn_ok (fn := Tryz.f37) (code := code_lexer_baseOf) E_ok (by kernel_rfl) (by kernel_rfl) (by kernel_rfl) (Nat.le_of_ble_eq_true rfl) (good_lexer_baseOf (.start a.1) r h)

/-! ### ratchet/lexer.digitOf -/
inductive P_lexer_digitOf where
 | start (c0 : Int)
noncomputable def place_lexer_digitOf : P_lexer_digitOf → List Bool
 | .start .. => []
noncomputable def st_lexer_digitOf : P_lexer_digitOf → St E.S
 | .start c0 => st0 5 [.v (.int .u8 c0)] []
abbrev R_lexer_digitOf : Type := ((Int × Unit) × Unit)
noncomputable def res_lexer_digitOf : Res E (Int × Unit) Unit := { rows := [], flat := [], keep := 0, rl := (RdL.cons (Rd.int .i64) RdL.nil), rb := RdBL.nil }
noncomputable def run_lexer_digitOf : P_lexer_digitOf → Option R_lexer_digitOf
 | .start c0 =>
   (run_strings_IndexByte (.start (⟨#[48, 49, 50, 51, 52, 53, 54, 55, 56, 57, 97, 98, 99, 100, 101, 102]⟩ : ByteArray) c0)) >>= fun t1 =>
   some ((t1.1.1, ()), ())
noncomputable def tab_lexer_digitOf : List (Plc E P_lexer_digitOf) := []
theorem tab_lexer_digitOf_ok : All (PlcOk 5 0 place_lexer_digitOf st_lexer_digitOf) tab_lexer_digitOf := trivial
noncomputable def code_lexer_digitOf : Code := Tryz.f38.body.getD .skip
noncomputable def spec_lexer_digitOf : Spec E.S := (Con.add con_strings_IndexByte noSpec)
theorem spec_lexer_digitOf_ok : SpecOk E spec_lexer_digitOf := (Con.add_ok con_strings_IndexByte_ok noSpec_ok)
theorem good_lexer_digitOf : ∀ pt r, run_lexer_digitOf pt = some r → Good E Tryz.f38 code_lexer_digitOf 0 (res_lexer_digitOf.av r) (res_lexer_digitOf.bx r) (place_lexer_digitOf pt) (st_lexer_digitOf pt) := by
  intro pt r hr
  cases pt <;> exact fn_step (spec := spec_lexer_digitOf) (wr := (fun i => mem i [])) (l := tab_lexer_digitOf) (z := 5) (p := res_lexer_digitOf) (run' := fun _ => none) E_ok tab_lexer_digitOf_ok.mem rfl spec_lexer_digitOf_ok (fun _ _ h => by cases h) (Eq.trans (by kernel_rfl) hr)
noncomputable def con_lexer_digitOf : Con E := ⟨38, (Int × Unit), Unit, (RwL.cons (Rd.int .u8).w RwL.nil), RdBL.nil, 0, R_lexer_digitOf, fun a b => run_lexer_digitOf (.start a.1), res_lexer_digitOf.av, res_lexer_digitOf.bx⟩
theorem con_lexer_digitOf_ok : con_lexer_digitOf.Ok := fun a b r h => fn_ok (fn := Tryz.f38) (code := code_lexer_digitOf) E_ok (by kernel_rfl) (by kernel_rfl) (by kernel_rfl) (Nat.le_of_ble_eq_true rfl) (good_lexer_digitOf (.start a.1) r h)

/-! ### ratchet/lexer.ParseLiteral -/
inductive P_lexer_ParseLiteral where
 | start (s0 : ByteArray)
 | p31 (rest5 : ByteArray) (width7 : Int) (B0_0 : Int) (B0_1 : Int)
 | p2036 (width7 : Int) (base9 : Int) (value10 : Int) (most11 : Int) (s44 : (List Int)) (s45 : Int) (s46 : Int) (B0_0 : Int) (B0_1 : Int)
 | p260711 (width7 : Int) (base9 : Int) (value10 : Int) (most11 : Int) (d14 : Int) (s44 : (List Int)) (s45 : Int) (s46 : Int) (B0_0 : Int) (B0_1 : Int)
noncomputable def place_lexer_ParseLiteral : P_lexer_ParseLiteral → List Bool
 | .start .. => []
 | .p31 .. => [true, true, true, true]
 | .p2036 .. => [false, false, true, false, true, true, true, true, true, true]
 | .p260711 .. => [true, true, true, false, false, true, true, false, false, true, false, true, true, true, true, true, true]
noncomputable def st_lexer_ParseLiteral : P_lexer_ParseLiteral → St E.S
 | .start s0 => st0 81 [.v (.string s0)] []
 | .p31 rest5 width7 B0_0 B0_1 => mkSt 81 [2, 5, 7] [.bp 0 0, .v (.string rest5), .v (.int .i64 width7)] [.var 47 [.v (.int .i64 B0_0), .v (.int .i64 B0_1)]]
 | .p2036 width7 base9 value10 most11 s44 s45 s46 B0_0 B0_1 => mkSt 81 [2, 7, 9, 10, 11, 44, 45, 46] [.bp 0 0, .v (.int .i64 width7), .v (.int .i64 base9), .v (.int .i64 value10), .v (.int .i64 most11), .sl 5 s44 false, .v (.int .i64 s45), .v (.int .i64 s46)] [.var 47 [.v (.int .i64 B0_0), .v (.int .i64 B0_1)]]
 | .p260711 width7 base9 value10 most11 d14 s44 s45 s46 B0_0 B0_1 => mkSt 81 [2, 7, 9, 10, 11, 14, 44, 45, 46] [.bp 0 0, .v (.int .i64 width7), .v (.int .i64 base9), .v (.int .i64 value10), .v (.int .i64 most11), .v (.int .i64 d14), .sl 5 s44 false, .v (.int .i64 s45), .v (.int .i64 s46)] [.var 47 [.v (.int .i64 B0_0), .v (.int .i64 B0_1)]]
abbrev R_lexer_ParseLiteral : Type := (((Int × (Int × Unit)) × (Int × Unit)) × Unit)
noncomputable def res_lexer_ParseLiteral : Res E ((Int × (Int × Unit)) × (Int × Unit)) Unit := { rows := [], flat := [], keep := 0, rl := (RdL.cons (Rd.agg (RdL.cons (Rd.int .i64) (RdL.cons (Rd.int .i64) RdL.nil))) (RdL.cons (Rd.int .i64) RdL.nil)), rb := RdBL.nil }
noncomputable def run_lexer_ParseLiteral : P_lexer_ParseLiteral → Option R_lexer_ParseLiteral
 | .start s0 =>
   (run_strings_Cut (.start s0 (⟨#[39]⟩ : ByteArray))) >>= fun t1 =>
   (run_lexer_natural (.start t1.1.1)) >>= fun t2 =>
   if (!t1.1.2.2.1) = true then
     some ((((0 : Int), ((0 : Int), ())), ((7 : Int), ())), ())
   else
     if (!t2.1.2.1) = true then
       some ((((0 : Int), ((0 : Int), ())), ((7 : Int), ())), ())
     else
       (run_lexer_within (.start (t1.1.2.1.size : Int) (2 : Int) (17 : Int))) >>= fun t3 =>
       if (!t3.1.1) = true then
         some ((((0 : Int), ((0 : Int), ())), ((7 : Int), ())), ())
       else
         run_lexer_ParseLiteral (.p31 t1.1.2.1 t2.1.1 (0 : Int) (0 : Int))
 | .p31 rest5 width7 B0_0 B0_1 =>
   (sidx rest5 (0 : Int)) >>= fun t1 =>
   (run_lexer_baseOf (.start t1)) >>= fun t2 =>
   (span rest5.size (1 : Int) (rest5.size : Int)) >>= fun t3 =>
   run_lexer_ParseLiteral (.p2036 width7 t2.1.1 (0 : Int) (65536 : Int) (strBytes (rest5.extract t3.1 t3.2)) (List.length (strBytes (rest5.extract t3.1 t3.2)) : Int) (0 : Int) B0_0 B0_1)
 | .p2036 width7 base9 value10 most11 s44 s45 s46 B0_0 B0_1 =>
   if (decide (s46 < s45)) = true then
     (idx s44 s46) >>= fun t1 =>
     (run_lexer_digitOf (.start t1)) >>= fun t2 =>
     if (decide (t2.1.1 < (0 : Int))) = true then
       some ((((0 : Int), ((0 : Int), ())), ((7 : Int), ())), ())
     else
       if (decide (t2.1.1 ≥ base9)) = true then
         some ((((0 : Int), ((0 : Int), ())), ((7 : Int), ())), ())
       else
         run_lexer_ParseLiteral (.p260711 width7 base9 value10 most11 t2.1.1 s44 s45 s46 B0_0 B0_1)
   else
     (run_lexer_within (.start width7 (1 : Int) (16 : Int))) >>= fun t3 =>
     if (!t3.1.1) = true then
       some ((((0 : Int), ((0 : Int), ())), ((2 : Int), ())), ())
     else
       if (decide ((0 : Int) ≤ width7)) = true then
         if (decide (value10 ≥ (shl .i64 (1 : Int) width7))) = true then
           some ((((0 : Int), ((0 : Int), ())), ((2 : Int), ())), ())
         else
           some (((value10, (width7, ())), ((0 : Int), ())), ())
       else none
 | .p260711 width7 base9 value10 most11 d14 s44 s45 s46 B0_0 B0_1 =>
   run_lexer_ParseLiteral (.p2036 width7 base9 (if (IntKind.wrap .i64 ((IntKind.wrap .i64 (value10 * base9)) + d14)) < most11 then (IntKind.wrap .i64 ((IntKind.wrap .i64 (value10 * base9)) + d14)) else most11) most11 s44 s45 (IntKind.wrap .i64 (s46 + (1 : Int))) B0_0 B0_1)
  partial_fixpoint
noncomputable def tab_lexer_ParseLiteral : List (Plc E P_lexer_ParseLiteral) := [⟨31, [true, true, true, true], { slots := [2, 5, 7], rows := [], flat := [], keep := 0 }, (Unit × (ByteArray × (Int × Unit))), ((Int × (Int × Unit)) × Unit), (RdL.cons (Rd.bp 0 0) (RdL.cons Rd.str (RdL.cons (Rd.int .i64) RdL.nil))), (RdBL.cons (RdB.var 47 (RdL.cons (Rd.int .i64) (RdL.cons (Rd.int .i64) RdL.nil))) RdBL.nil), fun a b => .p31 a.2.1 a.2.2.1 b.1.1 b.1.2.1⟩,
  ⟨2036, [false, false, true, false, true, true, true, true, true, true], { slots := [2, 7, 9, 10, 11, 44, 45, 46], rows := [], flat := [], keep := 0 }, (Unit × (Int × (Int × (Int × (Int × ((List Int) × (Int × (Int × Unit)))))))), ((Int × (Int × Unit)) × Unit), (RdL.cons (Rd.bp 0 0) (RdL.cons (Rd.int .i64) (RdL.cons (Rd.int .i64) (RdL.cons (Rd.int .i64) (RdL.cons (Rd.int .i64) (RdL.cons (Rd.sl 5 false) (RdL.cons (Rd.int .i64) (RdL.cons (Rd.int .i64) RdL.nil)))))))), (RdBL.cons (RdB.var 47 (RdL.cons (Rd.int .i64) (RdL.cons (Rd.int .i64) RdL.nil))) RdBL.nil), fun a b => .p2036 a.2.1 a.2.2.1 a.2.2.2.1 a.2.2.2.2.1 a.2.2.2.2.2.1 a.2.2.2.2.2.2.1 a.2.2.2.2.2.2.2.1 b.1.1 b.1.2.1⟩,
  ⟨260711, [true, true, true, false, false, true, true, false, false, true, false, true, true, true, true, true, true], { slots := [2, 7, 9, 10, 11, 14, 44, 45, 46], rows := [], flat := [], keep := 0 }, (Unit × (Int × (Int × (Int × (Int × (Int × ((List Int) × (Int × (Int × Unit))))))))), ((Int × (Int × Unit)) × Unit), (RdL.cons (Rd.bp 0 0) (RdL.cons (Rd.int .i64) (RdL.cons (Rd.int .i64) (RdL.cons (Rd.int .i64) (RdL.cons (Rd.int .i64) (RdL.cons (Rd.int .i64) (RdL.cons (Rd.sl 5 false) (RdL.cons (Rd.int .i64) (RdL.cons (Rd.int .i64) RdL.nil))))))))), (RdBL.cons (RdB.var 47 (RdL.cons (Rd.int .i64) (RdL.cons (Rd.int .i64) RdL.nil))) RdBL.nil), fun a b => .p260711 a.2.1 a.2.2.1 a.2.2.2.1 a.2.2.2.2.1 a.2.2.2.2.2.1 a.2.2.2.2.2.2.1 a.2.2.2.2.2.2.2.1 a.2.2.2.2.2.2.2.2.1 b.1.1 b.1.2.1⟩]
theorem tab_lexer_ParseLiteral_ok : All (PlcOk 81 0 place_lexer_ParseLiteral st_lexer_ParseLiteral) tab_lexer_ParseLiteral := ⟨⟨rfl, rfl, fun _ _ => rfl, fun _ _ => rfl⟩, ⟨⟨rfl, rfl, fun _ _ => rfl, fun _ _ => rfl⟩, ⟨⟨rfl, rfl, fun _ _ => rfl, fun _ _ => rfl⟩, trivial⟩⟩⟩
noncomputable def code_lexer_ParseLiteral : Code := Tryz.f17.body.getD .skip
noncomputable def spec_lexer_ParseLiteral : Spec E.S := (Con.add con_lexer_digitOf (Con.add con_lexer_baseOf (Con.add con_lexer_within (Con.add con_lexer_natural (Con.add con_strings_Cut noSpec)))))
theorem spec_lexer_ParseLiteral_ok : SpecOk E spec_lexer_ParseLiteral := (Con.add_ok con_lexer_digitOf_ok (Con.add_ok con_lexer_baseOf_ok (Con.add_ok con_lexer_within_ok (Con.add_ok con_lexer_natural_ok (Con.add_ok con_strings_Cut_ok noSpec_ok)))))
theorem good_lexer_ParseLiteral : ∀ pt r, run_lexer_ParseLiteral pt = some r → Good E Tryz.f17 code_lexer_ParseLiteral 0 (res_lexer_ParseLiteral.av r) (res_lexer_ParseLiteral.bx r) (place_lexer_ParseLiteral pt) (st_lexer_ParseLiteral pt) := by
  refine run_lexer_ParseLiteral.partial_correctness (fun pt r => Good E Tryz.f17 code_lexer_ParseLiteral 0 (res_lexer_ParseLiteral.av r) (res_lexer_ParseLiteral.bx r) (place_lexer_ParseLiteral pt) (st_lexer_ParseLiteral pt)) ?_
  intro run' ih pt r hr
  cases pt <;> exact fn_step (spec := spec_lexer_ParseLiteral) (wr := (fun i => mem i [])) (l := tab_lexer_ParseLiteral) (z := 81) (p := res_lexer_ParseLiteral) E_ok tab_lexer_ParseLiteral_ok.mem rfl spec_lexer_ParseLiteral_ok ih (Eq.trans (by kernel_rfl) hr)
noncomputable def con_lexer_ParseLiteral : Con E := ⟨17, (ByteArray × Unit), Unit, (RwL.cons Rd.str.w RwL.nil), RdBL.nil, 0, R_lexer_ParseLiteral, fun a b => run_lexer_ParseLiteral (.start a.1), res_lexer_ParseLiteral.av, res_lexer_ParseLiteral.bx⟩
theorem con_lexer_ParseLiteral_ok : con_lexer_ParseLiteral.Ok := fun a b r h => fn_ok (fn := Tryz.f17) (code := code_lexer_ParseLiteral) E_ok (by kernel_rfl) (by kernel_rfl) (by kernel_rfl) (Nat.le_of_ble_eq_true rfl) (good_lexer_ParseLiteral (.start a.1) r h)

/-! ### (*ratchet/lexer.scanner).number -/
inductive P_lexer_scanner_number where
 | start (B0_0 : ByteArray) (B0_1 : Int) (B0_2 : Int) (B1_0 : Int) (B1_1 : Int) (B1_2 : ByteArray) (B1_3 : Int) (B1_4 : Int)
noncomputable def place_lexer_scanner_number : P_lexer_scanner_number → List Bool
 | .start .. => []
noncomputable def st_lexer_scanner_number : P_lexer_scanner_number → St E.S
 | .start B0_0 B0_1 B0_2 B1_0 B1_1 B1_2 B1_3 B1_4 => st0 54 [.bp 0 0, .bp 1 0] [.var 67 [.v (.string B0_0), .v (.int .i64 B0_1), .v (.int .i64 B0_2)], .var 33 [.v (.int .i64 B1_0), .v (.int .i64 B1_1), .v (.string B1_2), .v (.int .i64 B1_3), .v (.int .i64 B1_4)]]
abbrev R_lexer_scanner_number : Type := (Unit × ((ByteArray × (Int × (Int × Unit))) × ((Int × (Int × (ByteArray × (Int × (Int × Unit))))) × Unit)))
noncomputable def res_lexer_scanner_number : Res E Unit ((ByteArray × (Int × (Int × Unit))) × ((Int × (Int × (ByteArray × (Int × (Int × Unit))))) × Unit)) := { rows := [], flat := [], keep := 2, rl := RdL.nil, rb := (RdBL.cons (RdB.var 67 (RdL.cons Rd.str (RdL.cons (Rd.int .i64) (RdL.cons (Rd.int .i64) RdL.nil)))) (RdBL.cons (RdB.var 33 (RdL.cons (Rd.int .i64) (RdL.cons (Rd.int .i64) (RdL.cons Rd.str (RdL.cons (Rd.int .i64) (RdL.cons (Rd.int .i64) RdL.nil)))))) RdBL.nil)) }
noncomputable def run_lexer_scanner_number : P_lexer_scanner_number → Option R_lexer_scanner_number
 | .start B0_0 B0_1 B0_2 B1_0 B1_1 B1_2 B1_3 B1_4 =>
   (run_lexer_natural (.start B1_2)) >>= fun t1 =>
   if t1.1.2.1 = true then
     some ((), ((B0_0, (B0_1, (B0_2, ()))), (((3 : Int), (B1_1, (B1_2, (t1.1.1, (B1_4, ()))))), ())))
   else
     (run_lexer_ParseLiteral (.start B1_2)) >>= fun t2 =>
     if (t2.1.2.1 != (0 : Int)) = true then
       (run_lexer_scanner_fail (.start B0_1 t2.1.2.1 B0_0 B0_1 B0_2)) >>= fun t3 =>
       some ((), ((t3.2.1.1, (t3.2.1.2.1, (t3.2.1.2.2.1, ()))), ((B1_0, (B1_1, (B1_2, (B1_3, (B1_4, ()))))), ())))
     else
       some ((), ((B0_0, (B0_1, (B0_2, ()))), (((4 : Int), (B1_1, (B1_2, (t2.1.1.1, (t2.1.1.2.1, ()))))), ())))
noncomputable def tab_lexer_scanner_number : List (Plc E P_lexer_scanner_number) := []
theorem tab_lexer_scanner_number_ok : All (PlcOk 54 2 place_lexer_scanner_number st_lexer_scanner_number) tab_lexer_scanner_number := trivial
noncomputable def code_lexer_scanner_number : Code := Tryz.f60.body.getD .skip
noncomputable def spec_lexer_scanner_number : Spec E.S := (Con.add con_lexer_scanner_fail (Con.add con_lexer_ParseLiteral (Con.add con_lexer_natural noSpec)))
theorem spec_lexer_scanner_number_ok : SpecOk E spec_lexer_scanner_number := (Con.add_ok con_lexer_scanner_fail_ok (Con.add_ok con_lexer_ParseLiteral_ok (Con.add_ok con_lexer_natural_ok noSpec_ok)))
theorem good_lexer_scanner_number : ∀ pt r, run_lexer_scanner_number pt = some r → Good E Tryz.f60 code_lexer_scanner_number 2 (res_lexer_scanner_number.av r) (res_lexer_scanner_number.bx r) (place_lexer_scanner_number pt) (st_lexer_scanner_number pt) := by
  intro pt r hr
  cases pt <;> exact fn_step (spec := spec_lexer_scanner_number) (wr := (fun i => mem i [])) (l := tab_lexer_scanner_number) (z := 54) (p := res_lexer_scanner_number) (run' := fun _ => none) E_ok tab_lexer_scanner_number_ok.mem rfl spec_lexer_scanner_number_ok (fun _ _ h => by cases h) (Eq.trans (by kernel_rfl) hr)
noncomputable def con_lexer_scanner_number : Con E := ⟨60, (Unit × (Unit × Unit)), ((ByteArray × (Int × (Int × Unit))) × ((Int × (Int × (ByteArray × (Int × (Int × Unit))))) × Unit)), (RwL.cons (Rd.bp 0 0).w (RwL.cons (Rd.bp 1 0).w RwL.nil)), (RdBL.cons (RdB.var 67 (RdL.cons Rd.str (RdL.cons (Rd.int .i64) (RdL.cons (Rd.int .i64) RdL.nil)))) (RdBL.cons (RdB.var 33 (RdL.cons (Rd.int .i64) (RdL.cons (Rd.int .i64) (RdL.cons Rd.str (RdL.cons (Rd.int .i64) (RdL.cons (Rd.int .i64) RdL.nil)))))) RdBL.nil)), 2, R_lexer_scanner_number, fun a b => run_lexer_scanner_number (.start b.1.1 b.1.2.1 b.1.2.2.1 b.2.1.1 b.2.1.2.1 b.2.1.2.2.1 b.2.1.2.2.2.1 b.2.1.2.2.2.2.1), res_lexer_scanner_number.av, res_lexer_scanner_number.bx⟩
theorem con_lexer_scanner_number_ok : con_lexer_scanner_number.Ok := fun a b r h => fn_ok (fn := Tryz.f60) (code := code_lexer_scanner_number) E_ok (by kernel_rfl) (by kernel_rfl) (by kernel_rfl) (Nat.le_of_ble_eq_true rfl) (good_lexer_scanner_number (.start b.1.1 b.1.2.1 b.1.2.2.1 b.2.1.1 b.2.1.2.1 b.2.1.2.2.1 b.2.1.2.2.2.1 b.2.1.2.2.2.2.1) r h)

/-! ### ratchet/lexer.Operators -/
inductive P_lexer_Operators where
 | start
noncomputable def place_lexer_Operators : P_lexer_Operators → List Bool
 | .start => []
noncomputable def st_lexer_Operators : P_lexer_Operators → St E.S
 | .start => st0 2 [] []
abbrev R_lexer_Operators : Type := (((List ByteArray) × Unit) × Unit)
noncomputable def res_lexer_Operators : Res E ((List ByteArray) × Unit) Unit := { rows := [], flat := [], keep := 0, rl := (RdL.cons (Rd.sl 9 true) RdL.nil), rb := RdBL.nil }
noncomputable def run_lexer_Operators : P_lexer_Operators → Option R_lexer_Operators
 | .start =>
   some ((([(⟨#[33]⟩ : ByteArray), (⟨#[33, 61]⟩ : ByteArray), (⟨#[38]⟩ : ByteArray), (⟨#[38, 38]⟩ : ByteArray), (⟨#[40]⟩ : ByteArray), (⟨#[41]⟩ : ByteArray), (⟨#[42]⟩ : ByteArray), (⟨#[43]⟩ : ByteArray), (⟨#[43, 43]⟩ : ByteArray), (⟨#[44]⟩ : ByteArray), (⟨#[45]⟩ : ByteArray), (⟨#[45, 62]⟩ : ByteArray), (⟨#[46]⟩ : ByteArray), (⟨#[46, 46]⟩ : ByteArray), (⟨#[58]⟩ : ByteArray), (⟨#[59]⟩ : ByteArray), (⟨#[60]⟩ : ByteArray), (⟨#[60, 60]⟩ : ByteArray), (⟨#[60, 61]⟩ : ByteArray), (⟨#[61]⟩ : ByteArray), (⟨#[61, 61]⟩ : ByteArray), (⟨#[62, 62]⟩ : ByteArray), (⟨#[91]⟩ : ByteArray), (⟨#[92]⟩ : ByteArray), (⟨#[93]⟩ : ByteArray), (⟨#[94]⟩ : ByteArray), (⟨#[95]⟩ : ByteArray), (⟨#[123]⟩ : ByteArray), (⟨#[124]⟩ : ByteArray), (⟨#[124, 124]⟩ : ByteArray), (⟨#[125]⟩ : ByteArray), (⟨#[126]⟩ : ByteArray)] : List ByteArray), ()), ())
noncomputable def tab_lexer_Operators : List (Plc E P_lexer_Operators) := []
theorem tab_lexer_Operators_ok : All (PlcOk 2 0 place_lexer_Operators st_lexer_Operators) tab_lexer_Operators := trivial
noncomputable def code_lexer_Operators : Code := Tryz.f95.body.getD .skip
noncomputable def spec_lexer_Operators : Spec E.S := noSpec
theorem spec_lexer_Operators_ok : SpecOk E spec_lexer_Operators := noSpec_ok
theorem good_lexer_Operators : ∀ pt r, run_lexer_Operators pt = some r → Good E Tryz.f95 code_lexer_Operators 0 (res_lexer_Operators.av r) (res_lexer_Operators.bx r) (place_lexer_Operators pt) (st_lexer_Operators pt) := by
  intro pt r hr
  cases pt <;> exact fn_step (spec := spec_lexer_Operators) (wr := (fun i => mem i [])) (l := tab_lexer_Operators) (z := 2) (p := res_lexer_Operators) (run' := fun _ => none) E_ok tab_lexer_Operators_ok.mem rfl spec_lexer_Operators_ok (fun _ _ h => by cases h) (Eq.trans (by kernel_rfl) hr)
noncomputable def con_lexer_Operators : Con E := ⟨95, Unit, Unit, RwL.nil, RdBL.nil, 0, R_lexer_Operators, fun a b => run_lexer_Operators (.start), res_lexer_Operators.av, res_lexer_Operators.bx⟩
theorem con_lexer_Operators_ok : con_lexer_Operators.Ok := fun a b r h => fn_ok (fn := Tryz.f95) (code := code_lexer_Operators) E_ok (by kernel_rfl) (by kernel_rfl) (by kernel_rfl) (Nat.le_of_ble_eq_true rfl) (good_lexer_Operators (.start) r h)

/-! ### (*ratchet/lexer.scanner).operator -/
inductive P_lexer_scanner_operator where
 | start (B0_0 : ByteArray) (B0_1 : Int) (B0_2 : Int)
 | p116 (best3 : ByteArray) (s7 : (List ByteArray)) (s8 : Int) (s9 : Int) (B0_0 : ByteArray) (B0_1 : Int) (B0_2 : Int)
noncomputable def place_lexer_scanner_operator : P_lexer_scanner_operator → List Bool
 | .start .. => []
 | .p116 .. => [false, false, true, false, true, true]
noncomputable def st_lexer_scanner_operator : P_lexer_scanner_operator → St E.S
 | .start B0_0 B0_1 B0_2 => st0 46 [.bp 0 0] [.var 67 [.v (.string B0_0), .v (.int .i64 B0_1), .v (.int .i64 B0_2)]]
 | .p116 best3 s7 s8 s9 B0_0 B0_1 B0_2 => mkSt 46 [0, 3, 7, 8, 9] [.bp 0 0, .v (.string best3), .sl 9 s7 true, .v (.int .i64 s8), .v (.int .i64 s9)] [.var 67 [.v (.string B0_0), .v (.int .i64 B0_1), .v (.int .i64 B0_2)]]
abbrev R_lexer_scanner_operator : Type := ((ByteArray × Unit) × ((ByteArray × (Int × (Int × Unit))) × Unit))
noncomputable def res_lexer_scanner_operator : Res E (ByteArray × Unit) ((ByteArray × (Int × (Int × Unit))) × Unit) := { rows := [], flat := [], keep := 1, rl := (RdL.cons Rd.str RdL.nil), rb := (RdBL.cons (RdB.var 67 (RdL.cons Rd.str (RdL.cons (Rd.int .i64) (RdL.cons (Rd.int .i64) RdL.nil)))) RdBL.nil) }
noncomputable def run_lexer_scanner_operator : P_lexer_scanner_operator → Option R_lexer_scanner_operator
 | .start B0_0 B0_1 B0_2 =>
   (run_lexer_Operators .start) >>= fun t1 =>
   run_lexer_scanner_operator (.p116 (⟨#[]⟩ : ByteArray) t1.1.1 (List.length t1.1.1 : Int) (0 : Int) B0_0 B0_1 B0_2)
 | .p116 best3 s7 s8 s9 B0_0 B0_1 B0_2 =>
   if (decide (s9 < s8)) = true then
     (idx s7 s9) >>= fun t1 =>
     (run_lexer_scanner_has (.start t1 B0_0 B0_1 B0_2)) >>= fun t2 =>
     if t2.1.1 = true then
       if (decide ((t1.size : Int) > (best3.size : Int))) = true then
         run_lexer_scanner_operator (.p116 t1 s7 s8 (IntKind.wrap .i64 (s9 + (1 : Int))) t2.2.1.1 t2.2.1.2.1 t2.2.1.2.2.1)
       else
         run_lexer_scanner_operator (.p116 best3 s7 s8 (IntKind.wrap .i64 (s9 + (1 : Int))) t2.2.1.1 t2.2.1.2.1 t2.2.1.2.2.1)
     else
       run_lexer_scanner_operator (.p116 best3 s7 s8 (IntKind.wrap .i64 (s9 + (1 : Int))) t2.2.1.1 t2.2.1.2.1 t2.2.1.2.2.1)
   else
     if (seq best3 (⟨#[]⟩ : ByteArray)) = true then
       (sidx B0_0 B0_1) >>= fun t3 =>
       (run_lexer_isPermitted (.start t3)) >>= fun t4 =>
       if (!t4.1.1) = true then
         (run_lexer_scanner_fail (.start B0_1 (15 : Int) B0_0 B0_1 B0_2)) >>= fun t5 =>
         some ((best3, ()), ((t5.2.1.1, (t5.2.1.2.1, (t5.2.1.2.2.1, ()))), ()))
       else
         (run_lexer_scanner_fail (.start B0_1 (7 : Int) B0_0 B0_1 B0_2)) >>= fun t6 =>
         some ((best3, ()), ((t6.2.1.1, (t6.2.1.2.1, (t6.2.1.2.2.1, ()))), ()))
     else
       some ((best3, ()), ((B0_0, (B0_1, (B0_2, ()))), ()))
  partial_fixpoint
noncomputable def tab_lexer_scanner_operator : List (Plc E P_lexer_scanner_operator) := [⟨116, [false, false, true, false, true, true], { slots := [0, 3, 7, 8, 9], rows := [], flat := [], keep := 1 }, (Unit × (ByteArray × ((List ByteArray) × (Int × (Int × Unit))))), ((ByteArray × (Int × (Int × Unit))) × Unit), (RdL.cons (Rd.bp 0 0) (RdL.cons Rd.str (RdL.cons (Rd.sl 9 true) (RdL.cons (Rd.int .i64) (RdL.cons (Rd.int .i64) RdL.nil))))), (RdBL.cons (RdB.var 67 (RdL.cons Rd.str (RdL.cons (Rd.int .i64) (RdL.cons (Rd.int .i64) RdL.nil)))) RdBL.nil), fun a b => .p116 a.2.1 a.2.2.1 a.2.2.2.1 a.2.2.2.2.1 b.1.1 b.1.2.1 b.1.2.2.1⟩]
theorem tab_lexer_scanner_operator_ok : All (PlcOk 46 1 place_lexer_scanner_operator st_lexer_scanner_operator) tab_lexer_scanner_operator := ⟨⟨rfl, rfl, fun _ _ => rfl, fun _ _ => rfl⟩, trivial⟩
noncomputable def code_lexer_scanner_operator : Code := Tryz.f61.body.getD .skip
noncomputable def spec_lexer_scanner_operator : Spec E.S := (Con.add con_lexer_scanner_fail (Con.add con_lexer_isPermitted (Con.add con_lexer_scanner_has (Con.add con_lexer_Operators noSpec))))
theorem spec_lexer_scanner_operator_ok : SpecOk E spec_lexer_scanner_operator := (Con.add_ok con_lexer_scanner_fail_ok (Con.add_ok con_lexer_isPermitted_ok (Con.add_ok con_lexer_scanner_has_ok (Con.add_ok con_lexer_Operators_ok noSpec_ok))))
theorem good_lexer_scanner_operator : ∀ pt r, run_lexer_scanner_operator pt = some r → Good E Tryz.f61 code_lexer_scanner_operator 1 (res_lexer_scanner_operator.av r) (res_lexer_scanner_operator.bx r) (place_lexer_scanner_operator pt) (st_lexer_scanner_operator pt) := by
  refine run_lexer_scanner_operator.partial_correctness (fun pt r => Good E Tryz.f61 code_lexer_scanner_operator 1 (res_lexer_scanner_operator.av r) (res_lexer_scanner_operator.bx r) (place_lexer_scanner_operator pt) (st_lexer_scanner_operator pt)) ?_
  intro run' ih pt r hr
  cases pt <;> exact fn_step (spec := spec_lexer_scanner_operator) (wr := (fun i => mem i [])) (l := tab_lexer_scanner_operator) (z := 46) (p := res_lexer_scanner_operator) E_ok tab_lexer_scanner_operator_ok.mem rfl spec_lexer_scanner_operator_ok ih (Eq.trans (by kernel_rfl) hr)
noncomputable def con_lexer_scanner_operator : Con E := ⟨61, (Unit × Unit), ((ByteArray × (Int × (Int × Unit))) × Unit), (RwL.cons (Rd.bp 0 0).w RwL.nil), (RdBL.cons (RdB.var 67 (RdL.cons Rd.str (RdL.cons (Rd.int .i64) (RdL.cons (Rd.int .i64) RdL.nil)))) RdBL.nil), 1, R_lexer_scanner_operator, fun a b => run_lexer_scanner_operator (.start b.1.1 b.1.2.1 b.1.2.2.1), res_lexer_scanner_operator.av, res_lexer_scanner_operator.bx⟩
theorem con_lexer_scanner_operator_ok : con_lexer_scanner_operator.Ok := fun a b r h => fn_ok (fn := Tryz.f61) (code := code_lexer_scanner_operator) E_ok (by kernel_rfl) (by kernel_rfl) (by kernel_rfl) (Nat.le_of_ble_eq_true rfl) (good_lexer_scanner_operator (.start b.1.1 b.1.2.1 b.1.2.2.1) r h)

/-! ### (*ratchet/lexer.scanner).token -/
inductive P_lexer_scanner_token where
 | start (B0_0 : ByteArray) (B0_1 : Int) (B0_2 : Int)
 | p15 (B0_0 : ByteArray) (B0_1 : Int) (B0_2 : Int) (B1_0 : Int) (B1_1 : Int) (B1_2 : ByteArray) (B1_3 : Int) (B1_4 : Int) (B2_0 : Int) (B2_1 : Int) (B2_2 : ByteArray) (B2_3 : Int) (B2_4 : Int)
noncomputable def place_lexer_scanner_token : P_lexer_scanner_token → List Bool
 | .start .. => []
 | .p15 .. => [true, true, true]
noncomputable def st_lexer_scanner_token : P_lexer_scanner_token → St E.S
 | .start B0_0 B0_1 B0_2 => st0 57 [.bp 0 0] [.var 67 [.v (.string B0_0), .v (.int .i64 B0_1), .v (.int .i64 B0_2)]]
 | .p15 B0_0 B0_1 B0_2 B1_0 B1_1 B1_2 B1_3 B1_4 B2_0 B2_1 B2_2 B2_3 B2_4 => mkSt 57 [0, 2, 3] [.bp 0 0, .bp 1 0, .bp 2 0] [.var 67 [.v (.string B0_0), .v (.int .i64 B0_1), .v (.int .i64 B0_2)], .var 33 [.v (.int .i64 B1_0), .v (.int .i64 B1_1), .v (.string B1_2), .v (.int .i64 B1_3), .v (.int .i64 B1_4)], .var 33 [.v (.int .i64 B2_0), .v (.int .i64 B2_1), .v (.string B2_2), .v (.int .i64 B2_3), .v (.int .i64 B2_4)]]
abbrev R_lexer_scanner_token : Type := (((Int × (Int × (ByteArray × (Int × (Int × Unit))))) × Unit) × ((ByteArray × (Int × (Int × Unit))) × Unit))
noncomputable def res_lexer_scanner_token : Res E ((Int × (Int × (ByteArray × (Int × (Int × Unit))))) × Unit) ((ByteArray × (Int × (Int × Unit))) × Unit) := { rows := [], flat := [], keep := 1, rl := (RdL.cons (Rd.agg (RdL.cons (Rd.int .i64) (RdL.cons (Rd.int .i64) (RdL.cons Rd.str (RdL.cons (Rd.int .i64) (RdL.cons (Rd.int .i64) RdL.nil)))))) RdL.nil), rb := (RdBL.cons (RdB.var 67 (RdL.cons Rd.str (RdL.cons (Rd.int .i64) (RdL.cons (Rd.int .i64) RdL.nil)))) RdBL.nil) }
noncomputable def run_lexer_scanner_token : P_lexer_scanner_token → Option R_lexer_scanner_token
 | .start B0_0 B0_1 B0_2 =>
   (sidx B0_0 B0_1) >>= fun t1 =>
   (run_lexer_isLetter (.start t1)) >>= fun t2 =>
   if t2.1.1 = true then
     (run_lexer_scanner_word (.start B0_0 B0_1 B0_2)) >>= fun t3 =>
     run_lexer_scanner_token (.p15 t3.2.1.1 t3.2.1.2.1 t3.2.1.2.2.1 (0 : Int) (0 : Int) (⟨#[]⟩ : ByteArray) (0 : Int) (0 : Int) t3.1.1 B0_1 t3.1.2.1 (0 : Int) (0 : Int))
   else
     (run_lexer_isDigit (.start t1)) >>= fun t4 =>
     if t4.1.1 = true then
       (run_lexer_scanner_run_v1 (.start B0_0 B0_1 B0_2)) >>= fun t5 =>
       (run_lexer_scanner_number (.start t5.2.1.1 t5.2.1.2.1 t5.2.1.2.2.1 (0 : Int) B0_1 t5.1.1 (0 : Int) (0 : Int))) >>= fun t6 =>
       run_lexer_scanner_token (.p15 t6.2.1.1 t6.2.1.2.1 t6.2.1.2.2.1 (0 : Int) (0 : Int) (⟨#[]⟩ : ByteArray) (0 : Int) (0 : Int) t6.2.2.1.1 t6.2.2.1.2.1 t6.2.2.1.2.2.1 t6.2.2.1.2.2.2.1 t6.2.2.1.2.2.2.2.1)
     else
       (run_lexer_scanner_operator (.start B0_0 B0_1 B0_2)) >>= fun t7 =>
       run_lexer_scanner_token (.p15 t7.2.1.1 t7.2.1.2.1 t7.2.1.2.2.1 (0 : Int) (0 : Int) (⟨#[]⟩ : ByteArray) (0 : Int) (0 : Int) (5 : Int) B0_1 t7.1.1 (0 : Int) (0 : Int))
 | .p15 B0_0 B0_1 B0_2 B1_0 B1_1 B1_2 B1_3 B1_4 B2_0 B2_1 B2_2 B2_3 B2_4 =>
   if (B0_2 == (0 : Int)) = true then
     some (((B2_0, (B2_1, (B2_2, (B2_3, (B2_4, ()))))), ()), ((B0_0, (IntKind.wrap .i64 (B0_1 + (B2_2.size : Int)), (B0_2, ()))), ()))
   else
     some (((B2_0, (B2_1, (B2_2, (B2_3, (B2_4, ()))))), ()), ((B0_0, (B0_1, (B0_2, ()))), ()))
  partial_fixpoint
noncomputable def tab_lexer_scanner_token : List (Plc E P_lexer_scanner_token) := [⟨15, [true, true, true], { slots := [0, 2, 3], rows := [], flat := [], keep := 1 }, (Unit × (Unit × (Unit × Unit))), ((ByteArray × (Int × (Int × Unit))) × ((Int × (Int × (ByteArray × (Int × (Int × Unit))))) × ((Int × (Int × (ByteArray × (Int × (Int × Unit))))) × Unit))), (RdL.cons (Rd.bp 0 0) (RdL.cons (Rd.bp 1 0) (RdL.cons (Rd.bp 2 0) RdL.nil))), (RdBL.cons (RdB.var 67 (RdL.cons Rd.str (RdL.cons (Rd.int .i64) (RdL.cons (Rd.int .i64) RdL.nil)))) (RdBL.cons (RdB.var 33 (RdL.cons (Rd.int .i64) (RdL.cons (Rd.int .i64) (RdL.cons Rd.str (RdL.cons (Rd.int .i64) (RdL.cons (Rd.int .i64) RdL.nil)))))) (RdBL.cons (RdB.var 33 (RdL.cons (Rd.int .i64) (RdL.cons (Rd.int .i64) (RdL.cons Rd.str (RdL.cons (Rd.int .i64) (RdL.cons (Rd.int .i64) RdL.nil)))))) RdBL.nil))), fun a b => .p15 b.1.1 b.1.2.1 b.1.2.2.1 b.2.1.1 b.2.1.2.1 b.2.1.2.2.1 b.2.1.2.2.2.1 b.2.1.2.2.2.2.1 b.2.2.1.1 b.2.2.1.2.1 b.2.2.1.2.2.1 b.2.2.1.2.2.2.1 b.2.2.1.2.2.2.2.1⟩]
theorem tab_lexer_scanner_token_ok : All (PlcOk 57 1 place_lexer_scanner_token st_lexer_scanner_token) tab_lexer_scanner_token := ⟨⟨rfl, rfl, fun _ _ => rfl, fun _ _ => rfl⟩, trivial⟩
noncomputable def code_lexer_scanner_token : Code := Tryz.f28.body.getD .skip
noncomputable def spec_lexer_scanner_token : Spec E.S := (Con.add con_lexer_scanner_operator (Con.add con_lexer_scanner_number (Con.add con_lexer_scanner_run_v1 (Con.add con_lexer_isDigit (Con.add con_lexer_scanner_word (Con.add con_lexer_isLetter noSpec))))))
theorem spec_lexer_scanner_token_ok : SpecOk E spec_lexer_scanner_token := (Con.add_ok con_lexer_scanner_operator_ok (Con.add_ok con_lexer_scanner_number_ok (Con.add_ok con_lexer_scanner_run_v1_ok (Con.add_ok con_lexer_isDigit_ok (Con.add_ok con_lexer_scanner_word_ok (Con.add_ok con_lexer_isLetter_ok noSpec_ok))))))
theorem good_lexer_scanner_token : ∀ pt r, run_lexer_scanner_token pt = some r → Good E Tryz.f28 code_lexer_scanner_token 1 (res_lexer_scanner_token.av r) (res_lexer_scanner_token.bx r) (place_lexer_scanner_token pt) (st_lexer_scanner_token pt) := by
  refine run_lexer_scanner_token.partial_correctness (fun pt r => Good E Tryz.f28 code_lexer_scanner_token 1 (res_lexer_scanner_token.av r) (res_lexer_scanner_token.bx r) (place_lexer_scanner_token pt) (st_lexer_scanner_token pt)) ?_
  intro run' ih pt r hr
  cases pt <;> exact fn_step (spec := spec_lexer_scanner_token) (wr := (fun i => mem i [])) (l := tab_lexer_scanner_token) (z := 57) (p := res_lexer_scanner_token) E_ok tab_lexer_scanner_token_ok.mem rfl spec_lexer_scanner_token_ok ih (Eq.trans (by kernel_rfl) hr)
noncomputable def con_lexer_scanner_token : Con E := ⟨28, (Unit × Unit), ((ByteArray × (Int × (Int × Unit))) × Unit), (RwL.cons (Rd.bp 0 0).w RwL.nil), (RdBL.cons (RdB.var 67 (RdL.cons Rd.str (RdL.cons (Rd.int .i64) (RdL.cons (Rd.int .i64) RdL.nil)))) RdBL.nil), 1, R_lexer_scanner_token, fun a b => run_lexer_scanner_token (.start b.1.1 b.1.2.1 b.1.2.2.1), res_lexer_scanner_token.av, res_lexer_scanner_token.bx⟩
theorem con_lexer_scanner_token_ok : con_lexer_scanner_token.Ok := fun a b r h => fn_ok (fn := Tryz.f28) (code := code_lexer_scanner_token) E_ok (by kernel_rfl) (by kernel_rfl) (by kernel_rfl) (Nat.le_of_ble_eq_true rfl) (good_lexer_scanner_token (.start b.1.1 b.1.2.1 b.1.2.2.1) r h)

/-! ### ratchet/lexer.Tokens -/
inductive P_lexer_Tokens where
 | start (text0 : ByteArray)
 | p500 (B0 : (List api_LexerToken)) (B1_0 : ByteArray) (B1_1 : Int) (B1_2 : Int)
noncomputable def place_lexer_Tokens : P_lexer_Tokens → List Bool
 | .start .. => []
 | .p500 .. => [false, false, true, false, true, true, true, true]
noncomputable def st_lexer_Tokens : P_lexer_Tokens → St E.S
 | .start text0 => st0 49 [.v (.string text0)] []
 | .p500 B0 B1_0 B1_1 B1_2 => mkSt 49 [6, 7] [.rw 0, .bp 1 0] [.row 33 B0 true, .var 67 [.v (.string B1_0), .v (.int .i64 B1_1), .v (.int .i64 B1_2)]]
abbrev R_lexer_Tokens : Type := ((Unit × (Int × (Int × Unit))) × ((List api_LexerToken) × Unit))
noncomputable def res_lexer_Tokens : Res E (Unit × (Int × (Int × Unit))) ((List api_LexerToken) × Unit) := { rows := [(0, 33)], flat := [], keep := 0, rl := (RdL.cons (Rd.rw 0) (RdL.cons (Rd.int .i64) (RdL.cons (Rd.int .i64) RdL.nil))), rb := (RdBL.cons (RdB.row 33 true) RdBL.nil) }
noncomputable def run_lexer_Tokens : P_lexer_Tokens → Option R_lexer_Tokens
 | .start text0 =>
   (run_lexer_textErr (.start text0)) >>= fun t1 =>
   if (t1.1.1 != (0 : Int)) = true then
     some (((), ((0 : Int), (t1.1.1, ()))), ([], ()))
   else
     (run_lexer_scanner_skip (.start text0 (0 : Int) (0 : Int))) >>= fun t2 =>
     run_lexer_Tokens (.p500 ([]) t2.2.1.1 t2.2.1.2.1 t2.2.1.2.2.1)
 | .p500 B0 B1_0 B1_1 B1_2 =>
   (run_lexer_scanner_ended (.start B1_0 B1_1 B1_2)) >>= fun t1 =>
   if (!t1.1.1) = true then
     (run_lexer_scanner_token (.start t1.2.1.1 t1.2.1.2.1 t1.2.1.2.2.1)) >>= fun t2 =>
     if (fits (List.length B0) (List.length ([(⟨t2.1.1.1, t2.1.1.2.1, t2.1.1.2.2.1, t2.1.1.2.2.2.1, t2.1.1.2.2.2.2.1⟩ : api_LexerToken)] : List api_LexerToken)) 48) = true then
       (run_lexer_scanner_skip (.start t2.2.1.1 t2.2.1.2.1 t2.2.1.2.2.1)) >>= fun t3 =>
       run_lexer_Tokens (.p500 (B0 ++ ([(⟨t2.1.1.1, t2.1.1.2.1, t2.1.1.2.2.1, t2.1.1.2.2.2.1, t2.1.1.2.2.2.2.1⟩ : api_LexerToken)] : List api_LexerToken)) t3.2.1.1 t3.2.1.2.1 t3.2.1.2.2.1)
     else none
   else
     if (t1.2.1.2.2.1 != (0 : Int)) = true then
       some (((), (t1.2.1.2.1, (t1.2.1.2.2.1, ()))), ([], ()))
     else
       if (decide ((List.length B0 : Int) > (4000 : Int))) = true then
         if (decide ((0 : Int) ≤ (4000 : Int)) && decide ((4000 : Int) < (List.length B0 : Int))) = true then
           (idx B0 (4000 : Int)) >>= fun t4 =>
           some (((), (t4.At, ((8 : Int), ()))), ([], ()))
         else none
       else
         some (((), ((0 : Int), ((0 : Int), ()))), (B0, ()))
  partial_fixpoint
noncomputable def tab_lexer_Tokens : List (Plc E P_lexer_Tokens) := [⟨500, [false, false, true, false, true, true, true, true], { slots := [6, 7], rows := [(6, 33)], flat := [], keep := 0 }, (Unit × (Unit × Unit)), ((List api_LexerToken) × ((ByteArray × (Int × (Int × Unit))) × Unit)), (RdL.cons (Rd.rw 0) (RdL.cons (Rd.bp 1 0) RdL.nil)), (RdBL.cons (RdB.row 33 true) (RdBL.cons (RdB.var 67 (RdL.cons Rd.str (RdL.cons (Rd.int .i64) (RdL.cons (Rd.int .i64) RdL.nil)))) RdBL.nil)), fun a b => .p500 b.1 b.2.1.1 b.2.1.2.1 b.2.1.2.2.1⟩]
theorem tab_lexer_Tokens_ok : All (PlcOk 49 0 place_lexer_Tokens st_lexer_Tokens) tab_lexer_Tokens := ⟨⟨rfl, rfl, fun _ _ => rfl, fun _ _ => rfl⟩, trivial⟩
noncomputable def code_lexer_Tokens : Code := Tryz.f8.body.getD .skip
noncomputable def spec_lexer_Tokens : Spec E.S := (Con.add con_lexer_scanner_token (Con.add con_lexer_scanner_ended (Con.add con_lexer_scanner_skip (Con.add con_lexer_textErr noSpec))))
theorem spec_lexer_Tokens_ok : SpecOk E spec_lexer_Tokens := (Con.add_ok con_lexer_scanner_token_ok (Con.add_ok con_lexer_scanner_ended_ok (Con.add_ok con_lexer_scanner_skip_ok (Con.add_ok con_lexer_textErr_ok noSpec_ok))))
theorem good_lexer_Tokens : ∀ pt r, run_lexer_Tokens pt = some r → Good E Tryz.f8 code_lexer_Tokens 0 (res_lexer_Tokens.av r) (res_lexer_Tokens.bx r) (place_lexer_Tokens pt) (st_lexer_Tokens pt) := by
  refine run_lexer_Tokens.partial_correctness (fun pt r => Good E Tryz.f8 code_lexer_Tokens 0 (res_lexer_Tokens.av r) (res_lexer_Tokens.bx r) (place_lexer_Tokens pt) (st_lexer_Tokens pt)) ?_
  intro run' ih pt r hr
  cases pt <;> exact fn_step (spec := spec_lexer_Tokens) (wr := (fun i => mem i [])) (l := tab_lexer_Tokens) (z := 49) (p := res_lexer_Tokens) E_ok tab_lexer_Tokens_ok.mem rfl spec_lexer_Tokens_ok ih (Eq.trans (by kernel_rfl) hr)
noncomputable def con_lexer_Tokens : Con E := ⟨8, (ByteArray × Unit), Unit, (RwL.cons Rd.str.w RwL.nil), RdBL.nil, 0, R_lexer_Tokens, fun a b => run_lexer_Tokens (.start a.1), res_lexer_Tokens.av, res_lexer_Tokens.bx⟩
theorem con_lexer_Tokens_ok : con_lexer_Tokens.Ok := fun a b r h => fn_ok (fn := Tryz.f8) (code := code_lexer_Tokens) E_ok (by kernel_rfl) (by kernel_rfl) (by kernel_rfl) (Nat.le_of_ble_eq_true rfl) (good_lexer_Tokens (.start a.1) r h)

/-! ### ratchet/ratchetref05.TextErr -/
inductive P_ratchetref05_TextErr where
 | start (text0 : ByteArray)
noncomputable def place_ratchetref05_TextErr : P_ratchetref05_TextErr → List Bool
 | .start .. => []
noncomputable def st_ratchetref05_TextErr : P_ratchetref05_TextErr → St E.S
 | .start text0 => st0 6 [.v (.string text0)] []
abbrev R_ratchetref05_TextErr : Type := ((Int × Unit) × Unit)
noncomputable def res_ratchetref05_TextErr : Res E (Int × Unit) Unit := { rows := [], flat := [], keep := 0, rl := (RdL.cons (Rd.int .i64) RdL.nil), rb := RdBL.nil }
noncomputable def run_ratchetref05_TextErr : P_ratchetref05_TextErr → Option R_ratchetref05_TextErr
 | .start text0 =>
   if (decide ((text0.size : Int) > (60000 : Int))) = true then
     some (((8 : Int), ()), ())
   else
     some (((0 : Int), ()), ())
noncomputable def tab_ratchetref05_TextErr : List (Plc E P_ratchetref05_TextErr) := []
theorem tab_ratchetref05_TextErr_ok : All (PlcOk 6 0 place_ratchetref05_TextErr st_ratchetref05_TextErr) tab_ratchetref05_TextErr := trivial
noncomputable def code_ratchetref05_TextErr : Code := Tryz.f29.body.getD .skip
noncomputable def spec_ratchetref05_TextErr : Spec E.S := noSpec
theorem spec_ratchetref05_TextErr_ok : SpecOk E spec_ratchetref05_TextErr := noSpec_ok
theorem good_ratchetref05_TextErr : ∀ pt r, run_ratchetref05_TextErr pt = some r → Good E Tryz.f29 code_ratchetref05_TextErr 0 (res_ratchetref05_TextErr.av r) (res_ratchetref05_TextErr.bx r) (place_ratchetref05_TextErr pt) (st_ratchetref05_TextErr pt) := by
  intro pt r hr
  cases pt <;> exact fn_step (spec := spec_ratchetref05_TextErr) (wr := (fun i => mem i [])) (l := tab_ratchetref05_TextErr) (z := 6) (p := res_ratchetref05_TextErr) (run' := fun _ => none) E_ok tab_ratchetref05_TextErr_ok.mem rfl spec_ratchetref05_TextErr_ok (fun _ _ h => by cases h) (Eq.trans (by kernel_rfl) hr)
noncomputable def con_ratchetref05_TextErr : Con E := ⟨29, (ByteArray × Unit), Unit, (RwL.cons Rd.str.w RwL.nil), RdBL.nil, 0, R_ratchetref05_TextErr, fun a b => run_ratchetref05_TextErr (.start a.1), res_ratchetref05_TextErr.av, res_ratchetref05_TextErr.bx⟩
theorem con_ratchetref05_TextErr_ok : con_ratchetref05_TextErr.Ok := fun a b r h => fn_ok (fn := Tryz.f29) (code := code_ratchetref05_TextErr) E_ok (by kernel_rfl) (by kernel_rfl) (by kernel_rfl) (Nat.le_of_ble_eq_true rfl) (good_ratchetref05_TextErr (.start a.1) r h)

/-! ### ratchet/ratchetref05.IsSpace -/
inductive P_ratchetref05_IsSpace where
 | start (c0 : Int)
noncomputable def place_ratchetref05_IsSpace : P_ratchetref05_IsSpace → List Bool
 | .start .. => []
noncomputable def st_ratchetref05_IsSpace : P_ratchetref05_IsSpace → St E.S
 | .start c0 => st0 13 [.v (.int .u8 c0)] []
abbrev R_ratchetref05_IsSpace : Type := ((Bool × Unit) × Unit)
noncomputable def res_ratchetref05_IsSpace : Res E (Bool × Unit) Unit := { rows := [], flat := [], keep := 0, rl := (RdL.cons Rd.bool RdL.nil), rb := RdBL.nil }
noncomputable def run_ratchetref05_IsSpace : P_ratchetref05_IsSpace → Option R_ratchetref05_IsSpace
 | .start c0 =>
   if (c0 == (32 : Int)) = true then
     some ((true, ()), ())
   else
     if (c0 == (9 : Int)) = true then
       some ((true, ()), ())
     else
       some ((c0 == (10 : Int), ()), ())
noncomputable def tab_ratchetref05_IsSpace : List (Plc E P_ratchetref05_IsSpace) := []
theorem tab_ratchetref05_IsSpace_ok : All (PlcOk 13 0 place_ratchetref05_IsSpace st_ratchetref05_IsSpace) tab_ratchetref05_IsSpace := trivial
noncomputable def code_ratchetref05_IsSpace : Code := Tryz.f62.body.getD .skip
noncomputable def spec_ratchetref05_IsSpace : Spec E.S := noSpec
theorem spec_ratchetref05_IsSpace_ok : SpecOk E spec_ratchetref05_IsSpace := noSpec_ok
theorem good_ratchetref05_IsSpace : ∀ pt r, run_ratchetref05_IsSpace pt = some r → Good E Tryz.f62 code_ratchetref05_IsSpace 0 (res_ratchetref05_IsSpace.av r) (res_ratchetref05_IsSpace.bx r) (place_ratchetref05_IsSpace pt) (st_ratchetref05_IsSpace pt) := by
  intro pt r hr
  cases pt <;> exact fn_step (spec := spec_ratchetref05_IsSpace) (wr := (fun i => mem i [])) (l := tab_ratchetref05_IsSpace) (z := 13) (p := res_ratchetref05_IsSpace) (run' := fun _ => none) E_ok tab_ratchetref05_IsSpace_ok.mem rfl spec_ratchetref05_IsSpace_ok (fun _ _ h => by cases h) (Eq.trans (by kernel_rfl) hr)
noncomputable def con_ratchetref05_IsSpace : Con E := ⟨62, (Int × Unit), Unit, (RwL.cons (Rd.int .u8).w RwL.nil), RdBL.nil, 0, R_ratchetref05_IsSpace, fun a b => run_ratchetref05_IsSpace (.start a.1), res_ratchetref05_IsSpace.av, res_ratchetref05_IsSpace.bx⟩
theorem con_ratchetref05_IsSpace_ok : con_ratchetref05_IsSpace.Ok := fun a b r h => fn_ok (fn := Tryz.f62) (code := code_ratchetref05_IsSpace) E_ok (by kernel_rfl) (by kernel_rfl) (by kernel_rfl) (Nat.le_of_ble_eq_true rfl) (good_ratchetref05_IsSpace (.start a.1) r h)

/-! ### ratchet/ratchetref05.has -/
inductive P_ratchetref05_has where
 | start (text0 : ByteArray) (at1 : Int) (s2 : ByteArray)
noncomputable def place_ratchetref05_has : P_ratchetref05_has → List Bool
 | .start .. => []
noncomputable def st_ratchetref05_has : P_ratchetref05_has → St E.S
 | .start text0 at1 s2 => st0 25 [.v (.string text0), .v (.int .i64 at1), .v (.string s2)] []
abbrev R_ratchetref05_has : Type := ((Bool × Unit) × Unit)
noncomputable def res_ratchetref05_has : Res E (Bool × Unit) Unit := { rows := [], flat := [], keep := 0, rl := (RdL.cons Rd.bool RdL.nil), rb := RdBL.nil }
noncomputable def run_ratchetref05_has : P_ratchetref05_has → Option R_ratchetref05_has
 | .start text0 at1 s2 =>
   if (decide ((IntKind.wrap .i64 (at1 + (s2.size : Int))) ≤ (text0.size : Int))) = true then
     (span text0.size at1 (IntKind.wrap .i64 (at1 + (s2.size : Int)))) >>= fun t1 =>
     some ((seq (text0.extract t1.1 t1.2) s2, ()), ())
   else
     some ((false, ()), ())
noncomputable def tab_ratchetref05_has : List (Plc E P_ratchetref05_has) := []
theorem tab_ratchetref05_has_ok : All (PlcOk 25 0 place_ratchetref05_has st_ratchetref05_has) tab_ratchetref05_has := trivial
noncomputable def code_ratchetref05_has : Code := Tryz.f70.body.getD .skip
noncomputable def spec_ratchetref05_has : Spec E.S := noSpec
theorem spec_ratchetref05_has_ok : SpecOk E spec_ratchetref05_has := noSpec_ok
theorem good_ratchetref05_has : ∀ pt r, run_ratchetref05_has pt = some r → Good E Tryz.f70 code_ratchetref05_has 0 (res_ratchetref05_has.av r) (res_ratchetref05_has.bx r) (place_ratchetref05_has pt) (st_ratchetref05_has pt) := by
  intro pt r hr
  cases pt <;> exact fn_step (spec := spec_ratchetref05_has) (wr := (fun i => mem i [])) (l := tab_ratchetref05_has) (z := 25) (p := res_ratchetref05_has) (run' := fun _ => none) E_ok tab_ratchetref05_has_ok.mem rfl spec_ratchetref05_has_ok (fun _ _ h => by cases h) (Eq.trans (by kernel_rfl) hr)
noncomputable def con_ratchetref05_has : Con E := ⟨70, (ByteArray × (Int × (ByteArray × Unit))), Unit, (RwL.cons Rd.str.w (RwL.cons (Rd.int .i64).w (RwL.cons Rd.str.w RwL.nil))), RdBL.nil, 0, R_ratchetref05_has, fun a b => run_ratchetref05_has (.start a.1 a.2.1 a.2.2.1), res_ratchetref05_has.av, res_ratchetref05_has.bx⟩
theorem con_ratchetref05_has_ok : con_ratchetref05_has.Ok := fun a b r h => fn_ok (fn := Tryz.f70) (code := code_ratchetref05_has) E_ok (by kernel_rfl) (by kernel_rfl) (by kernel_rfl) (Nat.le_of_ble_eq_true rfl) (good_ratchetref05_has (.start a.1 a.2.1 a.2.2.1) r h)

/-! ### ratchet/ratchetref05.IsPermitted -/
inductive P_ratchetref05_IsPermitted where
 | start (c0 : Int)
noncomputable def place_ratchetref05_IsPermitted : P_ratchetref05_IsPermitted → List Bool
 | .start .. => []
noncomputable def st_ratchetref05_IsPermitted : P_ratchetref05_IsPermitted → St E.S
 | .start c0 => st0 17 [.v (.int .u8 c0)] []
abbrev R_ratchetref05_IsPermitted : Type := ((Bool × Unit) × Unit)
noncomputable def res_ratchetref05_IsPermitted : Res E (Bool × Unit) Unit := { rows := [], flat := [], keep := 0, rl := (RdL.cons Rd.bool RdL.nil), rb := RdBL.nil }
noncomputable def run_ratchetref05_IsPermitted : P_ratchetref05_IsPermitted → Option R_ratchetref05_IsPermitted
 | .start c0 =>
   if (c0 == (9 : Int)) = true then
     some ((true, ()), ())
   else
     if (c0 == (10 : Int)) = true then
       some ((true, ()), ())
     else
       if (decide (c0 ≥ (32 : Int))) = true then
         some ((decide (c0 ≤ (126 : Int)), ()), ())
       else
         some ((false, ()), ())
noncomputable def tab_ratchetref05_IsPermitted : List (Plc E P_ratchetref05_IsPermitted) := []
theorem tab_ratchetref05_IsPermitted_ok : All (PlcOk 17 0 place_ratchetref05_IsPermitted st_ratchetref05_IsPermitted) tab_ratchetref05_IsPermitted := trivial
noncomputable def code_ratchetref05_IsPermitted : Code := Tryz.f71.body.getD .skip
noncomputable def spec_ratchetref05_IsPermitted : Spec E.S := noSpec
theorem spec_ratchetref05_IsPermitted_ok : SpecOk E spec_ratchetref05_IsPermitted := noSpec_ok
theorem good_ratchetref05_IsPermitted : ∀ pt r, run_ratchetref05_IsPermitted pt = some r → Good E Tryz.f71 code_ratchetref05_IsPermitted 0 (res_ratchetref05_IsPermitted.av r) (res_ratchetref05_IsPermitted.bx r) (place_ratchetref05_IsPermitted pt) (st_ratchetref05_IsPermitted pt) := by
  intro pt r hr
  cases pt <;> exact fn_step (spec := spec_ratchetref05_IsPermitted) (wr := (fun i => mem i [])) (l := tab_ratchetref05_IsPermitted) (z := 17) (p := res_ratchetref05_IsPermitted) (run' := fun _ => none) E_ok tab_ratchetref05_IsPermitted_ok.mem rfl spec_ratchetref05_IsPermitted_ok (fun _ _ h => by cases h) (Eq.trans (by kernel_rfl) hr)
noncomputable def con_ratchetref05_IsPermitted : Con E := ⟨71, (Int × Unit), Unit, (RwL.cons (Rd.int .u8).w RwL.nil), RdBL.nil, 0, R_ratchetref05_IsPermitted, fun a b => run_ratchetref05_IsPermitted (.start a.1), res_ratchetref05_IsPermitted.av, res_ratchetref05_IsPermitted.bx⟩
theorem con_ratchetref05_IsPermitted_ok : con_ratchetref05_IsPermitted.Ok := fun a b r h => fn_ok (fn := Tryz.f71) (code := code_ratchetref05_IsPermitted) E_ok (by kernel_rfl) (by kernel_rfl) (by kernel_rfl) (Nat.le_of_ble_eq_true rfl) (good_ratchetref05_IsPermitted (.start a.1) r h)

/-! ### ratchet/ratchetref05.comment -/
inductive P_ratchetref05_comment where
 | start (text0 : ByteArray) (at1 : Int)
 | p424 (text0 : ByteArray) (at1 : Int) (i6 : Int) (B0_0 : Int) (B0_1 : Int)
 | p849 (text0 : ByteArray) (at1 : Int) (i6 : Int) (B0_0 : Int) (B0_1 : Int)
 | p248 (text0 : ByteArray) (at1 : Int) (open7 : Int) (i8 : Int) (B0_0 : Int) (B0_1 : Int)
noncomputable def place_ratchetref05_comment : P_ratchetref05_comment → List Bool
 | .start .. => []
 | .p424 .. => [false, false, false, true, false, true, false, true]
 | .p849 .. => [true, false, false, false, true, false, true, false, true]
 | .p248 .. => [false, false, false, true, true, true, true]
noncomputable def st_ratchetref05_comment : P_ratchetref05_comment → St E.S
 | .start text0 at1 => st0 78 [.v (.string text0), .v (.int .i64 at1)] []
 | .p424 text0 at1 i6 B0_0 B0_1 => mkSt 78 [0, 1, 5, 6] [.v (.string text0), .v (.int .i64 at1), .bp 0 0, .v (.int .i64 i6)] [.var 28 [.v (.int .i64 B0_0), .v (.int .i64 B0_1)]]
 | .p849 text0 at1 i6 B0_0 B0_1 => mkSt 78 [0, 1, 5, 6] [.v (.string text0), .v (.int .i64 at1), .bp 0 0, .v (.int .i64 i6)] [.var 28 [.v (.int .i64 B0_0), .v (.int .i64 B0_1)]]
 | .p248 text0 at1 open7 i8 B0_0 B0_1 => mkSt 78 [0, 1, 5, 7, 8] [.v (.string text0), .v (.int .i64 at1), .bp 0 0, .v (.int .i64 open7), .v (.int .i64 i8)] [.var 28 [.v (.int .i64 B0_0), .v (.int .i64 B0_1)]]
abbrev R_ratchetref05_comment : Type := ((Int × ((Int × (Int × Unit)) × Unit)) × Unit)
noncomputable def res_ratchetref05_comment : Res E (Int × ((Int × (Int × Unit)) × Unit)) Unit := { rows := [], flat := [], keep := 0, rl := (RdL.cons (Rd.int .i64) (RdL.cons (Rd.agg (RdL.cons (Rd.int .i64) (RdL.cons (Rd.int .i64) RdL.nil))) RdL.nil)), rb := RdBL.nil }
noncomputable def run_ratchetref05_comment : P_ratchetref05_comment → Option R_ratchetref05_comment
 | .start text0 at1 =>
   (run_ratchetref05_has (.start text0 at1 (⟨#[47, 47]⟩ : ByteArray))) >>= fun t1 =>
   if t1.1.1 = true then
     run_ratchetref05_comment (.p424 text0 at1 at1 (0 : Int) (0 : Int))
   else
     (run_ratchetref05_has (.start text0 at1 (⟨#[47, 42]⟩ : ByteArray))) >>= fun t2 =>
     if (!t2.1.1) = true then
       some ((at1, (((0 : Int), ((0 : Int), ())), ())), ())
     else
       run_ratchetref05_comment (.p248 text0 at1 (1 : Int) (IntKind.wrap .i64 (at1 + (2 : Int))) (0 : Int) (0 : Int))
 | .p424 text0 at1 i6 B0_0 B0_1 =>
   if (decide (i6 < (text0.size : Int))) = true then
     (sidx text0 i6) >>= fun t1 =>
     if (t1 != (10 : Int)) = true then
       run_ratchetref05_comment (.p849 text0 at1 i6 B0_0 B0_1)
     else
       some ((i6, (((0 : Int), ((0 : Int), ())), ())), ())
   else
     some ((i6, (((0 : Int), ((0 : Int), ())), ())), ())
 | .p849 text0 at1 i6 B0_0 B0_1 =>
   (sidx text0 i6) >>= fun t1 =>
   (run_ratchetref05_IsPermitted (.start t1)) >>= fun t2 =>
   if (!t2.1.1) = true then
     some ((at1, ((i6, ((15 : Int), ())), ())), ())
   else
     run_ratchetref05_comment (.p424 text0 at1 (IntKind.wrap .i64 (i6 + (1 : Int))) B0_0 B0_1)
 | .p248 text0 at1 open7 i8 B0_0 B0_1 =>
   if (decide (open7 > (0 : Int))) = true then
     if (decide (i8 ≥ (text0.size : Int))) = true then
       some ((at1, ((at1, ((21 : Int), ())), ())), ())
     else
       (sidx text0 i8) >>= fun t1 =>
       (run_ratchetref05_IsPermitted (.start t1)) >>= fun t2 =>
       if (!t2.1.1) = true then
         some ((at1, ((i8, ((15 : Int), ())), ())), ())
       else
         (run_ratchetref05_has (.start text0 i8 (⟨#[47, 42]⟩ : ByteArray))) >>= fun t3 =>
         if t3.1.1 = true then
           run_ratchetref05_comment (.p248 text0 at1 (IntKind.wrap .i64 (open7 + (1 : Int))) (IntKind.wrap .i64 (i8 + (2 : Int))) B0_0 B0_1)
         else
           (run_ratchetref05_has (.start text0 i8 (⟨#[42, 47]⟩ : ByteArray))) >>= fun t4 =>
           if t4.1.1 = true then
             run_ratchetref05_comment (.p248 text0 at1 (IntKind.wrap .i64 (open7 - (1 : Int))) (IntKind.wrap .i64 (i8 + (2 : Int))) B0_0 B0_1)
           else
             run_ratchetref05_comment (.p248 text0 at1 open7 (IntKind.wrap .i64 (i8 + (1 : Int))) B0_0 B0_1)
   else
     some ((i8, (((0 : Int), ((0 : Int), ())), ())), ())
  partial_fixpoint
noncomputable def tab_ratchetref05_comment : List (Plc E P_ratchetref05_comment) := [⟨424, [false, false, false, true, false, true, false, true], { slots := [0, 1, 5, 6], rows := [], flat := [], keep := 0 }, (ByteArray × (Int × (Unit × (Int × Unit)))), ((Int × (Int × Unit)) × Unit), (RdL.cons Rd.str (RdL.cons (Rd.int .i64) (RdL.cons (Rd.bp 0 0) (RdL.cons (Rd.int .i64) RdL.nil)))), (RdBL.cons (RdB.var 28 (RdL.cons (Rd.int .i64) (RdL.cons (Rd.int .i64) RdL.nil))) RdBL.nil), fun a b => .p424 a.1 a.2.1 a.2.2.2.1 b.1.1 b.1.2.1⟩,
  ⟨849, [true, false, false, false, true, false, true, false, true], { slots := [0, 1, 5, 6], rows := [], flat := [], keep := 0 }, (ByteArray × (Int × (Unit × (Int × Unit)))), ((Int × (Int × Unit)) × Unit), (RdL.cons Rd.str (RdL.cons (Rd.int .i64) (RdL.cons (Rd.bp 0 0) (RdL.cons (Rd.int .i64) RdL.nil)))), (RdBL.cons (RdB.var 28 (RdL.cons (Rd.int .i64) (RdL.cons (Rd.int .i64) RdL.nil))) RdBL.nil), fun a b => .p849 a.1 a.2.1 a.2.2.2.1 b.1.1 b.1.2.1⟩,
  ⟨248, [false, false, false, true, true, true, true], { slots := [0, 1, 5, 7, 8], rows := [], flat := [], keep := 0 }, (ByteArray × (Int × (Unit × (Int × (Int × Unit))))), ((Int × (Int × Unit)) × Unit), (RdL.cons Rd.str (RdL.cons (Rd.int .i64) (RdL.cons (Rd.bp 0 0) (RdL.cons (Rd.int .i64) (RdL.cons (Rd.int .i64) RdL.nil))))), (RdBL.cons (RdB.var 28 (RdL.cons (Rd.int .i64) (RdL.cons (Rd.int .i64) RdL.nil))) RdBL.nil), fun a b => .p248 a.1 a.2.1 a.2.2.2.1 a.2.2.2.2.1 b.1.1 b.1.2.1⟩]
theorem tab_ratchetref05_comment_ok : All (PlcOk 78 0 place_ratchetref05_comment st_ratchetref05_comment) tab_ratchetref05_comment := ⟨⟨rfl, rfl, fun _ _ => rfl, fun _ _ => rfl⟩, ⟨⟨rfl, rfl, fun _ _ => rfl, fun _ _ => rfl⟩, ⟨⟨rfl, rfl, fun _ _ => rfl, fun _ _ => rfl⟩, trivial⟩⟩⟩
noncomputable def code_ratchetref05_comment : Code := Tryz.f63.body.getD .skip
noncomputable def spec_ratchetref05_comment : Spec E.S := (Con.add con_ratchetref05_IsPermitted (Con.add con_ratchetref05_has noSpec))
theorem spec_ratchetref05_comment_ok : SpecOk E spec_ratchetref05_comment := (Con.add_ok con_ratchetref05_IsPermitted_ok (Con.add_ok con_ratchetref05_has_ok noSpec_ok))
theorem good_ratchetref05_comment : ∀ pt r, run_ratchetref05_comment pt = some r → Good E Tryz.f63 code_ratchetref05_comment 0 (res_ratchetref05_comment.av r) (res_ratchetref05_comment.bx r) (place_ratchetref05_comment pt) (st_ratchetref05_comment pt) := by
  refine run_ratchetref05_comment.partial_correctness (fun pt r => Good E Tryz.f63 code_ratchetref05_comment 0 (res_ratchetref05_comment.av r) (res_ratchetref05_comment.bx r) (place_ratchetref05_comment pt) (st_ratchetref05_comment pt)) ?_
  intro run' ih pt r hr
  cases pt <;> exact fn_step (spec := spec_ratchetref05_comment) (wr := (fun i => mem i [])) (l := tab_ratchetref05_comment) (z := 78) (p := res_ratchetref05_comment) E_ok tab_ratchetref05_comment_ok.mem rfl spec_ratchetref05_comment_ok ih (Eq.trans (by kernel_rfl) hr)
noncomputable def con_ratchetref05_comment : Con E := ⟨63, (ByteArray × (Int × Unit)), Unit, (RwL.cons Rd.str.w (RwL.cons (Rd.int .i64).w RwL.nil)), RdBL.nil, 0, R_ratchetref05_comment, fun a b => run_ratchetref05_comment (.start a.1 a.2.1), res_ratchetref05_comment.av, res_ratchetref05_comment.bx⟩
theorem con_ratchetref05_comment_ok : con_ratchetref05_comment.Ok := fun a b r h => fn_ok (fn := Tryz.f63) (code := code_ratchetref05_comment) E_ok (by kernel_rfl) (by kernel_rfl) (by kernel_rfl) (Nat.le_of_ble_eq_true rfl) (good_ratchetref05_comment (.start a.1 a.2.1) r h)

/-! ### ratchet/ratchetref05.Skipped -/
inductive P_ratchetref05_Skipped where
 | start (text0 : ByteArray) (at1 : Int)
 | p24 (text0 : ByteArray) (at1 : Int) (B0_0 : Int) (B0_1 : Int)
noncomputable def place_ratchetref05_Skipped : P_ratchetref05_Skipped → List Bool
 | .start .. => []
 | .p24 .. => [false, false, false, true]
noncomputable def st_ratchetref05_Skipped : P_ratchetref05_Skipped → St E.S
 | .start text0 at1 => st0 37 [.v (.string text0), .v (.int .i64 at1)] []
 | .p24 text0 at1 B0_0 B0_1 => mkSt 37 [0, 1, 5] [.v (.string text0), .v (.int .i64 at1), .bp 0 0] [.var 28 [.v (.int .i64 B0_0), .v (.int .i64 B0_1)]]
abbrev R_ratchetref05_Skipped : Type := ((Int × ((Int × (Int × Unit)) × Unit)) × Unit)
noncomputable def res_ratchetref05_Skipped : Res E (Int × ((Int × (Int × Unit)) × Unit)) Unit := { rows := [], flat := [], keep := 0, rl := (RdL.cons (Rd.int .i64) (RdL.cons (Rd.agg (RdL.cons (Rd.int .i64) (RdL.cons (Rd.int .i64) RdL.nil))) RdL.nil)), rb := RdBL.nil }
noncomputable def run_ratchetref05_Skipped : P_ratchetref05_Skipped → Option R_ratchetref05_Skipped
 | .start text0 at1 =>
   run_ratchetref05_Skipped (.p24 text0 at1 (0 : Int) (0 : Int))
 | .p24 text0 at1 B0_0 B0_1 =>
   if (decide (at1 < (text0.size : Int))) = true then
     (sidx text0 at1) >>= fun t1 =>
     (run_ratchetref05_IsSpace (.start t1)) >>= fun t2 =>
     if t2.1.1 = true then
       run_ratchetref05_Skipped (.p24 text0 (IntKind.wrap .i64 (at1 + (1 : Int))) B0_0 B0_1)
     else
       (run_ratchetref05_comment (.start text0 at1)) >>= fun t3 =>
       if (t3.1.2.1.2.1 != (0 : Int)) = true then
         some ((at1, ((t3.1.2.1.1, (t3.1.2.1.2.1, ())), ())), ())
       else
         if (t3.1.1 == at1) = true then
           some ((at1, ((t3.1.2.1.1, (t3.1.2.1.2.1, ())), ())), ())
         else
           run_ratchetref05_Skipped (.p24 text0 t3.1.1 B0_0 B0_1)
   else
     some ((at1, (((0 : Int), ((0 : Int), ())), ())), ())
  partial_fixpoint
noncomputable def tab_ratchetref05_Skipped : List (Plc E P_ratchetref05_Skipped) := [⟨24, [false, false, false, true], { slots := [0, 1, 5], rows := [], flat := [], keep := 0 }, (ByteArray × (Int × (Unit × Unit))), ((Int × (Int × Unit)) × Unit), (RdL.cons Rd.str (RdL.cons (Rd.int .i64) (RdL.cons (Rd.bp 0 0) RdL.nil))), (RdBL.cons (RdB.var 28 (RdL.cons (Rd.int .i64) (RdL.cons (Rd.int .i64) RdL.nil))) RdBL.nil), fun a b => .p24 a.1 a.2.1 b.1.1 b.1.2.1⟩]
theorem tab_ratchetref05_Skipped_ok : All (PlcOk 37 0 place_ratchetref05_Skipped st_ratchetref05_Skipped) tab_ratchetref05_Skipped := ⟨⟨rfl, rfl, fun _ _ => rfl, fun _ _ => rfl⟩, trivial⟩
noncomputable def code_ratchetref05_Skipped : Code := Tryz.f30.body.getD .skip
noncomputable def spec_ratchetref05_Skipped : Spec E.S := (Con.add con_ratchetref05_comment (Con.add con_ratchetref05_IsSpace noSpec))
theorem spec_ratchetref05_Skipped_ok : SpecOk E spec_ratchetref05_Skipped := (Con.add_ok con_ratchetref05_comment_ok (Con.add_ok con_ratchetref05_IsSpace_ok noSpec_ok))
theorem good_ratchetref05_Skipped : ∀ pt r, run_ratchetref05_Skipped pt = some r → Good E Tryz.f30 code_ratchetref05_Skipped 0 (res_ratchetref05_Skipped.av r) (res_ratchetref05_Skipped.bx r) (place_ratchetref05_Skipped pt) (st_ratchetref05_Skipped pt) := by
  refine run_ratchetref05_Skipped.partial_correctness (fun pt r => Good E Tryz.f30 code_ratchetref05_Skipped 0 (res_ratchetref05_Skipped.av r) (res_ratchetref05_Skipped.bx r) (place_ratchetref05_Skipped pt) (st_ratchetref05_Skipped pt)) ?_
  intro run' ih pt r hr
  cases pt <;> exact fn_step (spec := spec_ratchetref05_Skipped) (wr := (fun i => mem i [])) (l := tab_ratchetref05_Skipped) (z := 37) (p := res_ratchetref05_Skipped) E_ok tab_ratchetref05_Skipped_ok.mem rfl spec_ratchetref05_Skipped_ok ih (Eq.trans (by kernel_rfl) hr)
noncomputable def con_ratchetref05_Skipped : Con E := ⟨30, (ByteArray × (Int × Unit)), Unit, (RwL.cons Rd.str.w (RwL.cons (Rd.int .i64).w RwL.nil)), RdBL.nil, 0, R_ratchetref05_Skipped, fun a b => run_ratchetref05_Skipped (.start a.1 a.2.1), res_ratchetref05_Skipped.av, res_ratchetref05_Skipped.bx⟩
theorem con_ratchetref05_Skipped_ok : con_ratchetref05_Skipped.Ok := fun a b r h => fn_ok (fn := Tryz.f30) (code := code_ratchetref05_Skipped) E_ok (by kernel_rfl) (by kernel_rfl) (by kernel_rfl) (Nat.le_of_ble_eq_true rfl) (good_ratchetref05_Skipped (.start a.1 a.2.1) r h)

/-! ### ratchet/ratchetref05.IsCapital -/
inductive P_ratchetref05_IsCapital where
 | start (c0 : Int)
noncomputable def place_ratchetref05_IsCapital : P_ratchetref05_IsCapital → List Bool
 | .start .. => []
noncomputable def st_ratchetref05_IsCapital : P_ratchetref05_IsCapital → St E.S
 | .start c0 => st0 9 [.v (.int .u8 c0)] []
abbrev R_ratchetref05_IsCapital : Type := ((Bool × Unit) × Unit)
noncomputable def res_ratchetref05_IsCapital : Res E (Bool × Unit) Unit := { rows := [], flat := [], keep := 0, rl := (RdL.cons Rd.bool RdL.nil), rb := RdBL.nil }
noncomputable def run_ratchetref05_IsCapital : P_ratchetref05_IsCapital → Option R_ratchetref05_IsCapital
 | .start c0 =>
   if (decide (c0 ≥ (65 : Int))) = true then
     some ((decide (c0 ≤ (90 : Int)), ()), ())
   else
     some ((false, ()), ())
noncomputable def tab_ratchetref05_IsCapital : List (Plc E P_ratchetref05_IsCapital) := []
theorem tab_ratchetref05_IsCapital_ok : All (PlcOk 9 0 place_ratchetref05_IsCapital st_ratchetref05_IsCapital) tab_ratchetref05_IsCapital := trivial
noncomputable def code_ratchetref05_IsCapital : Code := Tryz.f68.body.getD .skip
noncomputable def spec_ratchetref05_IsCapital : Spec E.S := noSpec
theorem spec_ratchetref05_IsCapital_ok : SpecOk E spec_ratchetref05_IsCapital := noSpec_ok
theorem good_ratchetref05_IsCapital : ∀ pt r, run_ratchetref05_IsCapital pt = some r → Good E Tryz.f68 code_ratchetref05_IsCapital 0 (res_ratchetref05_IsCapital.av r) (res_ratchetref05_IsCapital.bx r) (place_ratchetref05_IsCapital pt) (st_ratchetref05_IsCapital pt) := by
  intro pt r hr
  cases pt <;> exact fn_step (spec := spec_ratchetref05_IsCapital) (wr := (fun i => mem i [])) (l := tab_ratchetref05_IsCapital) (z := 9) (p := res_ratchetref05_IsCapital) (run' := fun _ => none) E_ok tab_ratchetref05_IsCapital_ok.mem rfl spec_ratchetref05_IsCapital_ok (fun _ _ h => by cases h) (Eq.trans (by kernel_rfl) hr)
noncomputable def con_ratchetref05_IsCapital : Con E := ⟨68, (Int × Unit), Unit, (RwL.cons (Rd.int .u8).w RwL.nil), RdBL.nil, 0, R_ratchetref05_IsCapital, fun a b => run_ratchetref05_IsCapital (.start a.1), res_ratchetref05_IsCapital.av, res_ratchetref05_IsCapital.bx⟩
theorem con_ratchetref05_IsCapital_ok : con_ratchetref05_IsCapital.Ok := fun a b r h => fn_ok (fn := Tryz.f68) (code := code_ratchetref05_IsCapital) E_ok (by kernel_rfl) (by kernel_rfl) (by kernel_rfl) (Nat.le_of_ble_eq_true rfl) (good_ratchetref05_IsCapital (.start a.1) r h)

/-! ### ratchet/ratchetref05.IsLetter -/
inductive P_ratchetref05_IsLetter where
 | start (c0 : Int)
noncomputable def place_ratchetref05_IsLetter : P_ratchetref05_IsLetter → List Bool
 | .start .. => []
noncomputable def st_ratchetref05_IsLetter : P_ratchetref05_IsLetter → St E.S
 | .start c0 => st0 13 [.v (.int .u8 c0)] []
abbrev R_ratchetref05_IsLetter : Type := ((Bool × Unit) × Unit)
noncomputable def res_ratchetref05_IsLetter : Res E (Bool × Unit) Unit := { rows := [], flat := [], keep := 0, rl := (RdL.cons Rd.bool RdL.nil), rb := RdBL.nil }
noncomputable def run_ratchetref05_IsLetter : P_ratchetref05_IsLetter → Option R_ratchetref05_IsLetter
 | .start c0 =>
   if (decide (c0 ≥ (97 : Int))) = true then
     if (decide (c0 ≤ (122 : Int))) = true then
       some ((true, ()), ())
     else
       (run_ratchetref05_IsCapital (.start c0)) >>= fun t1 =>
       some ((t1.1.1, ()), ())
   else
     (run_ratchetref05_IsCapital (.start c0)) >>= fun t2 =>
     some ((t2.1.1, ()), ())
noncomputable def tab_ratchetref05_IsLetter : List (Plc E P_ratchetref05_IsLetter) := []
theorem tab_ratchetref05_IsLetter_ok : All (PlcOk 13 0 place_ratchetref05_IsLetter st_ratchetref05_IsLetter) tab_ratchetref05_IsLetter := trivial
noncomputable def code_ratchetref05_IsLetter : Code := Tryz.f64.body.getD .skip
noncomputable def spec_ratchetref05_IsLetter : Spec E.S := (Con.add con_ratchetref05_IsCapital noSpec)
theorem spec_ratchetref05_IsLetter_ok : SpecOk E spec_ratchetref05_IsLetter := (Con.add_ok con_ratchetref05_IsCapital_ok noSpec_ok)
theorem good_ratchetref05_IsLetter : ∀ pt r, run_ratchetref05_IsLetter pt = some r → Good E Tryz.f64 code_ratchetref05_IsLetter 0 (res_ratchetref05_IsLetter.av r) (res_ratchetref05_IsLetter.bx r) (place_ratchetref05_IsLetter pt) (st_ratchetref05_IsLetter pt) := by
  intro pt r hr
  cases pt <;> exact fn_step (spec := spec_ratchetref05_IsLetter) (wr := (fun i => mem i [])) (l := tab_ratchetref05_IsLetter) (z := 13) (p := res_ratchetref05_IsLetter) (run' := fun _ => none) E_ok tab_ratchetref05_IsLetter_ok.mem rfl spec_ratchetref05_IsLetter_ok (fun _ _ h => by cases h) (Eq.trans (by kernel_rfl) hr)
noncomputable def con_ratchetref05_IsLetter : Con E := ⟨64, (Int × Unit), Unit, (RwL.cons (Rd.int .u8).w RwL.nil), RdBL.nil, 0, R_ratchetref05_IsLetter, fun a b => run_ratchetref05_IsLetter (.start a.1), res_ratchetref05_IsLetter.av, res_ratchetref05_IsLetter.bx⟩
theorem con_ratchetref05_IsLetter_ok : con_ratchetref05_IsLetter.Ok := fun a b r h => fn_ok (fn := Tryz.f64) (code := code_ratchetref05_IsLetter) E_ok (by kernel_rfl) (by kernel_rfl) (by kernel_rfl) (Nat.le_of_ble_eq_true rfl) (good_ratchetref05_IsLetter (.start a.1) r h)

/-! ### ratchet/ratchetref05.IsDigit -/
inductive P_ratchetref05_IsDigit where
 | start (c0 : Int)
noncomputable def place_ratchetref05_IsDigit : P_ratchetref05_IsDigit → List Bool
 | .start .. => []
noncomputable def st_ratchetref05_IsDigit : P_ratchetref05_IsDigit → St E.S
 | .start c0 => st0 9 [.v (.int .u8 c0)] []
abbrev R_ratchetref05_IsDigit : Type := ((Bool × Unit) × Unit)
noncomputable def res_ratchetref05_IsDigit : Res E (Bool × Unit) Unit := { rows := [], flat := [], keep := 0, rl := (RdL.cons Rd.bool RdL.nil), rb := RdBL.nil }
noncomputable def run_ratchetref05_IsDigit : P_ratchetref05_IsDigit → Option R_ratchetref05_IsDigit
 | .start c0 =>
   if (decide (c0 ≥ (48 : Int))) = true then
     some ((decide (c0 ≤ (57 : Int)), ()), ())
   else
     some ((false, ()), ())
noncomputable def tab_ratchetref05_IsDigit : List (Plc E P_ratchetref05_IsDigit) := []
theorem tab_ratchetref05_IsDigit_ok : All (PlcOk 9 0 place_ratchetref05_IsDigit st_ratchetref05_IsDigit) tab_ratchetref05_IsDigit := trivial
noncomputable def code_ratchetref05_IsDigit : Code := Tryz.f65.body.getD .skip
noncomputable def spec_ratchetref05_IsDigit : Spec E.S := noSpec
theorem spec_ratchetref05_IsDigit_ok : SpecOk E spec_ratchetref05_IsDigit := noSpec_ok
theorem good_ratchetref05_IsDigit : ∀ pt r, run_ratchetref05_IsDigit pt = some r → Good E Tryz.f65 code_ratchetref05_IsDigit 0 (res_ratchetref05_IsDigit.av r) (res_ratchetref05_IsDigit.bx r) (place_ratchetref05_IsDigit pt) (st_ratchetref05_IsDigit pt) := by
  intro pt r hr
  cases pt <;> exact fn_step (spec := spec_ratchetref05_IsDigit) (wr := (fun i => mem i [])) (l := tab_ratchetref05_IsDigit) (z := 9) (p := res_ratchetref05_IsDigit) (run' := fun _ => none) E_ok tab_ratchetref05_IsDigit_ok.mem rfl spec_ratchetref05_IsDigit_ok (fun _ _ h => by cases h) (Eq.trans (by kernel_rfl) hr)
noncomputable def con_ratchetref05_IsDigit : Con E := ⟨65, (Int × Unit), Unit, (RwL.cons (Rd.int .u8).w RwL.nil), RdBL.nil, 0, R_ratchetref05_IsDigit, fun a b => run_ratchetref05_IsDigit (.start a.1), res_ratchetref05_IsDigit.av, res_ratchetref05_IsDigit.bx⟩
theorem con_ratchetref05_IsDigit_ok : con_ratchetref05_IsDigit.Ok := fun a b r h => fn_ok (fn := Tryz.f65) (code := code_ratchetref05_IsDigit) E_ok (by kernel_rfl) (by kernel_rfl) (by kernel_rfl) (Nat.le_of_ble_eq_true rfl) (good_ratchetref05_IsDigit (.start a.1) r h)

/-! ### ratchet/ratchetref05.Operators -/
inductive P_ratchetref05_Operators where
 | start
noncomputable def place_ratchetref05_Operators : P_ratchetref05_Operators → List Bool
 | .start => []
noncomputable def st_ratchetref05_Operators : P_ratchetref05_Operators → St E.S
 | .start => st0 2 [] []
abbrev R_ratchetref05_Operators : Type := (((List ByteArray) × Unit) × Unit)
noncomputable def res_ratchetref05_Operators : Res E ((List ByteArray) × Unit) Unit := { rows := [], flat := [], keep := 0, rl := (RdL.cons (Rd.sl 9 true) RdL.nil), rb := RdBL.nil }
noncomputable def run_ratchetref05_Operators : P_ratchetref05_Operators → Option R_ratchetref05_Operators
 | .start =>
   some ((([(⟨#[33]⟩ : ByteArray), (⟨#[33, 61]⟩ : ByteArray), (⟨#[38]⟩ : ByteArray), (⟨#[38, 38]⟩ : ByteArray), (⟨#[40]⟩ : ByteArray), (⟨#[41]⟩ : ByteArray), (⟨#[42]⟩ : ByteArray), (⟨#[43]⟩ : ByteArray), (⟨#[43, 43]⟩ : ByteArray), (⟨#[44]⟩ : ByteArray), (⟨#[45]⟩ : ByteArray), (⟨#[45, 62]⟩ : ByteArray), (⟨#[46]⟩ : ByteArray), (⟨#[46, 46]⟩ : ByteArray), (⟨#[58]⟩ : ByteArray), (⟨#[59]⟩ : ByteArray), (⟨#[60]⟩ : ByteArray), (⟨#[60, 60]⟩ : ByteArray), (⟨#[60, 61]⟩ : ByteArray), (⟨#[61]⟩ : ByteArray), (⟨#[61, 61]⟩ : ByteArray), (⟨#[62, 62]⟩ : ByteArray), (⟨#[91]⟩ : ByteArray), (⟨#[92]⟩ : ByteArray), (⟨#[93]⟩ : ByteArray), (⟨#[94]⟩ : ByteArray), (⟨#[95]⟩ : ByteArray), (⟨#[123]⟩ : ByteArray), (⟨#[124]⟩ : ByteArray), (⟨#[124, 124]⟩ : ByteArray), (⟨#[125]⟩ : ByteArray), (⟨#[126]⟩ : ByteArray)] : List ByteArray), ()), ())
noncomputable def tab_ratchetref05_Operators : List (Plc E P_ratchetref05_Operators) := []
theorem tab_ratchetref05_Operators_ok : All (PlcOk 2 0 place_ratchetref05_Operators st_ratchetref05_Operators) tab_ratchetref05_Operators := trivial
noncomputable def code_ratchetref05_Operators : Code := Tryz.f69.body.getD .skip
noncomputable def spec_ratchetref05_Operators : Spec E.S := noSpec
theorem spec_ratchetref05_Operators_ok : SpecOk E spec_ratchetref05_Operators := noSpec_ok
theorem good_ratchetref05_Operators : ∀ pt r, run_ratchetref05_Operators pt = some r → Good E Tryz.f69 code_ratchetref05_Operators 0 (res_ratchetref05_Operators.av r) (res_ratchetref05_Operators.bx r) (place_ratchetref05_Operators pt) (st_ratchetref05_Operators pt) := by
  intro pt r hr
  cases pt <;> exact fn_step (spec := spec_ratchetref05_Operators) (wr := (fun i => mem i [])) (l := tab_ratchetref05_Operators) (z := 2) (p := res_ratchetref05_Operators) (run' := fun _ => none) E_ok tab_ratchetref05_Operators_ok.mem rfl spec_ratchetref05_Operators_ok (fun _ _ h => by cases h) (Eq.trans (by kernel_rfl) hr)
noncomputable def con_ratchetref05_Operators : Con E := ⟨69, Unit, Unit, RwL.nil, RdBL.nil, 0, R_ratchetref05_Operators, fun a b => run_ratchetref05_Operators (.start), res_ratchetref05_Operators.av, res_ratchetref05_Operators.bx⟩
theorem con_ratchetref05_Operators_ok : con_ratchetref05_Operators.Ok := fun a b r h => fn_ok (fn := Tryz.f69) (code := code_ratchetref05_Operators) E_ok (by kernel_rfl) (by kernel_rfl) (by kernel_rfl) (Nat.le_of_ble_eq_true rfl) (good_ratchetref05_Operators (.start) r h)

/-! ### ratchet/ratchetref05.Keywords -/
inductive P_ratchetref05_Keywords where
 | start
noncomputable def place_ratchetref05_Keywords : P_ratchetref05_Keywords → List Bool
 | .start => []
noncomputable def st_ratchetref05_Keywords : P_ratchetref05_Keywords → St E.S
 | .start => st0 2 [] []
abbrev R_ratchetref05_Keywords : Type := (((List ByteArray) × Unit) × Unit)
noncomputable def res_ratchetref05_Keywords : Res E ((List ByteArray) × Unit) Unit := { rows := [], flat := [], keep := 0, rl := (RdL.cons (Rd.sl 9 true) RdL.nil), rb := RdBL.nil }
noncomputable def run_ratchetref05_Keywords : P_ratchetref05_Keywords → Option R_ratchetref05_Keywords
 | .start =>
   some ((([(⟨#[98, 105, 116, 115]⟩ : ByteArray), (⟨#[99, 97, 115, 101]⟩ : ByteArray), (⟨#[100, 97, 116, 97]⟩ : ByteArray), (⟨#[100, 101, 102]⟩ : ByteArray), (⟨#[101, 108, 115, 101]⟩ : ByteArray), (⟨#[101, 120, 116, 101, 110, 100]⟩ : ByteArray), (⟨#[102, 111, 114]⟩ : ByteArray), (⟨#[105, 102]⟩ : ByteArray), (⟨#[105, 109, 112, 111, 114, 116]⟩ : ByteArray), (⟨#[105, 110]⟩ : ByteArray), (⟨#[105, 110, 115, 116]⟩ : ByteArray), (⟨#[105, 110, 112, 117, 116]⟩ : ByteArray), (⟨#[108, 101, 116]⟩ : ByteArray), (⟨#[108, 111, 103]⟩ : ByteArray), (⟨#[109, 101, 116, 104, 111, 100]⟩ : ByteArray), (⟨#[109, 111, 100, 117, 108, 101]⟩ : ByteArray), (⟨#[111, 102]⟩ : ByteArray), (⟨#[111, 117, 116, 112, 117, 116]⟩ : ByteArray), (⟨#[112, 97, 99, 107, 97, 103, 101]⟩ : ByteArray), (⟨#[114, 101, 103]⟩ : ByteArray), (⟨#[114, 117, 108, 101]⟩ : ByteArray), (⟨#[115, 101, 120, 116, 101, 110, 100]⟩ : ByteArray), (⟨#[116, 104, 101, 110]⟩ : ByteArray), (⟨#[119, 104, 101, 110]⟩ : ByteArray), (⟨#[119, 105, 114, 101]⟩ : ByteArray)] : List ByteArray), ()), ())
noncomputable def tab_ratchetref05_Keywords : List (Plc E P_ratchetref05_Keywords) := []
theorem tab_ratchetref05_Keywords_ok : All (PlcOk 2 0 place_ratchetref05_Keywords st_ratchetref05_Keywords) tab_ratchetref05_Keywords := trivial
noncomputable def code_ratchetref05_Keywords : Code := Tryz.f67.body.getD .skip
noncomputable def spec_ratchetref05_Keywords : Spec E.S := noSpec
theorem spec_ratchetref05_Keywords_ok : SpecOk E spec_ratchetref05_Keywords := noSpec_ok
theorem good_ratchetref05_Keywords : ∀ pt r, run_ratchetref05_Keywords pt = some r → Good E Tryz.f67 code_ratchetref05_Keywords 0 (res_ratchetref05_Keywords.av r) (res_ratchetref05_Keywords.bx r) (place_ratchetref05_Keywords pt) (st_ratchetref05_Keywords pt) := by
  intro pt r hr
  cases pt <;> exact fn_step (spec := spec_ratchetref05_Keywords) (wr := (fun i => mem i [])) (l := tab_ratchetref05_Keywords) (z := 2) (p := res_ratchetref05_Keywords) (run' := fun _ => none) E_ok tab_ratchetref05_Keywords_ok.mem rfl spec_ratchetref05_Keywords_ok (fun _ _ h => by cases h) (Eq.trans (by kernel_rfl) hr)
noncomputable def con_ratchetref05_Keywords : Con E := ⟨67, Unit, Unit, RwL.nil, RdBL.nil, 0, R_ratchetref05_Keywords, fun a b => run_ratchetref05_Keywords (.start), res_ratchetref05_Keywords.av, res_ratchetref05_Keywords.bx⟩
theorem con_ratchetref05_Keywords_ok : con_ratchetref05_Keywords.Ok := fun a b r h => fn_ok (fn := Tryz.f67) (code := code_ratchetref05_Keywords) E_ok (by kernel_rfl) (by kernel_rfl) (by kernel_rfl) (Nat.le_of_ble_eq_true rfl) (good_ratchetref05_Keywords (.start) r h)

/-! ### ratchet/ratchetbase.HasText -/
inductive P_ratchetbase_HasText where
 | start (l0 : (List ByteArray)) (s1 : ByteArray)
 | p52 (l0 : (List ByteArray)) (s1 : ByteArray) (i5 : Int)
noncomputable def place_ratchetbase_HasText : P_ratchetbase_HasText → List Bool
 | .start .. => []
 | .p52 .. => [false, false, true, false, true]
noncomputable def st_ratchetbase_HasText : P_ratchetbase_HasText → St E.S
 | .start l0 s1 => st0 18 [.sl 9 l0 false, .v (.string s1)] []
 | .p52 l0 s1 i5 => mkSt 18 [0, 1, 5] [.sl 9 l0 false, .v (.string s1), .v (.int .i64 i5)] []
abbrev R_ratchetbase_HasText : Type := ((Bool × Unit) × Unit)
noncomputable def res_ratchetbase_HasText : Res E (Bool × Unit) Unit := { rows := [], flat := [], keep := 0, rl := (RdL.cons Rd.bool RdL.nil), rb := RdBL.nil }
noncomputable def run_ratchetbase_HasText : P_ratchetbase_HasText → Option R_ratchetbase_HasText
 | .start l0 s1 =>
   run_ratchetbase_HasText (.p52 l0 s1 (0 : Int))
 | .p52 l0 s1 i5 =>
   if (decide (i5 < (List.length l0 : Int))) = true then
     (idx l0 i5) >>= fun t1 =>
     if (seq t1 s1) = true then
       some ((true, ()), ())
     else
       run_ratchetbase_HasText (.p52 l0 s1 (IntKind.wrap .i64 (i5 + (1 : Int))))
   else
     some ((false, ()), ())
  partial_fixpoint
noncomputable def tab_ratchetbase_HasText : List (Plc E P_ratchetbase_HasText) := [⟨52, [false, false, true, false, true], { slots := [0, 1, 5], rows := [], flat := [], keep := 0 }, ((List ByteArray) × (ByteArray × (Int × Unit))), Unit, (RdL.cons (Rd.sl 9 false) (RdL.cons Rd.str (RdL.cons (Rd.int .i64) RdL.nil))), RdBL.nil, fun a b => .p52 a.1 a.2.1 a.2.2.1⟩]
theorem tab_ratchetbase_HasText_ok : All (PlcOk 18 0 place_ratchetbase_HasText st_ratchetbase_HasText) tab_ratchetbase_HasText := ⟨⟨rfl, rfl, fun _ _ => rfl, fun _ _ => rfl⟩, trivial⟩
noncomputable def code_ratchetbase_HasText : Code := Tryz.f66.body.getD .skip
noncomputable def spec_ratchetbase_HasText : Spec E.S := noSpec
theorem spec_ratchetbase_HasText_ok : SpecOk E spec_ratchetbase_HasText := noSpec_ok
theorem good_ratchetbase_HasText : ∀ pt r, run_ratchetbase_HasText pt = some r → Good E Tryz.f66 code_ratchetbase_HasText 0 (res_ratchetbase_HasText.av r) (res_ratchetbase_HasText.bx r) (place_ratchetbase_HasText pt) (st_ratchetbase_HasText pt) := by
  refine run_ratchetbase_HasText.partial_correctness (fun pt r => Good E Tryz.f66 code_ratchetbase_HasText 0 (res_ratchetbase_HasText.av r) (res_ratchetbase_HasText.bx r) (place_ratchetbase_HasText pt) (st_ratchetbase_HasText pt)) ?_
  intro run' ih pt r hr
  cases pt <;> exact fn_step (spec := spec_ratchetbase_HasText) (wr := (fun i => mem i [])) (l := tab_ratchetbase_HasText) (z := 18) (p := res_ratchetbase_HasText) E_ok tab_ratchetbase_HasText_ok.mem rfl spec_ratchetbase_HasText_ok ih (Eq.trans (by kernel_rfl) hr)
noncomputable def con_ratchetbase_HasText : Con E := ⟨66, ((List ByteArray) × (ByteArray × Unit)), Unit, (RwL.cons (Rw.sl 9) (RwL.cons Rd.str.w RwL.nil)), RdBL.nil, 0, R_ratchetbase_HasText, fun a b => run_ratchetbase_HasText (.start a.1 a.2.1), res_ratchetbase_HasText.av, res_ratchetbase_HasText.bx⟩
theorem con_ratchetbase_HasText_ok : con_ratchetbase_HasText.Ok := fun a b r h => fn_ok (fn := Tryz.f66) (code := code_ratchetbase_HasText) E_ok (by kernel_rfl) (by kernel_rfl) (by kernel_rfl) (Nat.le_of_ble_eq_true rfl) (good_ratchetbase_HasText (.start a.1 a.2.1) r h)

/-! ### ratchet/ratchetbase.Number -/
inductive P_ratchetbase_Number where
 | start (s0 : ByteArray) (digits1 : Int)
 | p15 (s0 : ByteArray) (digits1 : Int) (at6 : Int)
 | p31 (s0 : ByteArray) (at6 : Int)
 | p1012 (s0 : ByteArray) (at6 : Int) (n7 : Int) (i8 : Int)
 | p16201 (s0 : ByteArray) (at6 : Int) (n7 : Int) (i8 : Int)
noncomputable def place_ratchetbase_Number : P_ratchetbase_Number → List Bool
 | .start .. => []
 | .p15 .. => [true, true, true]
 | .p31 .. => [true, true, true, true]
 | .p1012 .. => [false, false, true, false, true, true, true, true, true]
 | .p16201 .. => [true, false, false, true, false, false, true, false, true, true, true, true, true]
noncomputable def st_ratchetbase_Number : P_ratchetbase_Number → St E.S
 | .start s0 digits1 => st0 70 [.v (.string s0), .v (.int .i64 digits1)] []
 | .p15 s0 digits1 at6 => mkSt 70 [0, 1, 6] [.v (.string s0), .v (.int .i64 digits1), .v (.int .i64 at6)] []
 | .p31 s0 at6 => mkSt 70 [0, 6] [.v (.string s0), .v (.int .i64 at6)] []
 | .p1012 s0 at6 n7 i8 => mkSt 70 [0, 6, 7, 8] [.v (.string s0), .v (.int .i64 at6), .v (.int .i64 n7), .v (.int .i64 i8)] []
 | .p16201 s0 at6 n7 i8 => mkSt 70 [0, 6, 7, 8] [.v (.string s0), .v (.int .i64 at6), .v (.int .i64 n7), .v (.int .i64 i8)] []
abbrev R_ratchetbase_Number : Type := ((Int × (Bool × Unit)) × Unit)
noncomputable def res_ratchetbase_Number : Res E (Int × (Bool × Unit)) Unit := { rows := [], flat := [], keep := 0, rl := (RdL.cons (Rd.int .i64) (RdL.cons Rd.bool RdL.nil)), rb := RdBL.nil }
noncomputable def run_ratchetbase_Number : P_ratchetbase_Number → Option R_ratchetbase_Number
 | .start s0 digits1 =>
   if (decide ((s0.size : Int) > (0 : Int))) = true then
     (sidx s0 (0 : Int)) >>= fun t1 =>
     if (t1 == (45 : Int)) = true then
       run_ratchetbase_Number (.p15 s0 digits1 (1 : Int))
     else
       run_ratchetbase_Number (.p15 s0 digits1 (0 : Int))
   else
     run_ratchetbase_Number (.p15 s0 digits1 (0 : Int))
 | .p15 s0 digits1 at6 =>
   if ((s0.size : Int) == at6) = true then
     some (((0 : Int), (false, ())), ())
   else
     if (decide ((IntKind.wrap .i64 ((s0.size : Int) - at6)) > digits1)) = true then
       some (((0 : Int), (false, ())), ())
     else
       (sidx s0 at6) >>= fun t1 =>
       if (t1 == (48 : Int)) = true then
         if (decide ((s0.size : Int) > (1 : Int))) = true then
           some (((0 : Int), (false, ())), ())
         else
           run_ratchetbase_Number (.p31 s0 at6)
       else
         run_ratchetbase_Number (.p31 s0 at6)
 | .p31 s0 at6 =>
   run_ratchetbase_Number (.p1012 s0 at6 (0 : Int) at6)
 | .p1012 s0 at6 n7 i8 =>
   if (decide (i8 < (s0.size : Int))) = true then
     (sidx s0 i8) >>= fun t1 =>
     if (decide (t1 < (48 : Int))) = true then
       some (((0 : Int), (false, ())), ())
     else
       (sidx s0 i8) >>= fun t2 =>
       if (decide (t2 > (57 : Int))) = true then
         some (((0 : Int), (false, ())), ())
       else
         run_ratchetbase_Number (.p16201 s0 at6 n7 i8)
   else
     if (at6 == (1 : Int)) = true then
       some ((IntKind.wrap .i64 (0 - n7), (true, ())), ())
     else
       some ((n7, (true, ())), ())
 | .p16201 s0 at6 n7 i8 =>
   (sidx s0 i8) >>= fun t1 =>
   run_ratchetbase_Number (.p1012 s0 at6 (IntKind.wrap .i64 ((IntKind.wrap .i64 ((10 : Int) * n7)) + (IntKind.wrap .i64 (IntKind.wrap .u8 (t1 - (48 : Int)))))) (IntKind.wrap .i64 (i8 + (1 : Int))))
  partial_fixpoint
noncomputable def tab_ratchetbase_Number : List (Plc E P_ratchetbase_Number) := [⟨15, [true, true, true], { slots := [0, 1, 6], rows := [], flat := [], keep := 0 }, (ByteArray × (Int × (Int × Unit))), Unit, (RdL.cons Rd.str (RdL.cons (Rd.int .i64) (RdL.cons (Rd.int .i64) RdL.nil))), RdBL.nil, fun a b => .p15 a.1 a.2.1 a.2.2.1⟩,
  ⟨31, [true, true, true, true], { slots := [0, 6], rows := [], flat := [], keep := 0 }, (ByteArray × (Int × Unit)), Unit, (RdL.cons Rd.str (RdL.cons (Rd.int .i64) RdL.nil)), RdBL.nil, fun a b => .p31 a.1 a.2.1⟩,
  ⟨1012, [false, false, true, false, true, true, true, true, true], { slots := [0, 6, 7, 8], rows := [], flat := [], keep := 0 }, (ByteArray × (Int × (Int × (Int × Unit)))), Unit, (RdL.cons Rd.str (RdL.cons (Rd.int .i64) (RdL.cons (Rd.int .i64) (RdL.cons (Rd.int .i64) RdL.nil)))), RdBL.nil, fun a b => .p1012 a.1 a.2.1 a.2.2.1 a.2.2.2.1⟩,
  ⟨16201, [true, false, false, true, false, false, true, false, true, true, true, true, true], { slots := [0, 6, 7, 8], rows := [], flat := [], keep := 0 }, (ByteArray × (Int × (Int × (Int × Unit)))), Unit, (RdL.cons Rd.str (RdL.cons (Rd.int .i64) (RdL.cons (Rd.int .i64) (RdL.cons (Rd.int .i64) RdL.nil)))), RdBL.nil, fun a b => .p16201 a.1 a.2.1 a.2.2.1 a.2.2.2.1⟩]
theorem tab_ratchetbase_Number_ok : All (PlcOk 70 0 place_ratchetbase_Number st_ratchetbase_Number) tab_ratchetbase_Number := ⟨⟨rfl, rfl, fun _ _ => rfl, fun _ _ => rfl⟩, ⟨⟨rfl, rfl, fun _ _ => rfl, fun _ _ => rfl⟩, ⟨⟨rfl, rfl, fun _ _ => rfl, fun _ _ => rfl⟩, ⟨⟨rfl, rfl, fun _ _ => rfl, fun _ _ => rfl⟩, trivial⟩⟩⟩⟩
noncomputable def code_ratchetbase_Number : Code := Tryz.f78.body.getD .skip
noncomputable def spec_ratchetbase_Number : Spec E.S := noSpec
theorem spec_ratchetbase_Number_ok : SpecOk E spec_ratchetbase_Number := noSpec_ok
theorem good_ratchetbase_Number : ∀ pt r, run_ratchetbase_Number pt = some r → Good E Tryz.f78 code_ratchetbase_Number 0 (res_ratchetbase_Number.av r) (res_ratchetbase_Number.bx r) (place_ratchetbase_Number pt) (st_ratchetbase_Number pt) := by
  refine run_ratchetbase_Number.partial_correctness (fun pt r => Good E Tryz.f78 code_ratchetbase_Number 0 (res_ratchetbase_Number.av r) (res_ratchetbase_Number.bx r) (place_ratchetbase_Number pt) (st_ratchetbase_Number pt)) ?_
  intro run' ih pt r hr
  cases pt <;> exact fn_step (spec := spec_ratchetbase_Number) (wr := (fun i => mem i [])) (l := tab_ratchetbase_Number) (z := 70) (p := res_ratchetbase_Number) E_ok tab_ratchetbase_Number_ok.mem rfl spec_ratchetbase_Number_ok ih (Eq.trans (by kernel_rfl) hr)
noncomputable def con_ratchetbase_Number : Con E := ⟨78, (ByteArray × (Int × Unit)), Unit, (RwL.cons Rd.str.w (RwL.cons (Rd.int .i64).w RwL.nil)), RdBL.nil, 0, R_ratchetbase_Number, fun a b => run_ratchetbase_Number (.start a.1 a.2.1), res_ratchetbase_Number.av, res_ratchetbase_Number.bx⟩
theorem con_ratchetbase_Number_ok : con_ratchetbase_Number.Ok := fun a b r h => fn_ok (fn := Tryz.f78) (code := code_ratchetbase_Number) E_ok (by kernel_rfl) (by kernel_rfl) (by kernel_rfl) (Nat.le_of_ble_eq_true rfl) (good_ratchetbase_Number (.start a.1 a.2.1) r h)

/-! ### ratchet/ratchetref05.number -/
inductive P_ratchetref05_number where
 | start (s0 : ByteArray)
noncomputable def place_ratchetref05_number : P_ratchetref05_number → List Bool
 | .start .. => []
noncomputable def st_ratchetref05_number : P_ratchetref05_number → St E.S
 | .start s0 => st0 17 [.v (.string s0)] []
abbrev R_ratchetref05_number : Type := ((Int × (Bool × Unit)) × Unit)
noncomputable def res_ratchetref05_number : Res E (Int × (Bool × Unit)) Unit := { rows := [], flat := [], keep := 0, rl := (RdL.cons (Rd.int .i64) (RdL.cons Rd.bool RdL.nil)), rb := RdBL.nil }
noncomputable def run_ratchetref05_number : P_ratchetref05_number → Option R_ratchetref05_number
 | .start s0 =>
   (run_ratchetbase_Number (.start s0 (9 : Int))) >>= fun t1 =>
   if t1.1.2.1 = true then
     some ((t1.1.1, (decide (t1.1.1 ≥ (0 : Int)), ())), ())
   else
     some ((t1.1.1, (false, ())), ())
noncomputable def tab_ratchetref05_number : List (Plc E P_ratchetref05_number) := []
theorem tab_ratchetref05_number_ok : All (PlcOk 17 0 place_ratchetref05_number st_ratchetref05_number) tab_ratchetref05_number := trivial
noncomputable def code_ratchetref05_number : Code := Tryz.f39.body.getD .skip
noncomputable def spec_ratchetref05_number : Spec E.S := (Con.add con_ratchetbase_Number noSpec)
theorem spec_ratchetref05_number_ok : SpecOk E spec_ratchetref05_number := (Con.add_ok con_ratchetbase_Number_ok noSpec_ok)
theorem good_ratchetref05_number : ∀ pt r, run_ratchetref05_number pt = some r → Good E Tryz.f39 code_ratchetref05_number 0 (res_ratchetref05_number.av r) (res_ratchetref05_number.bx r) (place_ratchetref05_number pt) (st_ratchetref05_number pt) := by
  intro pt r hr
  cases pt <;> exact fn_step (spec := spec_ratchetref05_number) (wr := (fun i => mem i [])) (l := tab_ratchetref05_number) (z := 17) (p := res_ratchetref05_number) (run' := fun _ => none) E_ok tab_ratchetref05_number_ok.mem rfl spec_ratchetref05_number_ok (fun _ _ h => by cases h) (Eq.trans (by kernel_rfl) hr)
noncomputable def con_ratchetref05_number : Con E := ⟨39, (ByteArray × Unit), Unit, (RwL.cons Rd.str.w RwL.nil), RdBL.nil, 0, R_ratchetref05_number, fun a b => run_ratchetref05_number (.start a.1), res_ratchetref05_number.av, res_ratchetref05_number.bx⟩
theorem con_ratchetref05_number_ok : con_ratchetref05_number.Ok := fun a b r h => fn_ok (fn := Tryz.f39) (code := code_ratchetref05_number) E_ok (by kernel_rfl) (by kernel_rfl) (by kernel_rfl) (Nat.le_of_ble_eq_true rfl) (good_ratchetref05_number (.start a.1) r h)

/-! ### ratchet/ratchetref05.By -/
inductive P_ratchetref05_By where
 | start (sign0 : Int)
noncomputable def place_ratchetref05_By : P_ratchetref05_By → List Bool
 | .start .. => []
noncomputable def st_ratchetref05_By : P_ratchetref05_By → St E.S
 | .start sign0 => st0 10 [.v (.int .u8 sign0)] []
abbrev R_ratchetref05_By : Type := ((Int × Unit) × Unit)
noncomputable def res_ratchetref05_By : Res E (Int × Unit) Unit := { rows := [], flat := [], keep := 0, rl := (RdL.cons (Rd.int .i64) RdL.nil), rb := RdBL.nil }
noncomputable def run_ratchetref05_By : P_ratchetref05_By → Option R_ratchetref05_By
 | .start sign0 =>
   if (sign0 == (98 : Int)) = true then
     some (((2 : Int), ()), ())
   else
     if (sign0 == (100 : Int)) = true then
       some (((10 : Int), ()), ())
     else
       if (sign0 == (104 : Int)) = true then
         some (((16 : Int), ()), ())
       else
         some (((0 : Int), ()), ())
noncomputable def tab_ratchetref05_By : List (Plc E P_ratchetref05_By) := []
theorem tab_ratchetref05_By_ok : All (PlcOk 10 0 place_ratchetref05_By st_ratchetref05_By) tab_ratchetref05_By := trivial
noncomputable def code_ratchetref05_By : Code := Tryz.f40.body.getD .skip
noncomputable def spec_ratchetref05_By : Spec E.S := noSpec
theorem spec_ratchetref05_By_ok : SpecOk E spec_ratchetref05_By := noSpec_ok
theorem good_ratchetref05_By : ∀ pt r, run_ratchetref05_By pt = some r → Good E Tryz.f40 code_ratchetref05_By 0 (res_ratchetref05_By.av r) (res_ratchetref05_By.bx r) (place_ratchetref05_By pt) (st_ratchetref05_By pt) := by
  intro pt r hr
  cases pt <;> exact fn_step (spec := spec_ratchetref05_By) (wr := (fun i => mem i [])) (l := tab_ratchetref05_By) (z := 10) (p := res_ratchetref05_By) (run' := fun _ => none) E_ok tab_ratchetref05_By_ok.mem rfl spec_ratchetref05_By_ok (fun _ _ h => by cases h) (Eq.trans (by kernel_rfl) hr)
noncomputable def con_ratchetref05_By : Con E := ⟨40, (Int × Unit), Unit, (RwL.cons (Rd.int .u8).w RwL.nil), RdBL.nil, 0, R_ratchetref05_By, fun a b => run_ratchetref05_By (.start a.1), res_ratchetref05_By.av, res_ratchetref05_By.bx⟩
theorem con_ratchetref05_By_ok : con_ratchetref05_By.Ok := fun a b r h => fn_ok (fn := Tryz.f40) (code := code_ratchetref05_By) E_ok (by kernel_rfl) (by kernel_rfl) (by kernel_rfl) (Nat.le_of_ble_eq_true rfl) (good_ratchetref05_By (.start a.1) r h)

/-! ### ratchet/ratchetref05.digit -/
inductive P_ratchetref05_digit where
 | start (c0 : Int) (by1 : Int)
 | p15 (c0 : Int) (by1 : Int) (n5 : Int)
 | p31 (by1 : Int) (n5 : Int)
noncomputable def place_ratchetref05_digit : P_ratchetref05_digit → List Bool
 | .start .. => []
 | .p15 .. => [true, true, true]
 | .p31 .. => [true, true, true, true]
noncomputable def st_ratchetref05_digit : P_ratchetref05_digit → St E.S
 | .start c0 by1 => st0 25 [.v (.int .u8 c0), .v (.int .i64 by1)] []
 | .p15 c0 by1 n5 => mkSt 25 [0, 1, 5] [.v (.int .u8 c0), .v (.int .i64 by1), .v (.int .i64 n5)] []
 | .p31 by1 n5 => mkSt 25 [1, 5] [.v (.int .i64 by1), .v (.int .i64 n5)] []
abbrev R_ratchetref05_digit : Type := ((Int × Unit) × Unit)
noncomputable def res_ratchetref05_digit : Res E (Int × Unit) Unit := { rows := [], flat := [], keep := 0, rl := (RdL.cons (Rd.int .i64) RdL.nil), rb := RdBL.nil }
noncomputable def run_ratchetref05_digit : P_ratchetref05_digit → Option R_ratchetref05_digit
 | .start c0 by1 =>
   (run_ratchetref05_IsDigit (.start c0)) >>= fun t1 =>
   if t1.1.1 = true then
     run_ratchetref05_digit (.p15 c0 by1 (IntKind.wrap .i64 (IntKind.wrap .u8 (c0 - (48 : Int)))))
   else
     run_ratchetref05_digit (.p15 c0 by1 (-1 : Int))
 | .p15 c0 by1 n5 =>
   if (decide (c0 ≥ (97 : Int))) = true then
     if (decide (c0 ≤ (102 : Int))) = true then
       run_ratchetref05_digit (.p31 by1 (IntKind.wrap .i64 ((IntKind.wrap .i64 (IntKind.wrap .u8 (c0 - (97 : Int)))) + (10 : Int))))
     else
       run_ratchetref05_digit (.p31 by1 n5)
   else
     run_ratchetref05_digit (.p31 by1 n5)
 | .p31 by1 n5 =>
   if (decide (n5 ≥ by1)) = true then
     some (((-1 : Int), ()), ())
   else
     some ((n5, ()), ())
  partial_fixpoint
noncomputable def tab_ratchetref05_digit : List (Plc E P_ratchetref05_digit) := [⟨15, [true, true, true], { slots := [0, 1, 5], rows := [], flat := [], keep := 0 }, (Int × (Int × (Int × Unit))), Unit, (RdL.cons (Rd.int .u8) (RdL.cons (Rd.int .i64) (RdL.cons (Rd.int .i64) RdL.nil))), RdBL.nil, fun a b => .p15 a.1 a.2.1 a.2.2.1⟩,
  ⟨31, [true, true, true, true], { slots := [1, 5], rows := [], flat := [], keep := 0 }, (Int × (Int × Unit)), Unit, (RdL.cons (Rd.int .i64) (RdL.cons (Rd.int .i64) RdL.nil)), RdBL.nil, fun a b => .p31 a.1 a.2.1⟩]
theorem tab_ratchetref05_digit_ok : All (PlcOk 25 0 place_ratchetref05_digit st_ratchetref05_digit) tab_ratchetref05_digit := ⟨⟨rfl, rfl, fun _ _ => rfl, fun _ _ => rfl⟩, ⟨⟨rfl, rfl, fun _ _ => rfl, fun _ _ => rfl⟩, trivial⟩⟩
noncomputable def code_ratchetref05_digit : Code := Tryz.f41.body.getD .skip
noncomputable def spec_ratchetref05_digit : Spec E.S := (Con.add con_ratchetref05_IsDigit noSpec)
theorem spec_ratchetref05_digit_ok : SpecOk E spec_ratchetref05_digit := (Con.add_ok con_ratchetref05_IsDigit_ok noSpec_ok)
theorem good_ratchetref05_digit : ∀ pt r, run_ratchetref05_digit pt = some r → Good E Tryz.f41 code_ratchetref05_digit 0 (res_ratchetref05_digit.av r) (res_ratchetref05_digit.bx r) (place_ratchetref05_digit pt) (st_ratchetref05_digit pt) := by
  refine run_ratchetref05_digit.partial_correctness (fun pt r => Good E Tryz.f41 code_ratchetref05_digit 0 (res_ratchetref05_digit.av r) (res_ratchetref05_digit.bx r) (place_ratchetref05_digit pt) (st_ratchetref05_digit pt)) ?_
  intro run' ih pt r hr
  cases pt <;> exact fn_step (spec := spec_ratchetref05_digit) (wr := (fun i => mem i [])) (l := tab_ratchetref05_digit) (z := 25) (p := res_ratchetref05_digit) E_ok tab_ratchetref05_digit_ok.mem rfl spec_ratchetref05_digit_ok ih (Eq.trans (by kernel_rfl) hr)
noncomputable def con_ratchetref05_digit : Con E := ⟨41, (Int × (Int × Unit)), Unit, (RwL.cons (Rd.int .u8).w (RwL.cons (Rd.int .i64).w RwL.nil)), RdBL.nil, 0, R_ratchetref05_digit, fun a b => run_ratchetref05_digit (.start a.1 a.2.1), res_ratchetref05_digit.av, res_ratchetref05_digit.bx⟩
theorem con_ratchetref05_digit_ok : con_ratchetref05_digit.Ok := fun a b r h => fn_ok (fn := Tryz.f41) (code := code_ratchetref05_digit) E_ok (by kernel_rfl) (by kernel_rfl) (by kernel_rfl) (Nat.le_of_ble_eq_true rfl) (good_ratchetref05_digit (.start a.1 a.2.1) r h)

/-! ### ratchet/ratchetbase.Within -/
inductive P_ratchetbase_Within where
 | start (n0 : Int) (lo1 : Int) (hi2 : Int)
noncomputable def place_ratchetbase_Within : P_ratchetbase_Within → List Bool
 | .start .. => []
noncomputable def st_ratchetbase_Within : P_ratchetbase_Within → St E.S
 | .start n0 lo1 hi2 => st0 15 [.v (.int .i64 n0), .v (.int .i64 lo1), .v (.int .i64 hi2)] []
abbrev R_ratchetbase_Within : Type := ((Bool × Unit) × Unit)
noncomputable def res_ratchetbase_Within : Res E (Bool × Unit) Unit := { rows := [], flat := [], keep := 0, rl := (RdL.cons Rd.bool RdL.nil), rb := RdBL.nil }
noncomputable def run_ratchetbase_Within : P_ratchetbase_Within → Option R_ratchetbase_Within
 | .start n0 lo1 hi2 =>
   if (decide (lo1 ≤ n0)) = true then
     some ((decide (n0 ≤ hi2), ()), ())
   else
     some ((false, ()), ())
noncomputable def tab_ratchetbase_Within : List (Plc E P_ratchetbase_Within) := []
theorem tab_ratchetbase_Within_ok : All (PlcOk 15 0 place_ratchetbase_Within st_ratchetbase_Within) tab_ratchetbase_Within := trivial
noncomputable def code_ratchetbase_Within : Code := Tryz.f33.body.getD .skip
noncomputable def spec_ratchetbase_Within : Spec E.S := noSpec
theorem spec_ratchetbase_Within_ok : SpecOk E spec_ratchetbase_Within := noSpec_ok
theorem good_ratchetbase_Within : ∀ pt r, run_ratchetbase_Within pt = some r → Good E Tryz.f33 code_ratchetbase_Within 0 (res_ratchetbase_Within.av r) (res_ratchetbase_Within.bx r) (place_ratchetbase_Within pt) (st_ratchetbase_Within pt) := by
  intro pt r hr
  cases pt <;> exact fn_step (spec := spec_ratchetbase_Within) (wr := (fun i => mem i [])) (l := tab_ratchetbase_Within) (z := 15) (p := res_ratchetbase_Within) (run' := fun _ => none) E_ok tab_ratchetbase_Within_ok.mem rfl spec_ratchetbase_Within_ok (fun _ _ h => by cases h) (Eq.trans (by kernel_rfl) hr)
noncomputable def con_ratchetbase_Within : Con E := ⟨33, (Int × (Int × (Int × Unit))), Unit, (RwL.cons (Rd.int .i64).w (RwL.cons (Rd.int .i64).w (RwL.cons (Rd.int .i64).w RwL.nil))), RdBL.nil, 0, R_ratchetbase_Within, fun a b => run_ratchetbase_Within (.start a.1 a.2.1 a.2.2.1), res_ratchetbase_Within.av, res_ratchetbase_Within.bx⟩
theorem con_ratchetbase_Within_ok : con_ratchetbase_Within.Ok := fun a b r h => fn_ok (fn := Tryz.f33) (code := code_ratchetbase_Within) E_ok (by kernel_rfl) (by kernel_rfl) (by kernel_rfl) (Nat.le_of_ble_eq_true rfl) (good_ratchetbase_Within (.start a.1 a.2.1 a.2.2.1) r h)

/-! ### ratchet/ratchetbase.IsWidth -/
inductive P_ratchetbase_IsWidth where
 | start (n0 : Int)
noncomputable def place_ratchetbase_IsWidth : P_ratchetbase_IsWidth → List Bool
 | .start .. => []
noncomputable def st_ratchetbase_IsWidth : P_ratchetbase_IsWidth → St E.S
 | .start n0 => st0 5 [.v (.int .i64 n0)] []
abbrev R_ratchetbase_IsWidth : Type := ((Bool × Unit) × Unit)
noncomputable def res_ratchetbase_IsWidth : Res E (Bool × Unit) Unit := { rows := [], flat := [], keep := 0, rl := (RdL.cons Rd.bool RdL.nil), rb := RdBL.nil }
noncomputable def run_ratchetbase_IsWidth : P_ratchetbase_IsWidth → Option R_ratchetbase_IsWidth
 | .start n0 =>
   (run_ratchetbase_Within (.start n0 (1 : Int) (16 : Int))) >>= fun t1 =>
   some ((t1.1.1, ()), ())
noncomputable def tab_ratchetbase_IsWidth : List (Plc E P_ratchetbase_IsWidth) := []
theorem tab_ratchetbase_IsWidth_ok : All (PlcOk 5 0 place_ratchetbase_IsWidth st_ratchetbase_IsWidth) tab_ratchetbase_IsWidth := trivial
noncomputable def code_ratchetbase_IsWidth : Code := Tryz.f42.body.getD .skip
noncomputable def spec_ratchetbase_IsWidth : Spec E.S := (Con.add con_ratchetbase_Within noSpec)
theorem spec_ratchetbase_IsWidth_ok : SpecOk E spec_ratchetbase_IsWidth := (Con.add_ok con_ratchetbase_Within_ok noSpec_ok)
theorem good_ratchetbase_IsWidth : ∀ pt r, run_ratchetbase_IsWidth pt = some r → Good E Tryz.f42 code_ratchetbase_IsWidth 0 (res_ratchetbase_IsWidth.av r) (res_ratchetbase_IsWidth.bx r) (place_ratchetbase_IsWidth pt) (st_ratchetbase_IsWidth pt) := by
  intro pt r hr
  cases pt <;> exact fn_step (spec := spec_ratchetbase_IsWidth) (wr := (fun i => mem i [])) (l := tab_ratchetbase_IsWidth) (z := 5) (p := res_ratchetbase_IsWidth) (run' := fun _ => none) E_ok tab_ratchetbase_IsWidth_ok.mem rfl spec_ratchetbase_IsWidth_ok (fun _ _ h => by cases h) (Eq.trans (by kernel_rfl) hr)
noncomputable def con_ratchetbase_IsWidth : Con E := ⟨42, (Int × Unit), Unit, (RwL.cons (Rd.int .i64).w RwL.nil), RdBL.nil, 0, R_ratchetbase_IsWidth, fun a b => run_ratchetbase_IsWidth (.start a.1), res_ratchetbase_IsWidth.av, res_ratchetbase_IsWidth.bx⟩
theorem con_ratchetbase_IsWidth_ok : con_ratchetbase_IsWidth.Ok := fun a b r h => fn_ok (fn := Tryz.f42) (code := code_ratchetbase_IsWidth) E_ok (by kernel_rfl) (by kernel_rfl) (by kernel_rfl) (Nat.le_of_ble_eq_true rfl) (good_ratchetbase_IsWidth (.start a.1) r h)

/-! ### ratchet/ratchetbase.Power -/
inductive P_ratchetbase_Power where
 | start (n0 : Int)
noncomputable def place_ratchetbase_Power : P_ratchetbase_Power → List Bool
 | .start .. => []
noncomputable def st_ratchetbase_Power : P_ratchetbase_Power → St E.S
 | .start n0 => st0 5 [.v (.int .i64 n0)] []
abbrev R_ratchetbase_Power : Type := ((Int × Unit) × Unit)
noncomputable def res_ratchetbase_Power : Res E (Int × Unit) Unit := { rows := [], flat := [], keep := 0, rl := (RdL.cons (Rd.int .i64) RdL.nil), rb := RdBL.nil }
noncomputable def run_ratchetbase_Power : P_ratchetbase_Power → Option R_ratchetbase_Power
 | .start n0 =>
   if (decide ((0 : Int) ≤ n0)) = true then
     some ((shl .i64 (1 : Int) n0, ()), ())
   else none
noncomputable def tab_ratchetbase_Power : List (Plc E P_ratchetbase_Power) := []
theorem tab_ratchetbase_Power_ok : All (PlcOk 5 0 place_ratchetbase_Power st_ratchetbase_Power) tab_ratchetbase_Power := trivial
noncomputable def code_ratchetbase_Power : Code := Tryz.f48.body.getD .skip
noncomputable def spec_ratchetbase_Power : Spec E.S := noSpec
theorem spec_ratchetbase_Power_ok : SpecOk E spec_ratchetbase_Power := noSpec_ok
theorem good_ratchetbase_Power : ∀ pt r, run_ratchetbase_Power pt = some r → Good E Tryz.f48 code_ratchetbase_Power 0 (res_ratchetbase_Power.av r) (res_ratchetbase_Power.bx r) (place_ratchetbase_Power pt) (st_ratchetbase_Power pt) := by
  intro pt r hr
  cases pt <;> exact fn_step (spec := spec_ratchetbase_Power) (wr := (fun i => mem i [])) (l := tab_ratchetbase_Power) (z := 5) (p := res_ratchetbase_Power) (run' := fun _ => none) E_ok tab_ratchetbase_Power_ok.mem rfl spec_ratchetbase_Power_ok (fun _ _ h => by cases h) (Eq.trans (by kernel_rfl) hr)
noncomputable def con_ratchetbase_Power : Con E := ⟨48, (Int × Unit), Unit, (RwL.cons (Rd.int .i64).w RwL.nil), RdBL.nil, 0, R_ratchetbase_Power, fun a b => run_ratchetbase_Power (.start a.1), res_ratchetbase_Power.av, res_ratchetbase_Power.bx⟩
theorem con_ratchetbase_Power_ok : con_ratchetbase_Power.Ok := fun a b r h => fn_ok (fn := Tryz.f48) (code := code_ratchetbase_Power) E_ok (by kernel_rfl) (by kernel_rfl) (by kernel_rfl) (Nat.le_of_ble_eq_true rfl) (good_ratchetbase_Power (.start a.1) r h)

/-! ### ratchet/ratchetbase.Fits -/
inductive P_ratchetbase_Fits where
 | start (n0 : Int) (width1 : Int)
noncomputable def place_ratchetbase_Fits : P_ratchetbase_Fits → List Bool
 | .start .. => []
noncomputable def st_ratchetbase_Fits : P_ratchetbase_Fits → St E.S
 | .start n0 width1 => st0 10 [.v (.int .i64 n0), .v (.int .i64 width1)] []
abbrev R_ratchetbase_Fits : Type := ((Bool × Unit) × Unit)
noncomputable def res_ratchetbase_Fits : Res E (Bool × Unit) Unit := { rows := [], flat := [], keep := 0, rl := (RdL.cons Rd.bool RdL.nil), rb := RdBL.nil }
noncomputable def run_ratchetbase_Fits : P_ratchetbase_Fits → Option R_ratchetbase_Fits
 | .start n0 width1 =>
   (run_ratchetbase_Power (.start width1)) >>= fun t1 =>
   (run_ratchetbase_Within (.start n0 (0 : Int) (IntKind.wrap .i64 (t1.1.1 - (1 : Int))))) >>= fun t2 =>
   some ((t2.1.1, ()), ())
noncomputable def tab_ratchetbase_Fits : List (Plc E P_ratchetbase_Fits) := []
theorem tab_ratchetbase_Fits_ok : All (PlcOk 10 0 place_ratchetbase_Fits st_ratchetbase_Fits) tab_ratchetbase_Fits := trivial
noncomputable def code_ratchetbase_Fits : Code := Tryz.f43.body.getD .skip
noncomputable def spec_ratchetbase_Fits : Spec E.S := (Con.add con_ratchetbase_Within (Con.add con_ratchetbase_Power noSpec))
theorem spec_ratchetbase_Fits_ok : SpecOk E spec_ratchetbase_Fits := (Con.add_ok con_ratchetbase_Within_ok (Con.add_ok con_ratchetbase_Power_ok noSpec_ok))
theorem good_ratchetbase_Fits : ∀ pt r, run_ratchetbase_Fits pt = some r → Good E Tryz.f43 code_ratchetbase_Fits 0 (res_ratchetbase_Fits.av r) (res_ratchetbase_Fits.bx r) (place_ratchetbase_Fits pt) (st_ratchetbase_Fits pt) := by
  intro pt r hr
  cases pt <;> exact fn_step (spec := spec_ratchetbase_Fits) (wr := (fun i => mem i [])) (l := tab_ratchetbase_Fits) (z := 10) (p := res_ratchetbase_Fits) (run' := fun _ => none) E_ok tab_ratchetbase_Fits_ok.mem rfl spec_ratchetbase_Fits_ok (fun _ _ h => by cases h) (Eq.trans (by kernel_rfl) hr)
noncomputable def con_ratchetbase_Fits : Con E := ⟨43, (Int × (Int × Unit)), Unit, (RwL.cons (Rd.int .i64).w (RwL.cons (Rd.int .i64).w RwL.nil)), RdBL.nil, 0, R_ratchetbase_Fits, fun a b => run_ratchetbase_Fits (.start a.1 a.2.1), res_ratchetbase_Fits.av, res_ratchetbase_Fits.bx⟩
theorem con_ratchetbase_Fits_ok : con_ratchetbase_Fits.Ok := fun a b r h => fn_ok (fn := Tryz.f43) (code := code_ratchetbase_Fits) E_ok (by kernel_rfl) (by kernel_rfl) (by kernel_rfl) (Nat.le_of_ble_eq_true rfl) (good_ratchetbase_Fits (.start a.1 a.2.1) r h)

/-! ### ratchet/ratchetref05.Literal -/
inductive P_ratchetref05_Literal where
 | start (s0 : ByteArray)
 | p120 (s0 : ByteArray) (cut5 : Int) (B0_0 : Int) (B0_1 : Int) (B1_0 : Int) (B1_1 : Int)
 | p31 (s0 : ByteArray) (cut5 : Int) (B0_0 : Int) (B0_1 : Int) (B1_0 : Int) (B1_1 : Int)
 | p127 (s0 : ByteArray) (cut5 : Int) (width6 : Int) (B0_0 : Int) (B0_1 : Int) (B1_0 : Int) (B1_1 : Int)
 | p4084 (s0 : ByteArray) (width6 : Int) (by8 : Int) (value9 : Int) (i10 : Int) (B0_0 : Int) (B0_1 : Int) (B1_0 : Int) (B1_1 : Int)
noncomputable def place_ratchetref05_Literal : P_ratchetref05_Literal → List Bool
 | .start .. => []
 | .p120 .. => [false, false, false, true, true, true]
 | .p31 .. => [true, true, true, true]
 | .p127 .. => [true, true, true, true, true, true]
 | .p4084 .. => [false, false, true, false, true, true, true, true, true, true, true]
noncomputable def st_ratchetref05_Literal : P_ratchetref05_Literal → St E.S
 | .start s0 => st0 99 [.v (.string s0)] []
 | .p120 s0 cut5 B0_0 B0_1 B1_0 B1_1 => mkSt 99 [0, 2, 4, 5] [.v (.string s0), .bp 0 0, .bp 1 0, .v (.int .i64 cut5)] [.var 47 [.v (.int .i64 B0_0), .v (.int .i64 B0_1)], .var 47 [.v (.int .i64 B1_0), .v (.int .i64 B1_1)]]
 | .p31 s0 cut5 B0_0 B0_1 B1_0 B1_1 => mkSt 99 [0, 2, 4, 5] [.v (.string s0), .bp 0 0, .bp 1 0, .v (.int .i64 cut5)] [.var 47 [.v (.int .i64 B0_0), .v (.int .i64 B0_1)], .var 47 [.v (.int .i64 B1_0), .v (.int .i64 B1_1)]]
 | .p127 s0 cut5 width6 B0_0 B0_1 B1_0 B1_1 => mkSt 99 [0, 2, 4, 5, 6] [.v (.string s0), .bp 0 0, .bp 1 0, .v (.int .i64 cut5), .v (.int .i64 width6)] [.var 47 [.v (.int .i64 B0_0), .v (.int .i64 B0_1)], .var 47 [.v (.int .i64 B1_0), .v (.int .i64 B1_1)]]
 | .p4084 s0 width6 by8 value9 i10 B0_0 B0_1 B1_0 B1_1 => mkSt 99 [0, 2, 4, 6, 8, 9, 10] [.v (.string s0), .bp 0 0, .bp 1 0, .v (.int .i64 width6), .v (.int .i64 by8), .v (.int .i64 value9), .v (.int .i64 i10)] [.var 47 [.v (.int .i64 B0_0), .v (.int .i64 B0_1)], .var 47 [.v (.int .i64 B1_0), .v (.int .i64 B1_1)]]
abbrev R_ratchetref05_Literal : Type := (((Int × (Int × Unit)) × (Int × Unit)) × Unit)
noncomputable def res_ratchetref05_Literal : Res E ((Int × (Int × Unit)) × (Int × Unit)) Unit := { rows := [], flat := [], keep := 0, rl := (RdL.cons (Rd.agg (RdL.cons (Rd.int .i64) (RdL.cons (Rd.int .i64) RdL.nil))) (RdL.cons (Rd.int .i64) RdL.nil)), rb := RdBL.nil }
noncomputable def run_ratchetref05_Literal : P_ratchetref05_Literal → Option R_ratchetref05_Literal
 | .start s0 =>
   run_ratchetref05_Literal (.p120 s0 (0 : Int) (0 : Int) (0 : Int) (0 : Int) (0 : Int))
 | .p120 s0 cut5 B0_0 B0_1 B1_0 B1_1 =>
   if (decide (cut5 < (s0.size : Int))) = true then
     (sidx s0 cut5) >>= fun t1 =>
     if (t1 != (39 : Int)) = true then
       run_ratchetref05_Literal (.p120 s0 (IntKind.wrap .i64 (cut5 + (1 : Int))) B0_0 B0_1 B1_0 B1_1)
     else
       run_ratchetref05_Literal (.p31 s0 cut5 B0_0 B0_1 B1_0 B1_1)
   else
     run_ratchetref05_Literal (.p31 s0 cut5 B0_0 B0_1 B1_0 B1_1)
 | .p31 s0 cut5 B0_0 B0_1 B1_0 B1_1 =>
   (span s0.size (0 : Int) cut5) >>= fun t1 =>
   (run_ratchetref05_number (.start (s0.extract t1.1 t1.2))) >>= fun t2 =>
   if (!t2.1.2.1) = true then
     some (((B1_0, (B1_1, ())), ((7 : Int), ())), ())
   else
     if (decide ((IntKind.wrap .i64 (cut5 + (2 : Int))) ≥ (s0.size : Int))) = true then
       some (((B1_0, (B1_1, ())), ((7 : Int), ())), ())
     else
       if (decide ((IntKind.wrap .i64 ((IntKind.wrap .i64 ((s0.size : Int) - cut5)) - (2 : Int))) > (16 : Int))) = true then
         some (((B1_0, (B1_1, ())), ((7 : Int), ())), ())
       else
         (sidx s0 (IntKind.wrap .i64 (cut5 + (1 : Int)))) >>= fun t3 =>
         (run_ratchetref05_By (.start t3)) >>= fun t4 =>
         if (t4.1.1 == (0 : Int)) = true then
           some (((B1_0, (B1_1, ())), ((7 : Int), ())), ())
         else
           run_ratchetref05_Literal (.p127 s0 cut5 t2.1.1 B0_0 B0_1 B1_0 B1_1)
 | .p127 s0 cut5 width6 B0_0 B0_1 B1_0 B1_1 =>
   (sidx s0 (IntKind.wrap .i64 (cut5 + (1 : Int)))) >>= fun t1 =>
   (run_ratchetref05_By (.start t1)) >>= fun t2 =>
   run_ratchetref05_Literal (.p4084 s0 width6 t2.1.1 (0 : Int) (IntKind.wrap .i64 (cut5 + (2 : Int))) B0_0 B0_1 B1_0 B1_1)
 | .p4084 s0 width6 by8 value9 i10 B0_0 B0_1 B1_0 B1_1 =>
   if (decide (i10 < (s0.size : Int))) = true then
     (sidx s0 i10) >>= fun t1 =>
     (run_ratchetref05_digit (.start t1 by8)) >>= fun t2 =>
     if (decide (t2.1.1 < (0 : Int))) = true then
       some (((B1_0, (B1_1, ())), ((7 : Int), ())), ())
     else
       if (decide (value9 < (1000000 : Int))) = true then
         run_ratchetref05_Literal (.p4084 s0 width6 by8 (IntKind.wrap .i64 ((IntKind.wrap .i64 (value9 * by8)) + t2.1.1)) (IntKind.wrap .i64 (i10 + (1 : Int))) B0_0 B0_1 B1_0 B1_1)
       else
         run_ratchetref05_Literal (.p4084 s0 width6 by8 value9 (IntKind.wrap .i64 (i10 + (1 : Int))) B0_0 B0_1 B1_0 B1_1)
   else
     (run_ratchetbase_IsWidth (.start width6)) >>= fun t3 =>
     if (!t3.1.1) = true then
       some (((B1_0, (B1_1, ())), ((2 : Int), ())), ())
     else
       (run_ratchetbase_Fits (.start value9 width6)) >>= fun t4 =>
       if (!t4.1.1) = true then
         some (((B1_0, (B1_1, ())), ((2 : Int), ())), ())
       else
         some (((value9, (width6, ())), ((0 : Int), ())), ())
  partial_fixpoint
noncomputable def tab_ratchetref05_Literal : List (Plc E P_ratchetref05_Literal) := [⟨120, [false, false, false, true, true, true], { slots := [0, 2, 4, 5], rows := [], flat := [], keep := 0 }, (ByteArray × (Unit × (Unit × (Int × Unit)))), ((Int × (Int × Unit)) × ((Int × (Int × Unit)) × Unit)), (RdL.cons Rd.str (RdL.cons (Rd.bp 0 0) (RdL.cons (Rd.bp 1 0) (RdL.cons (Rd.int .i64) RdL.nil)))), (RdBL.cons (RdB.var 47 (RdL.cons (Rd.int .i64) (RdL.cons (Rd.int .i64) RdL.nil))) (RdBL.cons (RdB.var 47 (RdL.cons (Rd.int .i64) (RdL.cons (Rd.int .i64) RdL.nil))) RdBL.nil)), fun a b => .p120 a.1 a.2.2.2.1 b.1.1 b.1.2.1 b.2.1.1 b.2.1.2.1⟩,
  ⟨31, [true, true, true, true], { slots := [0, 2, 4, 5], rows := [], flat := [], keep := 0 }, (ByteArray × (Unit × (Unit × (Int × Unit)))), ((Int × (Int × Unit)) × ((Int × (Int × Unit)) × Unit)), (RdL.cons Rd.str (RdL.cons (Rd.bp 0 0) (RdL.cons (Rd.bp 1 0) (RdL.cons (Rd.int .i64) RdL.nil)))), (RdBL.cons (RdB.var 47 (RdL.cons (Rd.int .i64) (RdL.cons (Rd.int .i64) RdL.nil))) (RdBL.cons (RdB.var 47 (RdL.cons (Rd.int .i64) (RdL.cons (Rd.int .i64) RdL.nil))) RdBL.nil)), fun a b => .p31 a.1 a.2.2.2.1 b.1.1 b.1.2.1 b.2.1.1 b.2.1.2.1⟩,
  ⟨127, [true, true, true, true, true, true], { slots := [0, 2, 4, 5, 6], rows := [], flat := [], keep := 0 }, (ByteArray × (Unit × (Unit × (Int × (Int × Unit))))), ((Int × (Int × Unit)) × ((Int × (Int × Unit)) × Unit)), (RdL.cons Rd.str (RdL.cons (Rd.bp 0 0) (RdL.cons (Rd.bp 1 0) (RdL.cons (Rd.int .i64) (RdL.cons (Rd.int .i64) RdL.nil))))), (RdBL.cons (RdB.var 47 (RdL.cons (Rd.int .i64) (RdL.cons (Rd.int .i64) RdL.nil))) (RdBL.cons (RdB.var 47 (RdL.cons (Rd.int .i64) (RdL.cons (Rd.int .i64) RdL.nil))) RdBL.nil)), fun a b => .p127 a.1 a.2.2.2.1 a.2.2.2.2.1 b.1.1 b.1.2.1 b.2.1.1 b.2.1.2.1⟩,
  ⟨4084, [false, false, true, false, true, true, true, true, true, true, true], { slots := [0, 2, 4, 6, 8, 9, 10], rows := [], flat := [], keep := 0 }, (ByteArray × (Unit × (Unit × (Int × (Int × (Int × (Int × Unit))))))), ((Int × (Int × Unit)) × ((Int × (Int × Unit)) × Unit)), (RdL.cons Rd.str (RdL.cons (Rd.bp 0 0) (RdL.cons (Rd.bp 1 0) (RdL.cons (Rd.int .i64) (RdL.cons (Rd.int .i64) (RdL.cons (Rd.int .i64) (RdL.cons (Rd.int .i64) RdL.nil))))))), (RdBL.cons (RdB.var 47 (RdL.cons (Rd.int .i64) (RdL.cons (Rd.int .i64) RdL.nil))) (RdBL.cons (RdB.var 47 (RdL.cons (Rd.int .i64) (RdL.cons (Rd.int .i64) RdL.nil))) RdBL.nil)), fun a b => .p4084 a.1 a.2.2.2.1 a.2.2.2.2.1 a.2.2.2.2.2.1 a.2.2.2.2.2.2.1 b.1.1 b.1.2.1 b.2.1.1 b.2.1.2.1⟩]
theorem tab_ratchetref05_Literal_ok : All (PlcOk 99 0 place_ratchetref05_Literal st_ratchetref05_Literal) tab_ratchetref05_Literal := ⟨⟨rfl, rfl, fun _ _ => rfl, fun _ _ => rfl⟩, ⟨⟨rfl, rfl, fun _ _ => rfl, fun _ _ => rfl⟩, ⟨⟨rfl, rfl, fun _ _ => rfl, fun _ _ => rfl⟩, ⟨⟨rfl, rfl, fun _ _ => rfl, fun _ _ => rfl⟩, trivial⟩⟩⟩⟩
noncomputable def code_ratchetref05_Literal : Code := Tryz.f18.body.getD .skip
noncomputable def spec_ratchetref05_Literal : Spec E.S := (Con.add con_ratchetbase_Fits (Con.add con_ratchetbase_IsWidth (Con.add con_ratchetref05_digit (Con.add con_ratchetref05_By (Con.add con_ratchetref05_number noSpec)))))
theorem spec_ratchetref05_Literal_ok : SpecOk E spec_ratchetref05_Literal := (Con.add_ok con_ratchetbase_Fits_ok (Con.add_ok con_ratchetbase_IsWidth_ok (Con.add_ok con_ratchetref05_digit_ok (Con.add_ok con_ratchetref05_By_ok (Con.add_ok con_ratchetref05_number_ok noSpec_ok)))))
theorem good_ratchetref05_Literal : ∀ pt r, run_ratchetref05_Literal pt = some r → Good E Tryz.f18 code_ratchetref05_Literal 0 (res_ratchetref05_Literal.av r) (res_ratchetref05_Literal.bx r) (place_ratchetref05_Literal pt) (st_ratchetref05_Literal pt) := by
  refine run_ratchetref05_Literal.partial_correctness (fun pt r => Good E Tryz.f18 code_ratchetref05_Literal 0 (res_ratchetref05_Literal.av r) (res_ratchetref05_Literal.bx r) (place_ratchetref05_Literal pt) (st_ratchetref05_Literal pt)) ?_
  intro run' ih pt r hr
  cases pt <;> exact fn_step (spec := spec_ratchetref05_Literal) (wr := (fun i => mem i [])) (l := tab_ratchetref05_Literal) (z := 99) (p := res_ratchetref05_Literal) E_ok tab_ratchetref05_Literal_ok.mem rfl spec_ratchetref05_Literal_ok ih (Eq.trans (by kernel_rfl) hr)
noncomputable def con_ratchetref05_Literal : Con E := ⟨18, (ByteArray × Unit), Unit, (RwL.cons Rd.str.w RwL.nil), RdBL.nil, 0, R_ratchetref05_Literal, fun a b => run_ratchetref05_Literal (.start a.1), res_ratchetref05_Literal.av, res_ratchetref05_Literal.bx⟩
theorem con_ratchetref05_Literal_ok : con_ratchetref05_Literal.Ok := fun a b r h => fn_ok (fn := Tryz.f18) (code := code_ratchetref05_Literal) E_ok (by kernel_rfl) (by kernel_rfl) (by kernel_rfl) (Nat.le_of_ble_eq_true rfl) (good_ratchetref05_Literal (.start a.1) r h)

/-! ### ratchet/ratchetref05.token -/
inductive P_ratchetref05_token where
 | start (text0 : ByteArray) (at1 : Int)
 | p976 (text0 : ByteArray) (at1 : Int) (c6 : Int) (end7 : Int) (B0_0 : Int) (B0_1 : Int) (B0_2 : ByteArray) (B0_3 : Int) (B0_4 : Int) (B1_0 : Int) (B1_1 : Int) (B2_0 : Int) (B2_1 : Int) (B2_2 : ByteArray) (B2_3 : Int) (B2_4 : Int)
 | p245 (text0 : ByteArray) (at1 : Int) (c6 : Int) (end7 : Int) (B0_0 : Int) (B0_1 : Int) (B0_2 : ByteArray) (B0_3 : Int) (B0_4 : Int) (B1_0 : Int) (B1_1 : Int) (B2_0 : Int) (B2_1 : Int) (B2_2 : ByteArray) (B2_3 : Int) (B2_4 : Int)
 | p2000 (text0 : ByteArray) (at1 : Int) (end7 : Int) (B0_0 : Int) (B0_1 : Int) (B0_2 : ByteArray) (B0_3 : Int) (B0_4 : Int) (B1_0 : Int) (B1_1 : Int) (B2_0 : Int) (B2_1 : Int) (B2_2 : ByteArray) (B2_3 : Int) (B2_4 : Int)
 | p501 (text0 : ByteArray) (at1 : Int) (end7 : Int) (B0_0 : Int) (B0_1 : Int) (B0_2 : ByteArray) (B0_3 : Int) (B0_4 : Int) (B1_0 : Int) (B1_1 : Int) (B2_0 : Int) (B2_1 : Int) (B2_2 : ByteArray) (B2_3 : Int) (B2_4 : Int)
 | p2036 (text0 : ByteArray) (at1 : Int) (c6 : Int) (all13 : (List ByteArray)) (i14 : Int) (B0_0 : Int) (B0_1 : Int) (B0_2 : ByteArray) (B0_3 : Int) (B0_4 : Int) (B1_0 : Int) (B1_1 : Int) (B2_0 : Int) (B2_1 : Int) (B2_2 : ByteArray) (B2_3 : Int) (B2_4 : Int)
 | p32585 (text0 : ByteArray) (at1 : Int) (c6 : Int) (all13 : (List ByteArray)) (i14 : Int) (s164 : Bool) (B0_0 : Int) (B0_1 : Int) (B0_2 : ByteArray) (B0_3 : Int) (B0_4 : Int) (B1_0 : Int) (B1_1 : Int) (B2_0 : Int) (B2_1 : Int) (B2_2 : ByteArray) (B2_3 : Int) (B2_4 : Int)
noncomputable def place_ratchetref05_token : P_ratchetref05_token → List Bool
 | .start .. => []
 | .p976 .. => [false, false, false, false, true, false, true, true, true]
 | .p245 .. => [true, false, true, false, true, true, true]
 | .p2000 .. => [false, false, false, false, true, false, true, true, true, true]
 | .p501 .. => [true, false, true, false, true, true, true, true]
 | .p2036 .. => [false, false, true, false, true, true, true, true, true, true]
 | .p32585 .. => [true, false, false, true, false, false, true, false, true, true, true, true, true, true]
noncomputable def st_ratchetref05_token : P_ratchetref05_token → St E.S
 | .start text0 at1 => st0 183 [.v (.string text0), .v (.int .i64 at1)] []
 | .p976 text0 at1 c6 end7 B0_0 B0_1 B0_2 B0_3 B0_4 B1_0 B1_1 B2_0 B2_1 B2_2 B2_3 B2_4 => mkSt 183 [0, 1, 4, 5, 6, 7, 8] [.v (.string text0), .v (.int .i64 at1), .bp 0 0, .bp 1 0, .v (.int .u8 c6), .v (.int .i64 end7), .bp 2 0] [.var 33 [.v (.int .i64 B0_0), .v (.int .i64 B0_1), .v (.string B0_2), .v (.int .i64 B0_3), .v (.int .i64 B0_4)], .var 28 [.v (.int .i64 B1_0), .v (.int .i64 B1_1)], .var 33 [.v (.int .i64 B2_0), .v (.int .i64 B2_1), .v (.string B2_2), .v (.int .i64 B2_3), .v (.int .i64 B2_4)]]
 | .p245 text0 at1 c6 end7 B0_0 B0_1 B0_2 B0_3 B0_4 B1_0 B1_1 B2_0 B2_1 B2_2 B2_3 B2_4 => mkSt 183 [0, 1, 4, 5, 6, 7, 8] [.v (.string text0), .v (.int .i64 at1), .bp 0 0, .bp 1 0, .v (.int .u8 c6), .v (.int .i64 end7), .bp 2 0] [.var 33 [.v (.int .i64 B0_0), .v (.int .i64 B0_1), .v (.string B0_2), .v (.int .i64 B0_3), .v (.int .i64 B0_4)], .var 28 [.v (.int .i64 B1_0), .v (.int .i64 B1_1)], .var 33 [.v (.int .i64 B2_0), .v (.int .i64 B2_1), .v (.string B2_2), .v (.int .i64 B2_3), .v (.int .i64 B2_4)]]
 | .p2000 text0 at1 end7 B0_0 B0_1 B0_2 B0_3 B0_4 B1_0 B1_1 B2_0 B2_1 B2_2 B2_3 B2_4 => mkSt 183 [0, 1, 4, 5, 7, 8] [.v (.string text0), .v (.int .i64 at1), .bp 0 0, .bp 1 0, .v (.int .i64 end7), .bp 2 0] [.var 33 [.v (.int .i64 B0_0), .v (.int .i64 B0_1), .v (.string B0_2), .v (.int .i64 B0_3), .v (.int .i64 B0_4)], .var 28 [.v (.int .i64 B1_0), .v (.int .i64 B1_1)], .var 33 [.v (.int .i64 B2_0), .v (.int .i64 B2_1), .v (.string B2_2), .v (.int .i64 B2_3), .v (.int .i64 B2_4)]]
 | .p501 text0 at1 end7 B0_0 B0_1 B0_2 B0_3 B0_4 B1_0 B1_1 B2_0 B2_1 B2_2 B2_3 B2_4 => mkSt 183 [0, 1, 4, 5, 7, 8] [.v (.string text0), .v (.int .i64 at1), .bp 0 0, .bp 1 0, .v (.int .i64 end7), .bp 2 0] [.var 33 [.v (.int .i64 B0_0), .v (.int .i64 B0_1), .v (.string B0_2), .v (.int .i64 B0_3), .v (.int .i64 B0_4)], .var 28 [.v (.int .i64 B1_0), .v (.int .i64 B1_1)], .var 33 [.v (.int .i64 B2_0), .v (.int .i64 B2_1), .v (.string B2_2), .v (.int .i64 B2_3), .v (.int .i64 B2_4)]]
 | .p2036 text0 at1 c6 all13 i14 B0_0 B0_1 B0_2 B0_3 B0_4 B1_0 B1_1 B2_0 B2_1 B2_2 B2_3 B2_4 => mkSt 183 [0, 1, 4, 5, 6, 8, 13, 14] [.v (.string text0), .v (.int .i64 at1), .bp 0 0, .bp 1 0, .v (.int .u8 c6), .bp 2 0, .sl 9 all13 true, .v (.int .i64 i14)] [.var 33 [.v (.int .i64 B0_0), .v (.int .i64 B0_1), .v (.string B0_2), .v (.int .i64 B0_3), .v (.int .i64 B0_4)], .var 28 [.v (.int .i64 B1_0), .v (.int .i64 B1_1)], .var 33 [.v (.int .i64 B2_0), .v (.int .i64 B2_1), .v (.string B2_2), .v (.int .i64 B2_3), .v (.int .i64 B2_4)]]
 | .p32585 text0 at1 c6 all13 i14 s164 B0_0 B0_1 B0_2 B0_3 B0_4 B1_0 B1_1 B2_0 B2_1 B2_2 B2_3 B2_4 => mkSt 183 [0, 1, 4, 5, 6, 8, 13, 14, 164] [.v (.string text0), .v (.int .i64 at1), .bp 0 0, .bp 1 0, .v (.int .u8 c6), .bp 2 0, .sl 9 all13 true, .v (.int .i64 i14), .v (.bool s164)] [.var 33 [.v (.int .i64 B0_0), .v (.int .i64 B0_1), .v (.string B0_2), .v (.int .i64 B0_3), .v (.int .i64 B0_4)], .var 28 [.v (.int .i64 B1_0), .v (.int .i64 B1_1)], .var 33 [.v (.int .i64 B2_0), .v (.int .i64 B2_1), .v (.string B2_2), .v (.int .i64 B2_3), .v (.int .i64 B2_4)]]
abbrev R_ratchetref05_token : Type := (((Int × (Int × (ByteArray × (Int × (Int × Unit))))) × ((Int × (Int × Unit)) × Unit)) × Unit)
noncomputable def res_ratchetref05_token : Res E ((Int × (Int × (ByteArray × (Int × (Int × Unit))))) × ((Int × (Int × Unit)) × Unit)) Unit := { rows := [], flat := [], keep := 0, rl := (RdL.cons (Rd.agg (RdL.cons (Rd.int .i64) (RdL.cons (Rd.int .i64) (RdL.cons Rd.str (RdL.cons (Rd.int .i64) (RdL.cons (Rd.int .i64) RdL.nil)))))) (RdL.cons (Rd.agg (RdL.cons (Rd.int .i64) (RdL.cons (Rd.int .i64) RdL.nil))) RdL.nil)), rb := RdBL.nil }
noncomputable def run_ratchetref05_token : P_ratchetref05_token → Option R_ratchetref05_token
 | .start text0 at1 =>
   (sidx text0 at1) >>= fun t1 =>
   (run_ratchetref05_IsLetter (.start t1)) >>= fun t2 =>
   if t2.1.1 = true then
     run_ratchetref05_token (.p976 text0 at1 t1 at1 (0 : Int) (0 : Int) (⟨#[]⟩ : ByteArray) (0 : Int) (0 : Int) (0 : Int) (0 : Int) (0 : Int) at1 (⟨#[]⟩ : ByteArray) (0 : Int) (0 : Int))
   else
     (run_ratchetref05_IsDigit (.start t1)) >>= fun t3 =>
     if t3.1.1 = true then
       run_ratchetref05_token (.p2000 text0 at1 at1 (0 : Int) (0 : Int) (⟨#[]⟩ : ByteArray) (0 : Int) (0 : Int) (0 : Int) (0 : Int) (0 : Int) at1 (⟨#[]⟩ : ByteArray) (0 : Int) (0 : Int))
     else
       (run_ratchetref05_Operators .start) >>= fun t4 =>
       run_ratchetref05_token (.p2036 text0 at1 t1 t4.1.1 (0 : Int) (0 : Int) (0 : Int) (⟨#[]⟩ : ByteArray) (0 : Int) (0 : Int) (0 : Int) (0 : Int) (0 : Int) at1 (⟨#[]⟩ : ByteArray) (0 : Int) (0 : Int))
 | .p976 text0 at1 c6 end7 B0_0 B0_1 B0_2 B0_3 B0_4 B1_0 B1_1 B2_0 B2_1 B2_2 B2_3 B2_4 =>
   if (decide (end7 < (text0.size : Int))) = true then
     (sidx text0 end7) >>= fun t1 =>
     (run_ratchetref05_IsLetter (.start t1)) >>= fun t2 =>
     if t2.1.1 = true then
       run_ratchetref05_token (.p976 text0 at1 c6 (IntKind.wrap .i64 (end7 + (1 : Int))) B0_0 B0_1 B0_2 B0_3 B0_4 B1_0 B1_1 B2_0 B2_1 B2_2 B2_3 B2_4)
     else
       (sidx text0 end7) >>= fun t3 =>
       (run_ratchetref05_IsDigit (.start t3)) >>= fun t4 =>
       if t4.1.1 = true then
         run_ratchetref05_token (.p976 text0 at1 c6 (IntKind.wrap .i64 (end7 + (1 : Int))) B0_0 B0_1 B0_2 B0_3 B0_4 B1_0 B1_1 B2_0 B2_1 B2_2 B2_3 B2_4)
       else
         (sidx text0 end7) >>= fun t5 =>
         if (t5 == (95 : Int)) = true then
           run_ratchetref05_token (.p976 text0 at1 c6 (IntKind.wrap .i64 (end7 + (1 : Int))) B0_0 B0_1 B0_2 B0_3 B0_4 B1_0 B1_1 B2_0 B2_1 B2_2 B2_3 B2_4)
         else
           run_ratchetref05_token (.p245 text0 at1 c6 end7 B0_0 B0_1 B0_2 B0_3 B0_4 B1_0 B1_1 B2_0 B2_1 B2_2 B2_3 B2_4)
   else
     run_ratchetref05_token (.p245 text0 at1 c6 end7 B0_0 B0_1 B0_2 B0_3 B0_4 B1_0 B1_1 B2_0 B2_1 B2_2 B2_3 B2_4)
 | .p245 text0 at1 c6 end7 B0_0 B0_1 B0_2 B0_3 B0_4 B1_0 B1_1 B2_0 B2_1 B2_2 B2_3 B2_4 =>
   (span text0.size at1 end7) >>= fun t1 =>
   if (decide ((IntKind.wrap .i64 (end7 - at1)) > (16 : Int))) = true then
     some ((((0 : Int), ((0 : Int), ((⟨#[]⟩ : ByteArray), ((0 : Int), ((0 : Int), ()))))), ((at1, ((4 : Int), ())), ())), ())
   else
     (run_ratchetref05_Keywords .start) >>= fun t2 =>
     (run_ratchetbase_HasText (.start t2.1.1 (text0.extract t1.1 t1.2))) >>= fun t3 =>
     if t3.1.1 = true then
       some ((((2 : Int), (B2_1, (text0.extract t1.1 t1.2, (B2_3, (B2_4, ()))))), (((0 : Int), ((0 : Int), ())), ())), ())
     else
       (run_ratchetref05_IsCapital (.start c6)) >>= fun t4 =>
       if t4.1.1 = true then
         some ((((1 : Int), (B2_1, (text0.extract t1.1 t1.2, (B2_3, (B2_4, ()))))), (((0 : Int), ((0 : Int), ())), ())), ())
       else
         some (((B2_0, (B2_1, (text0.extract t1.1 t1.2, (B2_3, (B2_4, ()))))), (((0 : Int), ((0 : Int), ())), ())), ())
 | .p2000 text0 at1 end7 B0_0 B0_1 B0_2 B0_3 B0_4 B1_0 B1_1 B2_0 B2_1 B2_2 B2_3 B2_4 =>
   if (decide (end7 < (text0.size : Int))) = true then
     (sidx text0 end7) >>= fun t1 =>
     (run_ratchetref05_IsLetter (.start t1)) >>= fun t2 =>
     if t2.1.1 = true then
       run_ratchetref05_token (.p2000 text0 at1 (IntKind.wrap .i64 (end7 + (1 : Int))) B0_0 B0_1 B0_2 B0_3 B0_4 B1_0 B1_1 B2_0 B2_1 B2_2 B2_3 B2_4)
     else
       (sidx text0 end7) >>= fun t3 =>
       (run_ratchetref05_IsDigit (.start t3)) >>= fun t4 =>
       if t4.1.1 = true then
         run_ratchetref05_token (.p2000 text0 at1 (IntKind.wrap .i64 (end7 + (1 : Int))) B0_0 B0_1 B0_2 B0_3 B0_4 B1_0 B1_1 B2_0 B2_1 B2_2 B2_3 B2_4)
       else
         (sidx text0 end7) >>= fun t5 =>
         if (t5 == (95 : Int)) = true then
           run_ratchetref05_token (.p2000 text0 at1 (IntKind.wrap .i64 (end7 + (1 : Int))) B0_0 B0_1 B0_2 B0_3 B0_4 B1_0 B1_1 B2_0 B2_1 B2_2 B2_3 B2_4)
         else
           (sidx text0 end7) >>= fun t6 =>
           if (t6 == (39 : Int)) = true then
             run_ratchetref05_token (.p2000 text0 at1 (IntKind.wrap .i64 (end7 + (1 : Int))) B0_0 B0_1 B0_2 B0_3 B0_4 B1_0 B1_1 B2_0 B2_1 B2_2 B2_3 B2_4)
           else
             run_ratchetref05_token (.p501 text0 at1 end7 B0_0 B0_1 B0_2 B0_3 B0_4 B1_0 B1_1 B2_0 B2_1 B2_2 B2_3 B2_4)
   else
     run_ratchetref05_token (.p501 text0 at1 end7 B0_0 B0_1 B0_2 B0_3 B0_4 B1_0 B1_1 B2_0 B2_1 B2_2 B2_3 B2_4)
 | .p501 text0 at1 end7 B0_0 B0_1 B0_2 B0_3 B0_4 B1_0 B1_1 B2_0 B2_1 B2_2 B2_3 B2_4 =>
   (span text0.size at1 end7) >>= fun t1 =>
   (run_ratchetref05_number (.start (text0.extract t1.1 t1.2))) >>= fun t2 =>
   if t2.1.2.1 = true then
     some ((((3 : Int), (B2_1, (text0.extract t1.1 t1.2, (t2.1.1, (B2_4, ()))))), (((0 : Int), ((0 : Int), ())), ())), ())
   else
     (run_ratchetref05_Literal (.start (text0.extract t1.1 t1.2))) >>= fun t3 =>
     if (t3.1.2.1 != (0 : Int)) = true then
       some ((((0 : Int), ((0 : Int), ((⟨#[]⟩ : ByteArray), ((0 : Int), ((0 : Int), ()))))), ((at1, (t3.1.2.1, ())), ())), ())
     else
       some ((((4 : Int), (B2_1, (text0.extract t1.1 t1.2, (t3.1.1.1, (t3.1.1.2.1, ()))))), (((0 : Int), ((0 : Int), ())), ())), ())
 | .p2036 text0 at1 c6 all13 i14 B0_0 B0_1 B0_2 B0_3 B0_4 B1_0 B1_1 B2_0 B2_1 B2_2 B2_3 B2_4 =>
   if (decide (i14 < (List.length all13 : Int))) = true then
     (idx all13 i14) >>= fun t1 =>
     (run_ratchetref05_has (.start text0 at1 t1)) >>= fun t2 =>
     if t2.1.1 = true then
       (idx all13 i14) >>= fun t3 =>
       run_ratchetref05_token (.p32585 text0 at1 c6 all13 i14 (decide ((t3.size : Int) > (B2_2.size : Int))) B0_0 B0_1 B0_2 B0_3 B0_4 B1_0 B1_1 B2_0 B2_1 B2_2 B2_3 B2_4)
     else
       run_ratchetref05_token (.p32585 text0 at1 c6 all13 i14 false B0_0 B0_1 B0_2 B0_3 B0_4 B1_0 B1_1 B2_0 B2_1 B2_2 B2_3 B2_4)
   else
     if (seq B2_2 (⟨#[]⟩ : ByteArray)) = true then
       (run_ratchetref05_IsPermitted (.start c6)) >>= fun t4 =>
       if (!t4.1.1) = true then
         some ((((0 : Int), ((0 : Int), ((⟨#[]⟩ : ByteArray), ((0 : Int), ((0 : Int), ()))))), ((at1, ((15 : Int), ())), ())), ())
       else
         some ((((0 : Int), ((0 : Int), ((⟨#[]⟩ : ByteArray), ((0 : Int), ((0 : Int), ()))))), ((at1, ((7 : Int), ())), ())), ())
     else
       some ((((5 : Int), (B2_1, (B2_2, (B2_3, (B2_4, ()))))), (((0 : Int), ((0 : Int), ())), ())), ())
 | .p32585 text0 at1 c6 all13 i14 s164 B0_0 B0_1 B0_2 B0_3 B0_4 B1_0 B1_1 B2_0 B2_1 B2_2 B2_3 B2_4 =>
   if s164 = true then
     (idx all13 i14) >>= fun t1 =>
     run_ratchetref05_token (.p2036 text0 at1 c6 all13 (IntKind.wrap .i64 (i14 + (1 : Int))) B0_0 B0_1 B0_2 B0_3 B0_4 B1_0 B1_1 B2_0 B2_1 t1 B2_3 B2_4)
   else
     run_ratchetref05_token (.p2036 text0 at1 c6 all13 (IntKind.wrap .i64 (i14 + (1 : Int))) B0_0 B0_1 B0_2 B0_3 B0_4 B1_0 B1_1 B2_0 B2_1 B2_2 B2_3 B2_4)
  partial_fixpoint
noncomputable def tab_ratchetref05_token : List (Plc E P_ratchetref05_token) := [⟨976, [false, false, false, false, true, false, true, true, true], { slots := [0, 1, 4, 5, 6, 7, 8], rows := [], flat := [], keep := 0 }, (ByteArray × (Int × (Unit × (Unit × (Int × (Int × (Unit × Unit))))))), ((Int × (Int × (ByteArray × (Int × (Int × Unit))))) × ((Int × (Int × Unit)) × ((Int × (Int × (ByteArray × (Int × (Int × Unit))))) × Unit))), (RdL.cons Rd.str (RdL.cons (Rd.int .i64) (RdL.cons (Rd.bp 0 0) (RdL.cons (Rd.bp 1 0) (RdL.cons (Rd.int .u8) (RdL.cons (Rd.int .i64) (RdL.cons (Rd.bp 2 0) RdL.nil))))))), (RdBL.cons (RdB.var 33 (RdL.cons (Rd.int .i64) (RdL.cons (Rd.int .i64) (RdL.cons Rd.str (RdL.cons (Rd.int .i64) (RdL.cons (Rd.int .i64) RdL.nil)))))) (RdBL.cons (RdB.var 28 (RdL.cons (Rd.int .i64) (RdL.cons (Rd.int .i64) RdL.nil))) (RdBL.cons (RdB.var 33 (RdL.cons (Rd.int .i64) (RdL.cons (Rd.int .i64) (RdL.cons Rd.str (RdL.cons (Rd.int .i64) (RdL.cons (Rd.int .i64) RdL.nil)))))) RdBL.nil))), fun a b => .p976 a.1 a.2.1 a.2.2.2.2.1 a.2.2.2.2.2.1 b.1.1 b.1.2.1 b.1.2.2.1 b.1.2.2.2.1 b.1.2.2.2.2.1 b.2.1.1 b.2.1.2.1 b.2.2.1.1 b.2.2.1.2.1 b.2.2.1.2.2.1 b.2.2.1.2.2.2.1 b.2.2.1.2.2.2.2.1⟩,
  ⟨245, [true, false, true, false, true, true, true], { slots := [0, 1, 4, 5, 6, 7, 8], rows := [], flat := [], keep := 0 }, (ByteArray × (Int × (Unit × (Unit × (Int × (Int × (Unit × Unit))))))), ((Int × (Int × (ByteArray × (Int × (Int × Unit))))) × ((Int × (Int × Unit)) × ((Int × (Int × (ByteArray × (Int × (Int × Unit))))) × Unit))), (RdL.cons Rd.str (RdL.cons (Rd.int .i64) (RdL.cons (Rd.bp 0 0) (RdL.cons (Rd.bp 1 0) (RdL.cons (Rd.int .u8) (RdL.cons (Rd.int .i64) (RdL.cons (Rd.bp 2 0) RdL.nil))))))), (RdBL.cons (RdB.var 33 (RdL.cons (Rd.int .i64) (RdL.cons (Rd.int .i64) (RdL.cons Rd.str (RdL.cons (Rd.int .i64) (RdL.cons (Rd.int .i64) RdL.nil)))))) (RdBL.cons (RdB.var 28 (RdL.cons (Rd.int .i64) (RdL.cons (Rd.int .i64) RdL.nil))) (RdBL.cons (RdB.var 33 (RdL.cons (Rd.int .i64) (RdL.cons (Rd.int .i64) (RdL.cons Rd.str (RdL.cons (Rd.int .i64) (RdL.cons (Rd.int .i64) RdL.nil)))))) RdBL.nil))), fun a b => .p245 a.1 a.2.1 a.2.2.2.2.1 a.2.2.2.2.2.1 b.1.1 b.1.2.1 b.1.2.2.1 b.1.2.2.2.1 b.1.2.2.2.2.1 b.2.1.1 b.2.1.2.1 b.2.2.1.1 b.2.2.1.2.1 b.2.2.1.2.2.1 b.2.2.1.2.2.2.1 b.2.2.1.2.2.2.2.1⟩,
  ⟨2000, [false, false, false, false, true, false, true, true, true, true], { slots := [0, 1, 4, 5, 7, 8], rows := [], flat := [], keep := 0 }, (ByteArray × (Int × (Unit × (Unit × (Int × (Unit × Unit)))))), ((Int × (Int × (ByteArray × (Int × (Int × Unit))))) × ((Int × (Int × Unit)) × ((Int × (Int × (ByteArray × (Int × (Int × Unit))))) × Unit))), (RdL.cons Rd.str (RdL.cons (Rd.int .i64) (RdL.cons (Rd.bp 0 0) (RdL.cons (Rd.bp 1 0) (RdL.cons (Rd.int .i64) (RdL.cons (Rd.bp 2 0) RdL.nil)))))), (RdBL.cons (RdB.var 33 (RdL.cons (Rd.int .i64) (RdL.cons (Rd.int .i64) (RdL.cons Rd.str (RdL.cons (Rd.int .i64) (RdL.cons (Rd.int .i64) RdL.nil)))))) (RdBL.cons (RdB.var 28 (RdL.cons (Rd.int .i64) (RdL.cons (Rd.int .i64) RdL.nil))) (RdBL.cons (RdB.var 33 (RdL.cons (Rd.int .i64) (RdL.cons (Rd.int .i64) (RdL.cons Rd.str (RdL.cons (Rd.int .i64) (RdL.cons (Rd.int .i64) RdL.nil)))))) RdBL.nil))), fun a b => .p2000 a.1 a.2.1 a.2.2.2.2.1 b.1.1 b.1.2.1 b.1.2.2.1 b.1.2.2.2.1 b.1.2.2.2.2.1 b.2.1.1 b.2.1.2.1 b.2.2.1.1 b.2.2.1.2.1 b.2.2.1.2.2.1 b.2.2.1.2.2.2.1 b.2.2.1.2.2.2.2.1⟩,
  ⟨501, [true, false, true, false, true, true, true, true], { slots := [0, 1, 4, 5, 7, 8], rows := [], flat := [], keep := 0 }, (ByteArray × (Int × (Unit × (Unit × (Int × (Unit × Unit)))))), ((Int × (Int × (ByteArray × (Int × (Int × Unit))))) × ((Int × (Int × Unit)) × ((Int × (Int × (ByteArray × (Int × (Int × Unit))))) × Unit))), (RdL.cons Rd.str (RdL.cons (Rd.int .i64) (RdL.cons (Rd.bp 0 0) (RdL.cons (Rd.bp 1 0) (RdL.cons (Rd.int .i64) (RdL.cons (Rd.bp 2 0) RdL.nil)))))), (RdBL.cons (RdB.var 33 (RdL.cons (Rd.int .i64) (RdL.cons (Rd.int .i64) (RdL.cons Rd.str (RdL.cons (Rd.int .i64) (RdL.cons (Rd.int .i64) RdL.nil)))))) (RdBL.cons (RdB.var 28 (RdL.cons (Rd.int .i64) (RdL.cons (Rd.int .i64) RdL.nil))) (RdBL.cons (RdB.var 33 (RdL.cons (Rd.int .i64) (RdL.cons (Rd.int .i64) (RdL.cons Rd.str (RdL.cons (Rd.int .i64) (RdL.cons (Rd.int .i64) RdL.nil)))))) RdBL.nil))), fun a b => .p501 a.1 a.2.1 a.2.2.2.2.1 b.1.1 b.1.2.1 b.1.2.2.1 b.1.2.2.2.1 b.1.2.2.2.2.1 b.2.1.1 b.2.1.2.1 b.2.2.1.1 b.2.2.1.2.1 b.2.2.1.2.2.1 b.2.2.1.2.2.2.1 b.2.2.1.2.2.2.2.1⟩,
  ⟨2036, [false, false, true, false, true, true, true, true, true, true], { slots := [0, 1, 4, 5, 6, 8, 13, 14], rows := [], flat := [], keep := 0 }, (ByteArray × (Int × (Unit × (Unit × (Int × (Unit × ((List ByteArray) × (Int × Unit)))))))), ((Int × (Int × (ByteArray × (Int × (Int × Unit))))) × ((Int × (Int × Unit)) × ((Int × (Int × (ByteArray × (Int × (Int × Unit))))) × Unit))), (RdL.cons Rd.str (RdL.cons (Rd.int .i64) (RdL.cons (Rd.bp 0 0) (RdL.cons (Rd.bp 1 0) (RdL.cons (Rd.int .u8) (RdL.cons (Rd.bp 2 0) (RdL.cons (Rd.sl 9 true) (RdL.cons (Rd.int .i64) RdL.nil)))))))), (RdBL.cons (RdB.var 33 (RdL.cons (Rd.int .i64) (RdL.cons (Rd.int .i64) (RdL.cons Rd.str (RdL.cons (Rd.int .i64) (RdL.cons (Rd.int .i64) RdL.nil)))))) (RdBL.cons (RdB.var 28 (RdL.cons (Rd.int .i64) (RdL.cons (Rd.int .i64) RdL.nil))) (RdBL.cons (RdB.var 33 (RdL.cons (Rd.int .i64) (RdL.cons (Rd.int .i64) (RdL.cons Rd.str (RdL.cons (Rd.int .i64) (RdL.cons (Rd.int .i64) RdL.nil)))))) RdBL.nil))), fun a b => .p2036 a.1 a.2.1 a.2.2.2.2.1 a.2.2.2.2.2.2.1 a.2.2.2.2.2.2.2.1 b.1.1 b.1.2.1 b.1.2.2.1 b.1.2.2.2.1 b.1.2.2.2.2.1 b.2.1.1 b.2.1.2.1 b.2.2.1.1 b.2.2.1.2.1 b.2.2.1.2.2.1 b.2.2.1.2.2.2.1 b.2.2.1.2.2.2.2.1⟩,
  ⟨32585, [true, false, false, true, false, false, true, false, true, true, true, true, true, true], { slots := [0, 1, 4, 5, 6, 8, 13, 14, 164], rows := [], flat := [], keep := 0 }, (ByteArray × (Int × (Unit × (Unit × (Int × (Unit × ((List ByteArray) × (Int × (Bool × Unit))))))))), ((Int × (Int × (ByteArray × (Int × (Int × Unit))))) × ((Int × (Int × Unit)) × ((Int × (Int × (ByteArray × (Int × (Int × Unit))))) × Unit))), (RdL.cons Rd.str (RdL.cons (Rd.int .i64) (RdL.cons (Rd.bp 0 0) (RdL.cons (Rd.bp 1 0) (RdL.cons (Rd.int .u8) (RdL.cons (Rd.bp 2 0) (RdL.cons (Rd.sl 9 true) (RdL.cons (Rd.int .i64) (RdL.cons Rd.bool RdL.nil))))))))), (RdBL.cons (RdB.var 33 (RdL.cons (Rd.int .i64) (RdL.cons (Rd.int .i64) (RdL.cons Rd.str (RdL.cons (Rd.int .i64) (RdL.cons (Rd.int .i64) RdL.nil)))))) (RdBL.cons (RdB.var 28 (RdL.cons (Rd.int .i64) (RdL.cons (Rd.int .i64) RdL.nil))) (RdBL.cons (RdB.var 33 (RdL.cons (Rd.int .i64) (RdL.cons (Rd.int .i64) (RdL.cons Rd.str (RdL.cons (Rd.int .i64) (RdL.cons (Rd.int .i64) RdL.nil)))))) RdBL.nil))), fun a b => .p32585 a.1 a.2.1 a.2.2.2.2.1 a.2.2.2.2.2.2.1 a.2.2.2.2.2.2.2.1 a.2.2.2.2.2.2.2.2.1 b.1.1 b.1.2.1 b.1.2.2.1 b.1.2.2.2.1 b.1.2.2.2.2.1 b.2.1.1 b.2.1.2.1 b.2.2.1.1 b.2.2.1.2.1 b.2.2.1.2.2.1 b.2.2.1.2.2.2.1 b.2.2.1.2.2.2.2.1⟩]
theorem tab_ratchetref05_token_ok : All (PlcOk 183 0 place_ratchetref05_token st_ratchetref05_token) tab_ratchetref05_token := ⟨⟨rfl, rfl, fun _ _ => rfl, fun _ _ => rfl⟩, ⟨⟨rfl, rfl, fun _ _ => rfl, fun _ _ => rfl⟩, ⟨⟨rfl, rfl, fun _ _ => rfl, fun _ _ => rfl⟩, ⟨⟨rfl, rfl, fun _ _ => rfl, fun _ _ => rfl⟩, ⟨⟨rfl, rfl, fun _ _ => rfl, fun _ _ => rfl⟩, ⟨⟨rfl, rfl, fun _ _ => rfl, fun _ _ => rfl⟩, trivial⟩⟩⟩⟩⟩⟩
noncomputable def code_ratchetref05_token : Code := Tryz.f31.body.getD .skip
noncomputable def spec_ratchetref05_token : Spec E.S := (Con.add con_ratchetref05_IsPermitted (Con.add con_ratchetref05_has (Con.add con_ratchetref05_Literal (Con.add con_ratchetref05_number (Con.add con_ratchetref05_IsCapital (Con.add con_ratchetbase_HasText (Con.add con_ratchetref05_Keywords (Con.add con_ratchetref05_Operators (Con.add con_ratchetref05_IsDigit (Con.add con_ratchetref05_IsLetter noSpec))))))))))
theorem spec_ratchetref05_token_ok : SpecOk E spec_ratchetref05_token := (Con.add_ok con_ratchetref05_IsPermitted_ok (Con.add_ok con_ratchetref05_has_ok (Con.add_ok con_ratchetref05_Literal_ok (Con.add_ok con_ratchetref05_number_ok (Con.add_ok con_ratchetref05_IsCapital_ok (Con.add_ok con_ratchetbase_HasText_ok (Con.add_ok con_ratchetref05_Keywords_ok (Con.add_ok con_ratchetref05_Operators_ok (Con.add_ok con_ratchetref05_IsDigit_ok (Con.add_ok con_ratchetref05_IsLetter_ok noSpec_ok))))))))))
theorem good_ratchetref05_token : ∀ pt r, run_ratchetref05_token pt = some r → Good E Tryz.f31 code_ratchetref05_token 0 (res_ratchetref05_token.av r) (res_ratchetref05_token.bx r) (place_ratchetref05_token pt) (st_ratchetref05_token pt) := by
  refine run_ratchetref05_token.partial_correctness (fun pt r => Good E Tryz.f31 code_ratchetref05_token 0 (res_ratchetref05_token.av r) (res_ratchetref05_token.bx r) (place_ratchetref05_token pt) (st_ratchetref05_token pt)) ?_
  intro run' ih pt r hr
  cases pt <;> exact fn_step (spec := spec_ratchetref05_token) (wr := (fun i => mem i [])) (l := tab_ratchetref05_token) (z := 183) (p := res_ratchetref05_token) E_ok tab_ratchetref05_token_ok.mem rfl spec_ratchetref05_token_ok ih (Eq.trans (by kernel_rfl) hr)
noncomputable def con_ratchetref05_token : Con E := ⟨31, (ByteArray × (Int × Unit)), Unit, (RwL.cons Rd.str.w (RwL.cons (Rd.int .i64).w RwL.nil)), RdBL.nil, 0, R_ratchetref05_token, fun a b => run_ratchetref05_token (.start a.1 a.2.1), res_ratchetref05_token.av, res_ratchetref05_token.bx⟩
theorem con_ratchetref05_token_ok : con_ratchetref05_token.Ok := fun a b r h => fn_ok (fn := Tryz.f31) (code := code_ratchetref05_token) E_ok (by kernel_rfl) (by kernel_rfl) (by kernel_rfl) (Nat.le_of_ble_eq_true rfl) (good_ratchetref05_token (.start a.1 a.2.1) r h)

/-! ### ratchet/ratchetref05.Tokens -/
inductive P_ratchetref05_Tokens where
 | start (text0 : ByteArray)
 | p504 (text0 : ByteArray) (at7 : Int) (B0_0 : Int) (B0_1 : Int) (B1 : (List api_LexerToken)) (B2_0 : Int) (B2_1 : Int)
noncomputable def place_ratchetref05_Tokens : P_ratchetref05_Tokens → List Bool
 | .start .. => []
 | .p504 .. => [false, false, false, true, true, true, true, true]
noncomputable def st_ratchetref05_Tokens : P_ratchetref05_Tokens → St E.S
 | .start text0 => st0 65 [.v (.string text0)] []
 | .p504 text0 at7 B0_0 B0_1 B1 B2_0 B2_1 => mkSt 65 [0, 3, 5, 6, 7] [.v (.string text0), .bp 0 0, .rw 1, .bp 2 0, .v (.int .i64 at7)] [.var 28 [.v (.int .i64 B0_0), .v (.int .i64 B0_1)], .row 33 B1 true, .var 28 [.v (.int .i64 B2_0), .v (.int .i64 B2_1)]]
abbrev R_ratchetref05_Tokens : Type := ((Unit × ((Int × (Int × Unit)) × Unit)) × ((List api_LexerToken) × Unit))
noncomputable def res_ratchetref05_Tokens : Res E (Unit × ((Int × (Int × Unit)) × Unit)) ((List api_LexerToken) × Unit) := { rows := [(0, 33)], flat := [], keep := 0, rl := (RdL.cons (Rd.rw 0) (RdL.cons (Rd.agg (RdL.cons (Rd.int .i64) (RdL.cons (Rd.int .i64) RdL.nil))) RdL.nil)), rb := (RdBL.cons (RdB.row 33 true) RdBL.nil) }
noncomputable def run_ratchetref05_Tokens : P_ratchetref05_Tokens → Option R_ratchetref05_Tokens
 | .start text0 =>
   (run_ratchetref05_TextErr (.start text0)) >>= fun t1 =>
   if (t1.1.1 != (0 : Int)) = true then
     some (((), (((0 : Int), (t1.1.1, ())), ())), ([], ()))
   else
     run_ratchetref05_Tokens (.p504 text0 (0 : Int) (0 : Int) (0 : Int) ([]) (0 : Int) (0 : Int))
 | .p504 text0 at7 B0_0 B0_1 B1 B2_0 B2_1 =>
   (run_ratchetref05_Skipped (.start text0 at7)) >>= fun t1 =>
   if (t1.1.2.1.2.1 != (0 : Int)) = true then
     some (((), ((t1.1.2.1.1, (t1.1.2.1.2.1, ())), ())), ([], ()))
   else
     if (t1.1.1 == (text0.size : Int)) = true then
       if (B2_1 != (0 : Int)) = true then
         some (((), ((B2_0, (B2_1, ())), ())), ([], ()))
       else
         some (((), (((0 : Int), ((0 : Int), ())), ())), (B1, ()))
     else
       (run_ratchetref05_token (.start text0 t1.1.1)) >>= fun t2 =>
       if (t2.1.2.1.2.1 != (0 : Int)) = true then
         some (((), ((t2.1.2.1.1, (t2.1.2.1.2.1, ())), ())), ([], ()))
       else
         if (decide ((List.length B1 : Int) < (4000 : Int))) = true then
           if (fits (List.length B1) (List.length ([(⟨t2.1.1.1, t2.1.1.2.1, t2.1.1.2.2.1, t2.1.1.2.2.2.1, t2.1.1.2.2.2.2.1⟩ : api_LexerToken)] : List api_LexerToken)) 48) = true then
             run_ratchetref05_Tokens (.p504 text0 (IntKind.wrap .i64 (t1.1.1 + (t2.1.1.2.2.1.size : Int))) B0_0 B0_1 (B1 ++ ([(⟨t2.1.1.1, t2.1.1.2.1, t2.1.1.2.2.1, t2.1.1.2.2.2.1, t2.1.1.2.2.2.2.1⟩ : api_LexerToken)] : List api_LexerToken)) B2_0 B2_1)
           else none
         else
           if (B2_1 == (0 : Int)) = true then
             run_ratchetref05_Tokens (.p504 text0 (IntKind.wrap .i64 (t1.1.1 + (t2.1.1.2.2.1.size : Int))) B0_0 B0_1 B1 t1.1.1 (8 : Int))
           else
             run_ratchetref05_Tokens (.p504 text0 (IntKind.wrap .i64 (t1.1.1 + (t2.1.1.2.2.1.size : Int))) B0_0 B0_1 B1 B2_0 B2_1)
  partial_fixpoint
noncomputable def tab_ratchetref05_Tokens : List (Plc E P_ratchetref05_Tokens) := [⟨504, [false, false, false, true, true, true, true, true], { slots := [0, 3, 5, 6, 7], rows := [(5, 33)], flat := [], keep := 0 }, (ByteArray × (Unit × (Unit × (Unit × (Int × Unit))))), ((Int × (Int × Unit)) × ((List api_LexerToken) × ((Int × (Int × Unit)) × Unit))), (RdL.cons Rd.str (RdL.cons (Rd.bp 0 0) (RdL.cons (Rd.rw 1) (RdL.cons (Rd.bp 2 0) (RdL.cons (Rd.int .i64) RdL.nil))))), (RdBL.cons (RdB.var 28 (RdL.cons (Rd.int .i64) (RdL.cons (Rd.int .i64) RdL.nil))) (RdBL.cons (RdB.row 33 true) (RdBL.cons (RdB.var 28 (RdL.cons (Rd.int .i64) (RdL.cons (Rd.int .i64) RdL.nil))) RdBL.nil))), fun a b => .p504 a.1 a.2.2.2.2.1 b.1.1 b.1.2.1 b.2.1 b.2.2.1.1 b.2.2.1.2.1⟩]
theorem tab_ratchetref05_Tokens_ok : All (PlcOk 65 0 place_ratchetref05_Tokens st_ratchetref05_Tokens) tab_ratchetref05_Tokens := ⟨⟨rfl, rfl, fun _ _ => rfl, fun _ _ => rfl⟩, trivial⟩
noncomputable def code_ratchetref05_Tokens : Code := Tryz.f9.body.getD .skip
noncomputable def spec_ratchetref05_Tokens : Spec E.S := (Con.add con_ratchetref05_token (Con.add con_ratchetref05_Skipped (Con.add con_ratchetref05_TextErr noSpec)))
theorem spec_ratchetref05_Tokens_ok : SpecOk E spec_ratchetref05_Tokens := (Con.add_ok con_ratchetref05_token_ok (Con.add_ok con_ratchetref05_Skipped_ok (Con.add_ok con_ratchetref05_TextErr_ok noSpec_ok)))
theorem good_ratchetref05_Tokens : ∀ pt r, run_ratchetref05_Tokens pt = some r → Good E Tryz.f9 code_ratchetref05_Tokens 0 (res_ratchetref05_Tokens.av r) (res_ratchetref05_Tokens.bx r) (place_ratchetref05_Tokens pt) (st_ratchetref05_Tokens pt) := by
  refine run_ratchetref05_Tokens.partial_correctness (fun pt r => Good E Tryz.f9 code_ratchetref05_Tokens 0 (res_ratchetref05_Tokens.av r) (res_ratchetref05_Tokens.bx r) (place_ratchetref05_Tokens pt) (st_ratchetref05_Tokens pt)) ?_
  intro run' ih pt r hr
  cases pt <;> exact fn_step (spec := spec_ratchetref05_Tokens) (wr := (fun i => mem i [])) (l := tab_ratchetref05_Tokens) (z := 65) (p := res_ratchetref05_Tokens) E_ok tab_ratchetref05_Tokens_ok.mem rfl spec_ratchetref05_Tokens_ok ih (Eq.trans (by kernel_rfl) hr)
noncomputable def con_ratchetref05_Tokens : Con E := ⟨9, (ByteArray × Unit), Unit, (RwL.cons Rd.str.w RwL.nil), RdBL.nil, 0, R_ratchetref05_Tokens, fun a b => run_ratchetref05_Tokens (.start a.1), res_ratchetref05_Tokens.av, res_ratchetref05_Tokens.bx⟩
theorem con_ratchetref05_Tokens_ok : con_ratchetref05_Tokens.Ok := fun a b r h => fn_ok (fn := Tryz.f9) (code := code_ratchetref05_Tokens) E_ok (by kernel_rfl) (by kernel_rfl) (by kernel_rfl) (Nat.le_of_ble_eq_true rfl) (good_ratchetref05_Tokens (.start a.1) r h)

/-! ### ratchet/ratchetref05.SameTokens -/
inductive P_ratchetref05_SameTokens where
 | start (a0 : (List api_LexerToken)) (b1 : (List api_LexerToken))
 | p116 (a0 : (List api_LexerToken)) (b1 : (List api_LexerToken)) (i5 : Int)
noncomputable def place_ratchetref05_SameTokens : P_ratchetref05_SameTokens → List Bool
 | .start .. => []
 | .p116 .. => [false, false, true, false, true, true]
noncomputable def st_ratchetref05_SameTokens : P_ratchetref05_SameTokens → St E.S
 | .start a0 b1 => st0 26 [.sl 33 a0 false, .sl 33 b1 false] []
 | .p116 a0 b1 i5 => mkSt 26 [0, 1, 5] [.sl 33 a0 false, .sl 33 b1 false, .v (.int .i64 i5)] []
abbrev R_ratchetref05_SameTokens : Type := ((Bool × Unit) × Unit)
noncomputable def res_ratchetref05_SameTokens : Res E (Bool × Unit) Unit := { rows := [], flat := [], keep := 0, rl := (RdL.cons Rd.bool RdL.nil), rb := RdBL.nil }
noncomputable def run_ratchetref05_SameTokens : P_ratchetref05_SameTokens → Option R_ratchetref05_SameTokens
 | .start a0 b1 =>
   if ((List.length a0 : Int) != (List.length b1 : Int)) = true then
     some ((false, ()), ())
   else
     run_ratchetref05_SameTokens (.p116 a0 b1 (0 : Int))
 | .p116 a0 b1 i5 =>
   if (decide (i5 < (List.length a0 : Int))) = true then
     (idx a0 i5) >>= fun t1 =>
     (idx b1 i5) >>= fun t2 =>
     if (!((t1.Kind == t2.Kind) && ((t1.At == t2.At) && ((seq t1.Text t2.Text) && ((t1.Value == t2.Value) && ((t1.Width == t2.Width) && true)))))) = true then
       some ((false, ()), ())
     else
       run_ratchetref05_SameTokens (.p116 a0 b1 (IntKind.wrap .i64 (i5 + (1 : Int))))
   else
     some ((true, ()), ())
  partial_fixpoint
noncomputable def tab_ratchetref05_SameTokens : List (Plc E P_ratchetref05_SameTokens) := [⟨116, [false, false, true, false, true, true], { slots := [0, 1, 5], rows := [], flat := [], keep := 0 }, ((List api_LexerToken) × ((List api_LexerToken) × (Int × Unit))), Unit, (RdL.cons (Rd.sl 33 false) (RdL.cons (Rd.sl 33 false) (RdL.cons (Rd.int .i64) RdL.nil))), RdBL.nil, fun a b => .p116 a.1 a.2.1 a.2.2.1⟩]
theorem tab_ratchetref05_SameTokens_ok : All (PlcOk 26 0 place_ratchetref05_SameTokens st_ratchetref05_SameTokens) tab_ratchetref05_SameTokens := ⟨⟨rfl, rfl, fun _ _ => rfl, fun _ _ => rfl⟩, trivial⟩
noncomputable def code_ratchetref05_SameTokens : Code := Tryz.f10.body.getD .skip
noncomputable def spec_ratchetref05_SameTokens : Spec E.S := noSpec
theorem spec_ratchetref05_SameTokens_ok : SpecOk E spec_ratchetref05_SameTokens := noSpec_ok
theorem good_ratchetref05_SameTokens : ∀ pt r, run_ratchetref05_SameTokens pt = some r → Good E Tryz.f10 code_ratchetref05_SameTokens 0 (res_ratchetref05_SameTokens.av r) (res_ratchetref05_SameTokens.bx r) (place_ratchetref05_SameTokens pt) (st_ratchetref05_SameTokens pt) := by
  refine run_ratchetref05_SameTokens.partial_correctness (fun pt r => Good E Tryz.f10 code_ratchetref05_SameTokens 0 (res_ratchetref05_SameTokens.av r) (res_ratchetref05_SameTokens.bx r) (place_ratchetref05_SameTokens pt) (st_ratchetref05_SameTokens pt)) ?_
  intro run' ih pt r hr
  cases pt <;> exact fn_step (spec := spec_ratchetref05_SameTokens) (wr := (fun i => mem i [])) (l := tab_ratchetref05_SameTokens) (z := 26) (p := res_ratchetref05_SameTokens) E_ok tab_ratchetref05_SameTokens_ok.mem rfl spec_ratchetref05_SameTokens_ok ih (Eq.trans (by kernel_rfl) hr)
noncomputable def con_ratchetref05_SameTokens : Con E := ⟨10, ((List api_LexerToken) × ((List api_LexerToken) × Unit)), Unit, (RwL.cons (Rw.sl 33) (RwL.cons (Rw.sl 33) RwL.nil)), RdBL.nil, 0, R_ratchetref05_SameTokens, fun a b => run_ratchetref05_SameTokens (.start a.1 a.2.1), res_ratchetref05_SameTokens.av, res_ratchetref05_SameTokens.bx⟩
theorem con_ratchetref05_SameTokens_ok : con_ratchetref05_SameTokens.Ok := fun a b r h => fn_ok (fn := Tryz.f10) (code := code_ratchetref05_SameTokens) E_ok (by kernel_rfl) (by kernel_rfl) (by kernel_rfl) (Nat.le_of_ble_eq_true rfl) (good_ratchetref05_SameTokens (.start a.1 a.2.1) r h)

end Go.Proofs.YtfmkleeneddijaaGreatDoor.Ev.F
