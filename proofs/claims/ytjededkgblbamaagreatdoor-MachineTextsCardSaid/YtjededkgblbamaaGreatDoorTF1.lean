/- PRINTED by wip/gen/evp.py: what the functions come to. -/
import Derived.Test.YtjededkgblbamaaGreatDoorTEvShelf
import Derived.Test.YtjededkgblbamaaGreatDoorTEvSplit
import Derived.Test.YtjededkgblbamaaGreatDoorTShelf
import Derived.Test.YtjededkgblbamaaGreatDoorTEvLib
import Derived.Test.YtjededkgblbamaaGreatDoorTEvRun
import Derived.Test.YtjededkgblbamaaGreatDoorProg
set_option linter.unusedVariables false
set_option maxRecDepth 100000
namespace Go.Proofs.YtjededkgblbamaaGreatDoor.Ev.F
open Go.Proofs Go.Proofs.YtjededkgblbamaaGreatDoor.Ev

/-- api.MachineCode -/
structure api_MachineCode where
  Op : Int
  A : Int
  B : Int
  N : Int
/-- machine.form -/
structure machine_form where
  name : ByteArray
  a : Bool
  b : Bool
  n : Bool
/-- machine.line -/
structure machine_line where
  code : api_MachineCode
  target : ByteArray
  label : ByteArray
  jumps : Bool
  labelled : Bool
/-- ratchetref31.line -/
structure ratchetref31_line where
  code : api_MachineCode
  own : ByteArray
  jump : ByteArray
/-- utf8.acceptRange -/
structure utf8_acceptRange where
  lo : Int
  hi : Int
noncomputable def S : Nat → Type
 | 3 => Int
 | 5 => Int
 | 9 => ByteArray
 | 28 => Int
 | 40 => api_MachineCode
 | 79 => (List ByteArray)
 | 157 => machine_line
 | 166 => machine_form
 | 172 => ratchetref31_line
 | 230 => Bool
 | 255 => Int
 | 278 => utf8_acceptRange
 | _ => Unit
noncomputable def pk (e : Nat) : Pk S (S e) :=
  if h : e = 3 then h ▸ ((Pk.int .i64) : Pk S Int) else
  if h : e = 5 then h ▸ ((Pk.int .u8) : Pk S Int) else
  if h : e = 9 then h ▸ (Pk.str : Pk S ByteArray) else
  if h : e = 28 then h ▸ ((Pk.int .i64) : Pk S Int) else
  if h : e = 40 then h ▸ ((Pk.iso (Pk.cons (Pk.int .i64) (Pk.cons (Pk.int .i64) (Pk.cons (Pk.int .i64) (Pk.cons (Pk.int .i64) Pk.unit)))) (fun a => (⟨a.1, a.2.1, a.2.2.1, a.2.2.2.1⟩ : api_MachineCode)) (fun x => (x.Op, x.A, x.B, x.N, ())) (fun _ => rfl)) : Pk S api_MachineCode) else
  if h : e = 79 then h ▸ ((Pk.sl 9) : Pk S (List ByteArray)) else
  if h : e = 157 then h ▸ ((Pk.iso (Pk.cons (Pk.iso (Pk.cons (Pk.int .i64) (Pk.cons (Pk.int .i64) (Pk.cons (Pk.int .i64) (Pk.cons (Pk.int .i64) Pk.unit)))) (fun a => (⟨a.1, a.2.1, a.2.2.1, a.2.2.2.1⟩ : api_MachineCode)) (fun x => (x.Op, x.A, x.B, x.N, ())) (fun _ => rfl)) (Pk.cons Pk.str (Pk.cons Pk.str (Pk.cons Pk.bool (Pk.cons Pk.bool Pk.unit))))) (fun a => (⟨a.1, a.2.1, a.2.2.1, a.2.2.2.1, a.2.2.2.2.1⟩ : machine_line)) (fun x => (x.code, x.target, x.label, x.jumps, x.labelled, ())) (fun _ => rfl)) : Pk S machine_line) else
  if h : e = 166 then h ▸ ((Pk.iso (Pk.cons Pk.str (Pk.cons Pk.bool (Pk.cons Pk.bool (Pk.cons Pk.bool Pk.unit)))) (fun a => (⟨a.1, a.2.1, a.2.2.1, a.2.2.2.1⟩ : machine_form)) (fun x => (x.name, x.a, x.b, x.n, ())) (fun _ => rfl)) : Pk S machine_form) else
  if h : e = 172 then h ▸ ((Pk.iso (Pk.cons (Pk.iso (Pk.cons (Pk.int .i64) (Pk.cons (Pk.int .i64) (Pk.cons (Pk.int .i64) (Pk.cons (Pk.int .i64) Pk.unit)))) (fun a => (⟨a.1, a.2.1, a.2.2.1, a.2.2.2.1⟩ : api_MachineCode)) (fun x => (x.Op, x.A, x.B, x.N, ())) (fun _ => rfl)) (Pk.cons Pk.str (Pk.cons Pk.str Pk.unit))) (fun a => (⟨a.1, a.2.1, a.2.2.1⟩ : ratchetref31_line)) (fun x => (x.code, x.own, x.jump, ())) (fun _ => rfl)) : Pk S ratchetref31_line) else
  if h : e = 230 then h ▸ (Pk.err : Pk S Bool) else
  if h : e = 255 then h ▸ ((Pk.int .u64) : Pk S Int) else
  if h : e = 278 then h ▸ ((Pk.iso (Pk.cons (Pk.int .u8) (Pk.cons (Pk.int .u8) Pk.unit)) (fun a => (⟨a.1, a.2.1⟩ : utf8_acceptRange)) (fun x => (x.lo, x.hi, ())) (fun _ => rfl)) : Pk S utf8_acceptRange) else
  Pk.no (Tryz.prog.cellsOf e)
theorem pk_len (e : Nat) : (pk e).len = Tryz.prog.cellsOf e := by
  unfold pk
  by_cases h : e = 3
  · subst h; kernel_rfl
  refine (congrArg Pk.len (dif_neg h)).trans ?_; clear h
  by_cases h : e = 5
  · subst h; kernel_rfl
  refine (congrArg Pk.len (dif_neg h)).trans ?_; clear h
  by_cases h : e = 9
  · subst h; kernel_rfl
  refine (congrArg Pk.len (dif_neg h)).trans ?_; clear h
  by_cases h : e = 28
  · subst h; kernel_rfl
  refine (congrArg Pk.len (dif_neg h)).trans ?_; clear h
  by_cases h : e = 40
  · subst h; kernel_rfl
  refine (congrArg Pk.len (dif_neg h)).trans ?_; clear h
  by_cases h : e = 79
  · subst h; kernel_rfl
  refine (congrArg Pk.len (dif_neg h)).trans ?_; clear h
  by_cases h : e = 157
  · subst h; kernel_rfl
  refine (congrArg Pk.len (dif_neg h)).trans ?_; clear h
  by_cases h : e = 166
  · subst h; kernel_rfl
  refine (congrArg Pk.len (dif_neg h)).trans ?_; clear h
  by_cases h : e = 172
  · subst h; kernel_rfl
  refine (congrArg Pk.len (dif_neg h)).trans ?_; clear h
  by_cases h : e = 230
  · subst h; kernel_rfl
  refine (congrArg Pk.len (dif_neg h)).trans ?_; clear h
  by_cases h : e = 255
  · subst h; kernel_rfl
  refine (congrArg Pk.len (dif_neg h)).trans ?_; clear h
  by_cases h : e = 278
  · subst h; kernel_rfl
  refine (congrArg Pk.len (dif_neg h)).trans ?_; clear h
  exact Pk.no_len _
noncomputable def plain : Nat → Bool := fun t => mem t [40, 157]
noncomputable def byt (e : Nat) (s : ByteArray) : Option (List (S e)) := if h : e = 5 then some (h ▸ (strBytes s : List Int)) else none
theorem byt_ok : ∀ e s l, byt e s = some l → Tryz.prog.underlying e = some (.int .u8) ∧ Tryz.prog.cellsOf e = 1 ∧ l.length = s.size ∧ ∀ i x, l[i]? = some x → (pk e).wt x = [.v (.int .u8 ((s.data.toList.getD i 0).toNat : Int))] := by
  intro e s l h
  unfold byt at h
  split at h
  · rename_i he; subst he; obtain rfl := Option.some.inj h
    exact ⟨by kernel_rfl, by kernel_rfl, (strBytes_ok s).1, fun i x hx => by rw [(strBytes_ok s).2 i x hx]; kernel_rfl⟩
  cases h
def glob1 : List Int := [1, 10, 100, 1000, 10000, 100000, 1000000, 10000000, 100000000, 1000000000, 10000000000, 100000000000, 1000000000000, 10000000000000, 100000000000000, 1000000000000000, 10000000000000000, 100000000000000000, 1000000000000000000, 10000000000000000000]
def glob5 : List Int := [0, 1, 28, 2, 29, 14, 24, 3, 30, 22, 20, 15, 25, 17, 4, 8, 31, 27, 13, 23, 21, 19, 16, 7, 26, 12, 18, 6, 11, 5, 10, 9]
def glob6 : List Int := [0, 1, 56, 2, 57, 49, 28, 3, 61, 58, 42, 50, 38, 29, 17, 4, 62, 47, 59, 36, 45, 43, 51, 22, 53, 39, 33, 30, 24, 18, 12, 5, 63, 55, 48, 27, 60, 41, 37, 16, 46, 35, 44, 21, 52, 32, 23, 11, 54, 26, 40, 15, 34, 20, 31, 10, 25, 14, 19, 9, 13, 8, 7, 6]
def glob0 : List machine_form := [⟨⟨#[104, 97, 108, 116]⟩, false, false, false⟩, ⟨⟨#[115, 101, 116]⟩, true, false, true⟩, ⟨⟨#[109, 111, 118, 101]⟩, true, true, false⟩, ⟨⟨#[97, 100, 100]⟩, true, true, false⟩, ⟨⟨#[115, 117, 98]⟩, true, true, false⟩, ⟨⟨#[97, 110, 100]⟩, true, true, false⟩, ⟨⟨#[108, 111, 97, 100]⟩, true, true, false⟩, ⟨⟨#[115, 116, 111, 114, 101]⟩, true, true, false⟩, ⟨⟨#[106, 117, 109, 112]⟩, false, false, true⟩, ⟨⟨#[122, 101, 114, 111]⟩, true, false, true⟩]
def glob4 : List utf8_acceptRange := [⟨128, 191⟩, ⟨160, 191⟩, ⟨128, 159⟩, ⟨144, 191⟩, ⟨128, 143⟩, ⟨0, 0⟩, ⟨0, 0⟩, ⟨0, 0⟩, ⟨0, 0⟩, ⟨0, 0⟩, ⟨0, 0⟩, ⟨0, 0⟩, ⟨0, 0⟩, ⟨0, 0⟩, ⟨0, 0⟩, ⟨0, 0⟩]
noncomputable def globs : Nat → Option (AV S)
 | 0 => some (.ar 166 glob0)
 | 4 => some (.ar 278 glob4)
 | 1 => some (.ar 255 glob1)
 | 5 => some (.ar 5 glob5)
 | 6 => some (.ar 5 glob6)
 | 7 => some (.el 230 true 0)
 | 8 => some (.el 230 true 0)
 | _ => none
theorem globs_ok : ∀ g x, globs g = some x → idsV x = [] := by
  intro g x h
  unfold globs at h
  split at h <;> first | (cases h; done) | (obtain rfl := Option.some.inj h; rfl)
noncomputable def nums : (e : Nat) → List (S e) → Option (List Int)
 | 5, l => some l
 | _, _ => none
theorem nums_ok : ∀ e l xs, nums e l = some xs → Tryz.prog.underlying e = some (.int .u8) ∧ xs.length = l.length ∧ ∀ (i : Nat) x n, l[i]? = some x → xs[i]? = some n → (pk e).wt x = [.v (.int .u8 n)] := by
  intro e l xs h
  unfold nums at h
  split at h
  · obtain rfl := Option.some.inj h
    exact ⟨by kernel_rfl, rfl, fun i x n hx hn => by obtain rfl : x = n := Option.some.inj (hx.symm.trans hn); kernel_rfl⟩
  · cases h
noncomputable def held : Nat → Option (String × Array Value)
 | 1 => some ("internal/strconv.uint64pow10", (Go.Lib.pow10Tab.map fun z => Value.int .u64 z).toArray)
 | _ => none
noncomputable def ro : Nat → Bool := fun f => mem f [149]
noncomputable abbrev E : Env := mkEnv Tryz.prog S pk globs plain byt nums held ro
theorem E_ok : E.Ok := mkEnv_ok pk_len (by kernel_rfl) globs_ok (fun t h => mem_cases (Q := fun t => Tryz.prog.stoodInHeld t = false ∧ Tryz.prog.eqGuardType Tryz.prog.depth t = false) h ⟨⟨by kernel_rfl, by kernel_rfl⟩, ⟨⟨by kernel_rfl, by kernel_rfl⟩, trivial⟩⟩) byt_ok nums_ok
noncomputable def con_strconv_Itoa : Con E := conItoa E 84
theorem con_strconv_Itoa_ok : con_strconv_Itoa.Ok := conItoa_ok (fn := Tryz.f84) (by kernel_rfl) (by kernel_rfl) (by kernel_rfl) (g := 1) rfl (fun n w h0 h1 ht => Tryz.strconv_Itoa n h0 h1 w ht)
noncomputable def con_strings_Split : Con E := conSplit E 95 9 splitRun
theorem con_strings_Split_ok : con_strings_Split.Ok := conSplit_ok (ρ := Tryz.lays146_ren) Tryz.lays146 rfl (by kernel_rfl) (fn := Tryz.f95) (by kernel_rfl) (by kernel_rfl) (by kernel_rfl) (fun s => s) (fun _ => rfl) (by kernel_rfl) (fun p u r h => ⟨r.1.1, h, congrArg (fun l => ((l, ()), ())) (List.map_id' r.1.1).symm⟩)
noncomputable def con_strings_Join : Con E := conJoin E 102 9 joinRun
theorem con_strings_Join_ok : con_strings_Join.Ok := conJoin_ok (fn := Tryz.f102) (by kernel_rfl) (by kernel_rfl) (by kernel_rfl) (fun x => x) (fun _ => rfl) (by kernel_rfl) (fun p u => congrArg (fun l => joinRun (l, p.2) u) (List.map_id' p.1).symm) (fun a c sep w => Tryz.strings_Join_none a c sep w) (fun bk o c xs sep w => Tryz.strings_Join bk o c xs sep w)
noncomputable def con_internal_stringslite_Index : Con E := conOne E 197 Go.Lib.indexByte
theorem con_internal_stringslite_Index_ok : con_internal_stringslite_Index.Ok := conOne_ok (fn := Tryz.f197) (by kernel_rfl) (by kernel_rfl) (by kernel_rfl) Tryz.stringslite_Index_one
noncomputable def con_strconv_Atoi : Con E := conAtoi E 200
theorem con_strconv_Atoi_ok : con_strconv_Atoi.Ok := conAtoi_ok (ρ := Tryz.laysC172_ren) Tryz.laysC172 rfl rfl rfl (g15 := 7) (g16 := 8) (fn := Tryz.f200) (by kernel_rfl) (by kernel_rfl) (by kernel_rfl) (e := 230) (x15 := (true : Bool)) (x16 := (true : Bool)) rfl rfl (by kernel_rfl) (by kernel_rfl)
noncomputable def con_internal_bytealg_IndexByteString : Con E := conIndexByteString E 219
theorem con_internal_bytealg_IndexByteString_ok : con_internal_bytealg_IndexByteString.Ok := conIndexByteString_ok 219 (fn := Tryz.f219) (by kernel_rfl) (by kernel_rfl) (by kernel_rfl) (by kernel_rfl) (by kernel_rfl)
noncomputable def base : Spec E.S := (Con.add con_internal_bytealg_IndexByteString (Con.add con_strconv_Atoi (Con.add con_internal_stringslite_Index (Con.add con_strings_Join (Con.add con_strings_Split (Con.add con_strconv_Itoa noSpec))))))
theorem base_ok : SpecOk E base := (Con.add_ok con_internal_bytealg_IndexByteString_ok (Con.add_ok con_strconv_Atoi_ok (Con.add_ok con_internal_stringslite_Index_ok (Con.add_ok con_strings_Join_ok (Con.add_ok con_strings_Split_ok (Con.add_ok con_strconv_Itoa_ok noSpec_ok))))))
noncomputable def con_ratchetlaw31_awake : Con E := conConst E 11 (.v (.bool true))
noncomputable def wrs_ratchetlaw31_awake : Nat → Wr
 | 11 => mkWr [] [(6, [12]), (14, [18, 19])]
 | 13 => mkWr [6, 10, 22, 25, 31, 32, 33, 36, 40] [(12, [13, 15, 17]), (14, [1, 24]), (15666, [0, 10, 30, 31])]
 | 35 => mkWr [] [(28, [18, 19, 20])]
 | 49 => mkWr [2, 10, 58, 62, 64] [(14, [18]), (523571, [60])]
 | 64 => mkWr [0, 7] [(6, [1, 2, 3, 4, 5, 6])]
 | 69 => mkWr [2, 3, 5, 6] [(6, [0, 4])]
 | 70 => mkWr [1, 3, 4, 7, 9, 10, 11, 12, 13, 14, 15, 16, 17, 18, 21, 22, 28, 32, 36, 37, 40, 41, 42, 45, 47, 48, 51, 56, 58, 61, 64, 67, 69, 72, 73, 74, 79, 82, 83, 84, 89, 92, 93, 97, 100, 101, 102, 104, 107, 108, 109, 111, 118, 119, 125, 126] [(6, [3, 10, 11, 13, 14]), (65454, [63]), (261822, [68]), (1047294, [78]), (4189182, [88]), (16756734, [96]), (67026942, [103]), (268107774, [110])]
 | 72 => mkWr [] [(3378, [17, 18])]
 | 73 => mkWr [] [(62, [58, 61])]
 | 95 => mkWr [4, 7] [(6, [5, 6])]
 | 96 => mkWr [] [(3378, [17, 18])]
 | 120 => mkWr [] [(14, [12, 15])]
 | 121 => mkWr [2, 5, 7] []
 | 124 => mkWr [] [(3378, [17, 18])]
 | 146 => mkWr [8, 9, 18, 31, 42, 49, 58, 61, 62, 65] [(116, [16, 17]), (2046, [60]), (130838, [48])]
 | 177 => mkWr [4, 6, 21, 33, 38, 44, 48, 49] [(506, [47]), (16018, [37])]
 | 187 => mkWr [] [(3378, [15])]
 | _ => mkWr [] []
theorem con_ratchetlaw31_awake_ok : con_ratchetlaw31_awake.Ok := conConst_ok E_ok base_ok wrs_ratchetlaw31_awake 400 60 (ys := [.v (.bool true)]) rfl (by kernel_rfl)

/-! ### internal/stringslite.HasSuffix -/
inductive P_internal_stringslite_HasSuffix where
 | start (s0 : ByteArray) (suffix1 : ByteArray)
noncomputable def place_internal_stringslite_HasSuffix : P_internal_stringslite_HasSuffix → List Bool
 | .start .. => []
noncomputable def st_internal_stringslite_HasSuffix : P_internal_stringslite_HasSuffix → St E.S
 | .start s0 suffix1 => st0 21 [.v (.string s0), .v (.string suffix1)] []
abbrev R_internal_stringslite_HasSuffix : Type := ((Bool × Unit) × Unit)
noncomputable def res_internal_stringslite_HasSuffix : Res E (Bool × Unit) Unit := { rows := [], flat := [], keep := 0, done := [0], rl := (RdL.cons Rd.bool RdL.nil), rb := RdBL.nil }
noncomputable def run_internal_stringslite_HasSuffix : P_internal_stringslite_HasSuffix → Option R_internal_stringslite_HasSuffix
 | .start s0 suffix1 =>
   if (decide ((s0.size : Int) ≥ (suffix1.size : Int))) = true then
     (span s0.size (IntKind.wrap .i64 ((s0.size : Int) - (suffix1.size : Int))) (s0.size : Int)) >>= fun t1 =>
     some ((seq (s0.extract t1.1 t1.2) suffix1, ()), ())
   else
     some ((false, ()), ())
noncomputable def tab_internal_stringslite_HasSuffix : List (Plc E P_internal_stringslite_HasSuffix) := []
theorem tab_internal_stringslite_HasSuffix_ok : All (PlcOk 21 0 place_internal_stringslite_HasSuffix st_internal_stringslite_HasSuffix) tab_internal_stringslite_HasSuffix := trivial
noncomputable def code_internal_stringslite_HasSuffix : Code := Tryz.f198.body.getD .skip
noncomputable def spec_internal_stringslite_HasSuffix : Spec E.S := noSpec
theorem spec_internal_stringslite_HasSuffix_ok : SpecOk E spec_internal_stringslite_HasSuffix := noSpec_ok
theorem good_internal_stringslite_HasSuffix : ∀ pt r, run_internal_stringslite_HasSuffix pt = some r → Good E Tryz.f198 code_internal_stringslite_HasSuffix 0 (res_internal_stringslite_HasSuffix.av r) (res_internal_stringslite_HasSuffix.bx r) (place_internal_stringslite_HasSuffix pt) (st_internal_stringslite_HasSuffix pt) := by
  intro pt r hr
  cases pt <;> exact fn_step (spec := spec_internal_stringslite_HasSuffix) (wr := (mkWr [] [])) (l := tab_internal_stringslite_HasSuffix) (z := 21) (p := res_internal_stringslite_HasSuffix) (run' := fun _ => none) E_ok tab_internal_stringslite_HasSuffix_ok.mem rfl spec_internal_stringslite_HasSuffix_ok (fun _ _ h => by cases h) (Eq.trans (by kernel_rfl) hr)
noncomputable def con_internal_stringslite_HasSuffix : Con E := ⟨198, (ByteArray × (ByteArray × Unit)), Unit, (RwL.cons Rd.str.w (RwL.cons Rd.str.w RwL.nil)), RdBL.nil, 0, R_internal_stringslite_HasSuffix, fun a b => run_internal_stringslite_HasSuffix (.start a.1 a.2.1), res_internal_stringslite_HasSuffix.av, res_internal_stringslite_HasSuffix.bx⟩
theorem con_internal_stringslite_HasSuffix_ok : con_internal_stringslite_HasSuffix.Ok := fun a b r h => fn_ok (fn := Tryz.f198) (code := code_internal_stringslite_HasSuffix) E_ok (by kernel_rfl) (by kernel_rfl) (by kernel_rfl) (Nat.le_of_ble_eq_true rfl) (good_internal_stringslite_HasSuffix (.start a.1 a.2.1) r h)

/-! ### internal/stringslite.CutSuffix -/
inductive P_internal_stringslite_CutSuffix where
 | start (s0 : ByteArray) (suffix1 : ByteArray)
noncomputable def place_internal_stringslite_CutSuffix : P_internal_stringslite_CutSuffix → List Bool
 | .start .. => []
noncomputable def st_internal_stringslite_CutSuffix : P_internal_stringslite_CutSuffix → St E.S
 | .start s0 suffix1 => st0 18 [.v (.string s0), .v (.string suffix1)] []
abbrev R_internal_stringslite_CutSuffix : Type := ((ByteArray × (Bool × Unit)) × Unit)
noncomputable def res_internal_stringslite_CutSuffix : Res E (ByteArray × (Bool × Unit)) Unit := { rows := [], flat := [], keep := 0, done := [0, 1], rl := (RdL.cons Rd.str (RdL.cons Rd.bool RdL.nil)), rb := RdBL.nil }
noncomputable def run_internal_stringslite_CutSuffix : P_internal_stringslite_CutSuffix → Option R_internal_stringslite_CutSuffix
 | .start s0 suffix1 =>
   (run_internal_stringslite_HasSuffix (.start s0 suffix1)) >>= fun t1 =>
   if (!t1.1.1) = true then
     some ((s0, (false, ())), ())
   else
     (span s0.size (0 : Int) (IntKind.wrap .i64 ((s0.size : Int) - (suffix1.size : Int)))) >>= fun t2 =>
     some ((s0.extract t2.1 t2.2, (true, ())), ())
noncomputable def tab_internal_stringslite_CutSuffix : List (Plc E P_internal_stringslite_CutSuffix) := []
theorem tab_internal_stringslite_CutSuffix_ok : All (PlcOk 18 0 place_internal_stringslite_CutSuffix st_internal_stringslite_CutSuffix) tab_internal_stringslite_CutSuffix := trivial
noncomputable def code_internal_stringslite_CutSuffix : Code := Tryz.f180.body.getD .skip
noncomputable def spec_internal_stringslite_CutSuffix : Spec E.S := (Con.add con_internal_stringslite_HasSuffix noSpec)
theorem spec_internal_stringslite_CutSuffix_ok : SpecOk E spec_internal_stringslite_CutSuffix := (Con.add_ok con_internal_stringslite_HasSuffix_ok noSpec_ok)
theorem good_internal_stringslite_CutSuffix : ∀ pt r, run_internal_stringslite_CutSuffix pt = some r → Good E Tryz.f180 code_internal_stringslite_CutSuffix 0 (res_internal_stringslite_CutSuffix.av r) (res_internal_stringslite_CutSuffix.bx r) (place_internal_stringslite_CutSuffix pt) (st_internal_stringslite_CutSuffix pt) := by
  intro pt r hr
  cases pt <;> exact fn_step (spec := spec_internal_stringslite_CutSuffix) (wr := (mkWr [] [])) (l := tab_internal_stringslite_CutSuffix) (z := 18) (p := res_internal_stringslite_CutSuffix) (run' := fun _ => none) E_ok tab_internal_stringslite_CutSuffix_ok.mem rfl spec_internal_stringslite_CutSuffix_ok (fun _ _ h => by cases h) (Eq.trans (by kernel_rfl) hr)
noncomputable def con_internal_stringslite_CutSuffix : Con E := ⟨180, (ByteArray × (ByteArray × Unit)), Unit, (RwL.cons Rd.str.w (RwL.cons Rd.str.w RwL.nil)), RdBL.nil, 0, R_internal_stringslite_CutSuffix, fun a b => run_internal_stringslite_CutSuffix (.start a.1 a.2.1), res_internal_stringslite_CutSuffix.av, res_internal_stringslite_CutSuffix.bx⟩
theorem con_internal_stringslite_CutSuffix_ok : con_internal_stringslite_CutSuffix.Ok := fun a b r h => fn_ok (fn := Tryz.f180) (code := code_internal_stringslite_CutSuffix) E_ok (by kernel_rfl) (by kernel_rfl) (by kernel_rfl) (Nat.le_of_ble_eq_true rfl) (good_internal_stringslite_CutSuffix (.start a.1 a.2.1) r h)

/-! ### strings.CutSuffix -/
inductive P_strings_CutSuffix where
 | start (s0 : ByteArray) (suffix1 : ByteArray)
noncomputable def place_strings_CutSuffix : P_strings_CutSuffix → List Bool
 | .start .. => []
noncomputable def st_strings_CutSuffix : P_strings_CutSuffix → St E.S
 | .start s0 suffix1 => st0 11 [.v (.string s0), .v (.string suffix1)] []
abbrev R_strings_CutSuffix : Type := ((ByteArray × (Bool × Unit)) × Unit)
noncomputable def res_strings_CutSuffix : Res E (ByteArray × (Bool × Unit)) Unit := { rows := [], flat := [], keep := 0, done := [0, 1], rl := (RdL.cons Rd.str (RdL.cons Rd.bool RdL.nil)), rb := RdBL.nil }
noncomputable def run_strings_CutSuffix : P_strings_CutSuffix → Option R_strings_CutSuffix
 | .start s0 suffix1 =>
   (run_internal_stringslite_CutSuffix (.start s0 suffix1)) >>= fun t1 =>
   some ((t1.1.1, (t1.1.2.1, ())), ())
noncomputable def tab_strings_CutSuffix : List (Plc E P_strings_CutSuffix) := []
theorem tab_strings_CutSuffix_ok : All (PlcOk 11 0 place_strings_CutSuffix st_strings_CutSuffix) tab_strings_CutSuffix := trivial
noncomputable def code_strings_CutSuffix : Code := Tryz.f147.body.getD .skip
noncomputable def spec_strings_CutSuffix : Spec E.S := (Con.add con_internal_stringslite_CutSuffix noSpec)
theorem spec_strings_CutSuffix_ok : SpecOk E spec_strings_CutSuffix := (Con.add_ok con_internal_stringslite_CutSuffix_ok noSpec_ok)
theorem good_strings_CutSuffix : ∀ pt r, run_strings_CutSuffix pt = some r → Good E Tryz.f147 code_strings_CutSuffix 0 (res_strings_CutSuffix.av r) (res_strings_CutSuffix.bx r) (place_strings_CutSuffix pt) (st_strings_CutSuffix pt) := by
  intro pt r hr
  cases pt <;> exact fn_step (spec := spec_strings_CutSuffix) (wr := (mkWr [] [])) (l := tab_strings_CutSuffix) (z := 11) (p := res_strings_CutSuffix) (run' := fun _ => none) E_ok tab_strings_CutSuffix_ok.mem rfl spec_strings_CutSuffix_ok (fun _ _ h => by cases h) (Eq.trans (by kernel_rfl) hr)
noncomputable def con_strings_CutSuffix : Con E := ⟨147, (ByteArray × (ByteArray × Unit)), Unit, (RwL.cons Rd.str.w (RwL.cons Rd.str.w RwL.nil)), RdBL.nil, 0, R_strings_CutSuffix, fun a b => run_strings_CutSuffix (.start a.1 a.2.1), res_strings_CutSuffix.av, res_strings_CutSuffix.bx⟩
theorem con_strings_CutSuffix_ok : con_strings_CutSuffix.Ok := fun a b r h => fn_ok (fn := Tryz.f147) (code := code_strings_CutSuffix) E_ok (by kernel_rfl) (by kernel_rfl) (by kernel_rfl) (Nat.le_of_ble_eq_true rfl) (good_strings_CutSuffix (.start a.1 a.2.1) r h)

/-! ### ratchet/machine.lineOf$1 -/
inductive P_machine_lineOf_1 where
 | start (f0_0 : ByteArray) (f0_1 : Bool) (f0_2 : Bool) (f0_3 : Bool) (s1 : (List ByteArray))
noncomputable def place_machine_lineOf_1 : P_machine_lineOf_1 → List Bool
 | .start .. => []
noncomputable def st_machine_lineOf_1 : P_machine_lineOf_1 → St E.S
 | .start f0_0 f0_1 f0_2 f0_3 s1 => st0 10 [.agg [.v (.string f0_0), .v (.bool f0_1), .v (.bool f0_2), .v (.bool f0_3)], .el 79 s1 0] []
abbrev R_machine_lineOf_1 : Type := ((Bool × Unit) × Unit)
noncomputable def res_machine_lineOf_1 : Res E (Bool × Unit) Unit := { rows := [], flat := [], keep := 0, done := [0], rl := (RdL.cons Rd.bool RdL.nil), rb := RdBL.nil }
noncomputable def run_machine_lineOf_1 : P_machine_lineOf_1 → Option R_machine_lineOf_1
 | .start f0_0 f0_1 f0_2 f0_3 s1 =>
   (idx s1 (0 : Int)) >>= fun t1 =>
   some ((seq f0_0 t1, ()), ())
noncomputable def tab_machine_lineOf_1 : List (Plc E P_machine_lineOf_1) := []
theorem tab_machine_lineOf_1_ok : All (PlcOk 10 0 place_machine_lineOf_1 st_machine_lineOf_1) tab_machine_lineOf_1 := trivial
noncomputable def code_machine_lineOf_1 : Code := Tryz.f149.body.getD .skip
noncomputable def spec_machine_lineOf_1 : Spec E.S := noSpec
theorem spec_machine_lineOf_1_ok : SpecOk E spec_machine_lineOf_1 := noSpec_ok
theorem good_machine_lineOf_1 : ∀ pt r, run_machine_lineOf_1 pt = some r → Good E Tryz.f149 code_machine_lineOf_1 0 (res_machine_lineOf_1.av r) (res_machine_lineOf_1.bx r) (place_machine_lineOf_1 pt) (st_machine_lineOf_1 pt) := by
  intro pt r hr
  cases pt <;> exact fn_step (spec := spec_machine_lineOf_1) (wr := (mkWr [] [])) (l := tab_machine_lineOf_1) (z := 10) (p := res_machine_lineOf_1) (run' := fun _ => none) E_ok tab_machine_lineOf_1_ok.mem rfl spec_machine_lineOf_1_ok (fun _ _ h => by cases h) (Eq.trans (by kernel_rfl) hr)
noncomputable def con_machine_lineOf_1 : Con E := ⟨149, ((ByteArray × (Bool × (Bool × (Bool × Unit)))) × ((List ByteArray) × Unit)), Unit, (RwL.cons (Rw.agg (RwL.cons Rd.str.w (RwL.cons Rd.bool.w (RwL.cons Rd.bool.w (RwL.cons Rd.bool.w RwL.nil))))) (RwL.cons (Rd.el 79 0).w RwL.nil)), RdBL.nil, 0, R_machine_lineOf_1, fun a b => run_machine_lineOf_1 (.start a.1.1 a.1.2.1 a.1.2.2.1 a.1.2.2.2.1 a.2.1), res_machine_lineOf_1.av, res_machine_lineOf_1.bx⟩
theorem con_machine_lineOf_1_ok : con_machine_lineOf_1.Ok := fun a b r h => fn_ok (fn := Tryz.f149) (code := code_machine_lineOf_1) E_ok (by kernel_rfl) (by kernel_rfl) (by kernel_rfl) (Nat.le_of_ble_eq_true rfl) (good_machine_lineOf_1 (.start a.1.1 a.1.2.1 a.1.2.2.1 a.1.2.2.2.1 a.2.1) r h)

/-! ### slices.IndexFunc[[]ratchet/machine.form,ratchet/machine.form] -/
inductive P_slices_IndexFunc_machine_form_machine_form where
 | start (s0 : (List machine_form)) (B0 : (List ByteArray))
 | p52 (s0 : (List machine_form)) (s7 : Int) (s8 : Int) (B0 : (List ByteArray))
noncomputable def place_slices_IndexFunc_machine_form_machine_form : P_slices_IndexFunc_machine_form_machine_form → List Bool
 | .start .. => []
 | .p52 .. => [false, false, true, false, true]
noncomputable def st_slices_IndexFunc_machine_form_machine_form : P_slices_IndexFunc_machine_form_machine_form → St E.S
 | .start s0 B0 => st0 19 [.sl 166 s0 false, .fn 149 [.bp 0 0]] [.var 79 [.sl 9 B0 false]]
 | .p52 s0 s7 s8 B0 => mkSt 19 [0, 1, 7, 8] [.sl 166 s0 false, .fn 149 [.bp 0 0], .v (.int .i64 s7), .v (.int .i64 s8)] [.var 79 [.sl 9 B0 false]]
abbrev R_slices_IndexFunc_machine_form_machine_form : Type := ((Int × Unit) × (((List ByteArray) × Unit) × Unit))
noncomputable def res_slices_IndexFunc_machine_form_machine_form : Res E (Int × Unit) (((List ByteArray) × Unit) × Unit) := { rows := [], flat := [], keep := 1, done := [0], rl := (RdL.cons (Rd.int .i64) RdL.nil), rb := (RdBL.cons (RdB.var 79 (RdL.cons (Rd.sl 9 false) RdL.nil)) RdBL.nil) }
noncomputable def run_slices_IndexFunc_machine_form_machine_form : P_slices_IndexFunc_machine_form_machine_form → Option R_slices_IndexFunc_machine_form_machine_form
 | .start s0 B0 =>
   run_slices_IndexFunc_machine_form_machine_form (.p52 s0 (List.length s0 : Int) (0 : Int) B0)
 | .p52 s0 s7 s8 B0 =>
   if (decide (s8 < s7)) = true then
     (idx s0 s8) >>= fun t1 =>
     (run_machine_lineOf_1 (.start t1.name t1.a t1.b t1.n B0)) >>= fun t2 =>
     if t2.1.1 = true then
       some ((s8, ()), ((B0, ()), ()))
     else
       run_slices_IndexFunc_machine_form_machine_form (.p52 s0 s7 (IntKind.wrap .i64 (s8 + (1 : Int))) B0)
   else
     some (((-1 : Int), ()), ((B0, ()), ()))
  partial_fixpoint
noncomputable def tab_slices_IndexFunc_machine_form_machine_form : List (Plc E P_slices_IndexFunc_machine_form_machine_form) := [⟨52, [false, false, true, false, true], { slots := [0, 1, 7, 8], rows := [], flat := [], keep := 1 }, ((List machine_form) × ((Unit × Unit) × (Int × (Int × Unit)))), (((List ByteArray) × Unit) × Unit), (RdL.cons (Rd.sl 166 false) (RdL.cons (Rd.fn 149 (RdL.cons (Rd.bp 0 0) RdL.nil)) (RdL.cons (Rd.int .i64) (RdL.cons (Rd.int .i64) RdL.nil)))), (RdBL.cons (RdB.var 79 (RdL.cons (Rd.sl 9 false) RdL.nil)) RdBL.nil), fun a b => .p52 a.1 a.2.2.1 a.2.2.2.1 b.1.1⟩]
theorem tab_slices_IndexFunc_machine_form_machine_form_ok : All (PlcOk 19 1 place_slices_IndexFunc_machine_form_machine_form st_slices_IndexFunc_machine_form_machine_form) tab_slices_IndexFunc_machine_form_machine_form := ⟨⟨rfl, rfl, fun _ _ => rfl, fun _ _ => rfl⟩, trivial⟩
noncomputable def code_slices_IndexFunc_machine_form_machine_form : Code := Tryz.f148.body.getD .skip
noncomputable def spec_slices_IndexFunc_machine_form_machine_form : Spec E.S := (Con.add con_machine_lineOf_1 noSpec)
theorem spec_slices_IndexFunc_machine_form_machine_form_ok : SpecOk E spec_slices_IndexFunc_machine_form_machine_form := (Con.add_ok con_machine_lineOf_1_ok noSpec_ok)
theorem good_slices_IndexFunc_machine_form_machine_form : ∀ pt r, run_slices_IndexFunc_machine_form_machine_form pt = some r → Good E Tryz.f148 code_slices_IndexFunc_machine_form_machine_form 1 (res_slices_IndexFunc_machine_form_machine_form.av r) (res_slices_IndexFunc_machine_form_machine_form.bx r) (place_slices_IndexFunc_machine_form_machine_form pt) (st_slices_IndexFunc_machine_form_machine_form pt) := by
  refine run_slices_IndexFunc_machine_form_machine_form.partial_correctness (fun pt r => Good E Tryz.f148 code_slices_IndexFunc_machine_form_machine_form 1 (res_slices_IndexFunc_machine_form_machine_form.av r) (res_slices_IndexFunc_machine_form_machine_form.bx r) (place_slices_IndexFunc_machine_form_machine_form pt) (st_slices_IndexFunc_machine_form_machine_form pt)) ?_
  intro run' ih pt r hr
  cases pt <;> exact fn_step (spec := spec_slices_IndexFunc_machine_form_machine_form) (wr := (mkWr [] [])) (l := tab_slices_IndexFunc_machine_form_machine_form) (z := 19) (p := res_slices_IndexFunc_machine_form_machine_form) E_ok tab_slices_IndexFunc_machine_form_machine_form_ok.mem rfl spec_slices_IndexFunc_machine_form_machine_form_ok ih (Eq.trans (by kernel_rfl) hr)
noncomputable def con_slices_IndexFunc_machine_form_machine_form : Con E := ⟨148, ((List machine_form) × ((Unit × Unit) × Unit)), (((List ByteArray) × Unit) × Unit), (RwL.cons (Rw.sl 166) (RwL.cons (Rd.fn 149 (RdL.cons (Rd.bp 0 0) RdL.nil)).w RwL.nil)), (RdBL.cons (RdB.var 79 (RdL.cons (Rd.sl 9 false) RdL.nil)) RdBL.nil), 1, R_slices_IndexFunc_machine_form_machine_form, fun a b => run_slices_IndexFunc_machine_form_machine_form (.start a.1 b.1.1), res_slices_IndexFunc_machine_form_machine_form.av, res_slices_IndexFunc_machine_form_machine_form.bx⟩
theorem con_slices_IndexFunc_machine_form_machine_form_ok : con_slices_IndexFunc_machine_form_machine_form.Ok := fun a b r h => fn_ok (fn := Tryz.f148) (code := code_slices_IndexFunc_machine_form_machine_form) E_ok (by kernel_rfl) (by kernel_rfl) (by kernel_rfl) (Nat.le_of_ble_eq_true rfl) (good_slices_IndexFunc_machine_form_machine_form (.start a.1 b.1.1) r h)

/-! ### internal/stringslite.HasPrefix -/
inductive P_internal_stringslite_HasPrefix where
 | start (s0 : ByteArray) (prefix1 : ByteArray)
noncomputable def place_internal_stringslite_HasPrefix : P_internal_stringslite_HasPrefix → List Bool
 | .start .. => []
noncomputable def st_internal_stringslite_HasPrefix : P_internal_stringslite_HasPrefix → St E.S
 | .start s0 prefix1 => st0 18 [.v (.string s0), .v (.string prefix1)] []
abbrev R_internal_stringslite_HasPrefix : Type := ((Bool × Unit) × Unit)
noncomputable def res_internal_stringslite_HasPrefix : Res E (Bool × Unit) Unit := { rows := [], flat := [], keep := 0, done := [0], rl := (RdL.cons Rd.bool RdL.nil), rb := RdBL.nil }
noncomputable def run_internal_stringslite_HasPrefix : P_internal_stringslite_HasPrefix → Option R_internal_stringslite_HasPrefix
 | .start s0 prefix1 =>
   if (decide ((s0.size : Int) ≥ (prefix1.size : Int))) = true then
     (span s0.size (0 : Int) (prefix1.size : Int)) >>= fun t1 =>
     some ((seq (s0.extract t1.1 t1.2) prefix1, ()), ())
   else
     some ((false, ()), ())
noncomputable def tab_internal_stringslite_HasPrefix : List (Plc E P_internal_stringslite_HasPrefix) := []
theorem tab_internal_stringslite_HasPrefix_ok : All (PlcOk 18 0 place_internal_stringslite_HasPrefix st_internal_stringslite_HasPrefix) tab_internal_stringslite_HasPrefix := trivial
noncomputable def code_internal_stringslite_HasPrefix : Code := Tryz.f221.body.getD .skip
noncomputable def spec_internal_stringslite_HasPrefix : Spec E.S := noSpec
theorem spec_internal_stringslite_HasPrefix_ok : SpecOk E spec_internal_stringslite_HasPrefix := noSpec_ok
theorem good_internal_stringslite_HasPrefix : ∀ pt r, run_internal_stringslite_HasPrefix pt = some r → Good E Tryz.f221 code_internal_stringslite_HasPrefix 0 (res_internal_stringslite_HasPrefix.av r) (res_internal_stringslite_HasPrefix.bx r) (place_internal_stringslite_HasPrefix pt) (st_internal_stringslite_HasPrefix pt) := by
  intro pt r hr
  cases pt <;> exact fn_step (spec := spec_internal_stringslite_HasPrefix) (wr := (mkWr [] [])) (l := tab_internal_stringslite_HasPrefix) (z := 18) (p := res_internal_stringslite_HasPrefix) (run' := fun _ => none) E_ok tab_internal_stringslite_HasPrefix_ok.mem rfl spec_internal_stringslite_HasPrefix_ok (fun _ _ h => by cases h) (Eq.trans (by kernel_rfl) hr)
noncomputable def con_internal_stringslite_HasPrefix : Con E := ⟨221, (ByteArray × (ByteArray × Unit)), Unit, (RwL.cons Rd.str.w (RwL.cons Rd.str.w RwL.nil)), RdBL.nil, 0, R_internal_stringslite_HasPrefix, fun a b => run_internal_stringslite_HasPrefix (.start a.1 a.2.1), res_internal_stringslite_HasPrefix.av, res_internal_stringslite_HasPrefix.bx⟩
theorem con_internal_stringslite_HasPrefix_ok : con_internal_stringslite_HasPrefix.Ok := fun a b r h => fn_ok (fn := Tryz.f221) (code := code_internal_stringslite_HasPrefix) E_ok (by kernel_rfl) (by kernel_rfl) (by kernel_rfl) (Nat.le_of_ble_eq_true rfl) (good_internal_stringslite_HasPrefix (.start a.1 a.2.1) r h)

/-! ### internal/stringslite.CutPrefix -/
inductive P_internal_stringslite_CutPrefix where
 | start (s0 : ByteArray) (prefix1 : ByteArray)
noncomputable def place_internal_stringslite_CutPrefix : P_internal_stringslite_CutPrefix → List Bool
 | .start .. => []
noncomputable def st_internal_stringslite_CutPrefix : P_internal_stringslite_CutPrefix → St E.S
 | .start s0 prefix1 => st0 15 [.v (.string s0), .v (.string prefix1)] []
abbrev R_internal_stringslite_CutPrefix : Type := ((ByteArray × (Bool × Unit)) × Unit)
noncomputable def res_internal_stringslite_CutPrefix : Res E (ByteArray × (Bool × Unit)) Unit := { rows := [], flat := [], keep := 0, done := [0, 1], rl := (RdL.cons Rd.str (RdL.cons Rd.bool RdL.nil)), rb := RdBL.nil }
noncomputable def run_internal_stringslite_CutPrefix : P_internal_stringslite_CutPrefix → Option R_internal_stringslite_CutPrefix
 | .start s0 prefix1 =>
   (run_internal_stringslite_HasPrefix (.start s0 prefix1)) >>= fun t1 =>
   if (!t1.1.1) = true then
     some ((s0, (false, ())), ())
   else
     (span s0.size (prefix1.size : Int) (s0.size : Int)) >>= fun t2 =>
     some ((s0.extract t2.1 t2.2, (true, ())), ())
noncomputable def tab_internal_stringslite_CutPrefix : List (Plc E P_internal_stringslite_CutPrefix) := []
theorem tab_internal_stringslite_CutPrefix_ok : All (PlcOk 15 0 place_internal_stringslite_CutPrefix st_internal_stringslite_CutPrefix) tab_internal_stringslite_CutPrefix := trivial
noncomputable def code_internal_stringslite_CutPrefix : Code := Tryz.f214.body.getD .skip
noncomputable def spec_internal_stringslite_CutPrefix : Spec E.S := (Con.add con_internal_stringslite_HasPrefix noSpec)
theorem spec_internal_stringslite_CutPrefix_ok : SpecOk E spec_internal_stringslite_CutPrefix := (Con.add_ok con_internal_stringslite_HasPrefix_ok noSpec_ok)
theorem good_internal_stringslite_CutPrefix : ∀ pt r, run_internal_stringslite_CutPrefix pt = some r → Good E Tryz.f214 code_internal_stringslite_CutPrefix 0 (res_internal_stringslite_CutPrefix.av r) (res_internal_stringslite_CutPrefix.bx r) (place_internal_stringslite_CutPrefix pt) (st_internal_stringslite_CutPrefix pt) := by
  intro pt r hr
  cases pt <;> exact fn_step (spec := spec_internal_stringslite_CutPrefix) (wr := (mkWr [] [])) (l := tab_internal_stringslite_CutPrefix) (z := 15) (p := res_internal_stringslite_CutPrefix) (run' := fun _ => none) E_ok tab_internal_stringslite_CutPrefix_ok.mem rfl spec_internal_stringslite_CutPrefix_ok (fun _ _ h => by cases h) (Eq.trans (by kernel_rfl) hr)
noncomputable def con_internal_stringslite_CutPrefix : Con E := ⟨214, (ByteArray × (ByteArray × Unit)), Unit, (RwL.cons Rd.str.w (RwL.cons Rd.str.w RwL.nil)), RdBL.nil, 0, R_internal_stringslite_CutPrefix, fun a b => run_internal_stringslite_CutPrefix (.start a.1 a.2.1), res_internal_stringslite_CutPrefix.av, res_internal_stringslite_CutPrefix.bx⟩
theorem con_internal_stringslite_CutPrefix_ok : con_internal_stringslite_CutPrefix.Ok := fun a b r h => fn_ok (fn := Tryz.f214) (code := code_internal_stringslite_CutPrefix) E_ok (by kernel_rfl) (by kernel_rfl) (by kernel_rfl) (Nat.le_of_ble_eq_true rfl) (good_internal_stringslite_CutPrefix (.start a.1 a.2.1) r h)

/-! ### strings.CutPrefix -/
inductive P_strings_CutPrefix where
 | start (s0 : ByteArray) (prefix1 : ByteArray)
noncomputable def place_strings_CutPrefix : P_strings_CutPrefix → List Bool
 | .start .. => []
noncomputable def st_strings_CutPrefix : P_strings_CutPrefix → St E.S
 | .start s0 prefix1 => st0 11 [.v (.string s0), .v (.string prefix1)] []
abbrev R_strings_CutPrefix : Type := ((ByteArray × (Bool × Unit)) × Unit)
noncomputable def res_strings_CutPrefix : Res E (ByteArray × (Bool × Unit)) Unit := { rows := [], flat := [], keep := 0, done := [0, 1], rl := (RdL.cons Rd.str (RdL.cons Rd.bool RdL.nil)), rb := RdBL.nil }
noncomputable def run_strings_CutPrefix : P_strings_CutPrefix → Option R_strings_CutPrefix
 | .start s0 prefix1 =>
   (run_internal_stringslite_CutPrefix (.start s0 prefix1)) >>= fun t1 =>
   some ((t1.1.1, (t1.1.2.1, ())), ())
noncomputable def tab_strings_CutPrefix : List (Plc E P_strings_CutPrefix) := []
theorem tab_strings_CutPrefix_ok : All (PlcOk 11 0 place_strings_CutPrefix st_strings_CutPrefix) tab_strings_CutPrefix := trivial
noncomputable def code_strings_CutPrefix : Code := Tryz.f199.body.getD .skip
noncomputable def spec_strings_CutPrefix : Spec E.S := (Con.add con_internal_stringslite_CutPrefix noSpec)
theorem spec_strings_CutPrefix_ok : SpecOk E spec_strings_CutPrefix := (Con.add_ok con_internal_stringslite_CutPrefix_ok noSpec_ok)
theorem good_strings_CutPrefix : ∀ pt r, run_strings_CutPrefix pt = some r → Good E Tryz.f199 code_strings_CutPrefix 0 (res_strings_CutPrefix.av r) (res_strings_CutPrefix.bx r) (place_strings_CutPrefix pt) (st_strings_CutPrefix pt) := by
  intro pt r hr
  cases pt <;> exact fn_step (spec := spec_strings_CutPrefix) (wr := (mkWr [] [])) (l := tab_strings_CutPrefix) (z := 11) (p := res_strings_CutPrefix) (run' := fun _ => none) E_ok tab_strings_CutPrefix_ok.mem rfl spec_strings_CutPrefix_ok (fun _ _ h => by cases h) (Eq.trans (by kernel_rfl) hr)
noncomputable def con_strings_CutPrefix : Con E := ⟨199, (ByteArray × (ByteArray × Unit)), Unit, (RwL.cons Rd.str.w (RwL.cons Rd.str.w RwL.nil)), RdBL.nil, 0, R_strings_CutPrefix, fun a b => run_strings_CutPrefix (.start a.1 a.2.1), res_strings_CutPrefix.av, res_strings_CutPrefix.bx⟩
theorem con_strings_CutPrefix_ok : con_strings_CutPrefix.Ok := fun a b r h => fn_ok (fn := Tryz.f199) (code := code_strings_CutPrefix) E_ok (by kernel_rfl) (by kernel_rfl) (by kernel_rfl) (Nat.le_of_ble_eq_true rfl) (good_strings_CutPrefix (.start a.1 a.2.1) r h)

/-! ### ratchet/machine.natural -/
inductive P_machine_natural where
 | start (s0 : ByteArray)
noncomputable def place_machine_natural : P_machine_natural → List Bool
 | .start .. => []
noncomputable def st_machine_natural : P_machine_natural → St E.S
 | .start s0 => st0 29 [.v (.string s0)] []
abbrev R_machine_natural : Type := ((Int × (Bool × Unit)) × Unit)
noncomputable def res_machine_natural : Res E (Int × (Bool × Unit)) Unit := { rows := [], flat := [], keep := 0, done := [0, 1], rl := (RdL.cons (Rd.int .i64) (RdL.cons Rd.bool RdL.nil)), rb := RdBL.nil }
noncomputable def run_machine_natural : P_machine_natural → Option R_machine_natural
 | .start s0 =>
   (atoiRun (s0, ()) ()) >>= fun t1 =>
   if (!t1.1.2.1) = true then
     if (decide (t1.1.1 ≥ (0 : Int))) = true then
       if (decide ((s0.size : Int) ≤ (3 : Int))) = true then
         (itoaRun (t1.1.1, ()) ()) >>= fun t2 =>
         some ((t1.1.1, (seq t2.1.1 s0, ())), ())
       else
         some ((t1.1.1, (false, ())), ())
     else
       some ((t1.1.1, (false, ())), ())
   else
     some ((t1.1.1, (false, ())), ())
noncomputable def tab_machine_natural : List (Plc E P_machine_natural) := []
theorem tab_machine_natural_ok : All (PlcOk 29 0 place_machine_natural st_machine_natural) tab_machine_natural := trivial
noncomputable def code_machine_natural : Code := Tryz.f183.body.getD .skip
noncomputable def spec_machine_natural : Spec E.S := (Con.add con_strconv_Itoa (Con.add con_strconv_Atoi noSpec))
theorem spec_machine_natural_ok : SpecOk E spec_machine_natural := (Con.add_ok con_strconv_Itoa_ok (Con.add_ok con_strconv_Atoi_ok noSpec_ok))
theorem good_machine_natural : ∀ pt r, run_machine_natural pt = some r → Good E Tryz.f183 code_machine_natural 0 (res_machine_natural.av r) (res_machine_natural.bx r) (place_machine_natural pt) (st_machine_natural pt) := by
  intro pt r hr
  cases pt <;> exact fn_step (spec := spec_machine_natural) (wr := (mkWr [] [])) (l := tab_machine_natural) (z := 29) (p := res_machine_natural) (run' := fun _ => none) E_ok tab_machine_natural_ok.mem rfl spec_machine_natural_ok (fun _ _ h => by cases h) (Eq.trans (by kernel_rfl) hr)
noncomputable def con_machine_natural : Con E := ⟨183, (ByteArray × Unit), Unit, (RwL.cons Rd.str.w RwL.nil), RdBL.nil, 0, R_machine_natural, fun a b => run_machine_natural (.start a.1), res_machine_natural.av, res_machine_natural.bx⟩
theorem con_machine_natural_ok : con_machine_natural.Ok := fun a b r h => fn_ok (fn := Tryz.f183) (code := code_machine_natural) E_ok (by kernel_rfl) (by kernel_rfl) (by kernel_rfl) (Nat.le_of_ble_eq_true rfl) (good_machine_natural (.start a.1) r h)

/-! ### ratchet/machine.within -/
inductive P_machine_within where
 | start (n0 : Int) (lo1 : Int) (hi2 : Int)
noncomputable def place_machine_within : P_machine_within → List Bool
 | .start .. => []
noncomputable def st_machine_within : P_machine_within → St E.S
 | .start n0 lo1 hi2 => st0 15 [.v (.int .i64 n0), .v (.int .i64 lo1), .v (.int .i64 hi2)] []
abbrev R_machine_within : Type := ((Bool × Unit) × Unit)
noncomputable def res_machine_within : Res E (Bool × Unit) Unit := { rows := [], flat := [], keep := 0, done := [0], rl := (RdL.cons Rd.bool RdL.nil), rb := RdBL.nil }
noncomputable def run_machine_within : P_machine_within → Option R_machine_within
 | .start n0 lo1 hi2 =>
   if (decide (lo1 ≤ n0)) = true then
     some ((decide (n0 ≤ hi2), ()), ())
   else
     some ((false, ()), ())
noncomputable def tab_machine_within : List (Plc E P_machine_within) := []
theorem tab_machine_within_ok : All (PlcOk 15 0 place_machine_within st_machine_within) tab_machine_within := trivial
noncomputable def code_machine_within : Code := Tryz.f75.body.getD .skip
noncomputable def spec_machine_within : Spec E.S := noSpec
theorem spec_machine_within_ok : SpecOk E spec_machine_within := noSpec_ok
theorem good_machine_within : ∀ pt r, run_machine_within pt = some r → Good E Tryz.f75 code_machine_within 0 (res_machine_within.av r) (res_machine_within.bx r) (place_machine_within pt) (st_machine_within pt) := by
  intro pt r hr
  cases pt <;> exact fn_step (spec := spec_machine_within) (wr := (mkWr [] [])) (l := tab_machine_within) (z := 15) (p := res_machine_within) (run' := fun _ => none) E_ok tab_machine_within_ok.mem rfl spec_machine_within_ok (fun _ _ h => by cases h) (Eq.trans (by kernel_rfl) hr)
noncomputable def con_machine_within : Con E := ⟨75, (Int × (Int × (Int × Unit))), Unit, (RwL.cons (Rd.int .i64).w (RwL.cons (Rd.int .i64).w (RwL.cons (Rd.int .i64).w RwL.nil))), RdBL.nil, 0, R_machine_within, fun a b => run_machine_within (.start a.1 a.2.1 a.2.2.1), res_machine_within.av, res_machine_within.bx⟩
theorem con_machine_within_ok : con_machine_within.Ok := fun a b r h => fn_ok (fn := Tryz.f75) (code := code_machine_within) E_ok (by kernel_rfl) (by kernel_rfl) (by kernel_rfl) (Nat.le_of_ble_eq_true rfl) (good_machine_within (.start a.1 a.2.1 a.2.2.1) r h)

/-! ### ratchet/machine.isRegister -/
inductive P_machine_isRegister where
 | start (n0 : Int)
noncomputable def place_machine_isRegister : P_machine_isRegister → List Bool
 | .start .. => []
noncomputable def st_machine_isRegister : P_machine_isRegister → St E.S
 | .start n0 => st0 5 [.v (.int .i64 n0)] []
abbrev R_machine_isRegister : Type := ((Bool × Unit) × Unit)
noncomputable def res_machine_isRegister : Res E (Bool × Unit) Unit := { rows := [], flat := [], keep := 0, done := [0], rl := (RdL.cons Rd.bool RdL.nil), rb := RdBL.nil }
noncomputable def run_machine_isRegister : P_machine_isRegister → Option R_machine_isRegister
 | .start n0 =>
   (run_machine_within (.start n0 (0 : Int) (3 : Int))) >>= fun t1 =>
   some ((t1.1.1, ()), ())
noncomputable def tab_machine_isRegister : List (Plc E P_machine_isRegister) := []
theorem tab_machine_isRegister_ok : All (PlcOk 5 0 place_machine_isRegister st_machine_isRegister) tab_machine_isRegister := trivial
noncomputable def code_machine_isRegister : Code := Tryz.f122.body.getD .skip
noncomputable def spec_machine_isRegister : Spec E.S := (Con.add con_machine_within noSpec)
theorem spec_machine_isRegister_ok : SpecOk E spec_machine_isRegister := (Con.add_ok con_machine_within_ok noSpec_ok)
theorem good_machine_isRegister : ∀ pt r, run_machine_isRegister pt = some r → Good E Tryz.f122 code_machine_isRegister 0 (res_machine_isRegister.av r) (res_machine_isRegister.bx r) (place_machine_isRegister pt) (st_machine_isRegister pt) := by
  intro pt r hr
  cases pt <;> exact fn_step (spec := spec_machine_isRegister) (wr := (mkWr [] [])) (l := tab_machine_isRegister) (z := 5) (p := res_machine_isRegister) (run' := fun _ => none) E_ok tab_machine_isRegister_ok.mem rfl spec_machine_isRegister_ok (fun _ _ h => by cases h) (Eq.trans (by kernel_rfl) hr)
noncomputable def con_machine_isRegister : Con E := ⟨122, (Int × Unit), Unit, (RwL.cons (Rd.int .i64).w RwL.nil), RdBL.nil, 0, R_machine_isRegister, fun a b => run_machine_isRegister (.start a.1), res_machine_isRegister.av, res_machine_isRegister.bx⟩
theorem con_machine_isRegister_ok : con_machine_isRegister.Ok := fun a b r h => fn_ok (fn := Tryz.f122) (code := code_machine_isRegister) E_ok (by kernel_rfl) (by kernel_rfl) (by kernel_rfl) (Nat.le_of_ble_eq_true rfl) (good_machine_isRegister (.start a.1) r h)

/-! ### ratchet/machine.registerOf -/
inductive P_machine_registerOf where
 | start (s0 : ByteArray)
noncomputable def place_machine_registerOf : P_machine_registerOf → List Bool
 | .start .. => []
noncomputable def st_machine_registerOf : P_machine_registerOf → St E.S
 | .start s0 => st0 27 [.v (.string s0)] []
abbrev R_machine_registerOf : Type := ((Int × (Bool × Unit)) × Unit)
noncomputable def res_machine_registerOf : Res E (Int × (Bool × Unit)) Unit := { rows := [], flat := [], keep := 0, done := [0, 1], rl := (RdL.cons (Rd.int .i64) (RdL.cons Rd.bool RdL.nil)), rb := RdBL.nil }
noncomputable def run_machine_registerOf : P_machine_registerOf → Option R_machine_registerOf
 | .start s0 =>
   (run_strings_CutPrefix (.start s0 (⟨#[114]⟩ : ByteArray))) >>= fun t1 =>
   (run_machine_natural (.start t1.1.1)) >>= fun t2 =>
   if t1.1.2.1 = true then
     if t2.1.2.1 = true then
       (run_machine_isRegister (.start t2.1.1)) >>= fun t3 =>
       some ((t2.1.1, (t3.1.1, ())), ())
     else
       some ((t2.1.1, (false, ())), ())
   else
     some ((t2.1.1, (false, ())), ())
noncomputable def tab_machine_registerOf : List (Plc E P_machine_registerOf) := []
theorem tab_machine_registerOf_ok : All (PlcOk 27 0 place_machine_registerOf st_machine_registerOf) tab_machine_registerOf := trivial
noncomputable def code_machine_registerOf : Code := Tryz.f182.body.getD .skip
noncomputable def spec_machine_registerOf : Spec E.S := (Con.add con_machine_isRegister (Con.add con_machine_natural (Con.add con_strings_CutPrefix noSpec)))
theorem spec_machine_registerOf_ok : SpecOk E spec_machine_registerOf := (Con.add_ok con_machine_isRegister_ok (Con.add_ok con_machine_natural_ok (Con.add_ok con_strings_CutPrefix_ok noSpec_ok)))
theorem good_machine_registerOf : ∀ pt r, run_machine_registerOf pt = some r → Good E Tryz.f182 code_machine_registerOf 0 (res_machine_registerOf.av r) (res_machine_registerOf.bx r) (place_machine_registerOf pt) (st_machine_registerOf pt) := by
  intro pt r hr
  cases pt <;> exact fn_step (spec := spec_machine_registerOf) (wr := (mkWr [] [])) (l := tab_machine_registerOf) (z := 27) (p := res_machine_registerOf) (run' := fun _ => none) E_ok tab_machine_registerOf_ok.mem rfl spec_machine_registerOf_ok (fun _ _ h => by cases h) (Eq.trans (by kernel_rfl) hr)
noncomputable def con_machine_registerOf : Con E := ⟨182, (ByteArray × Unit), Unit, (RwL.cons Rd.str.w RwL.nil), RdBL.nil, 0, R_machine_registerOf, fun a b => run_machine_registerOf (.start a.1), res_machine_registerOf.av, res_machine_registerOf.bx⟩
theorem con_machine_registerOf_ok : con_machine_registerOf.Ok := fun a b r h => fn_ok (fn := Tryz.f182) (code := code_machine_registerOf) E_ok (by kernel_rfl) (by kernel_rfl) (by kernel_rfl) (Nat.le_of_ble_eq_true rfl) (good_machine_registerOf (.start a.1) r h)

/-! ### (*ratchet/machine.line).operands$1 -/
inductive P_machine_line_operands_1 where
 | start (B0_0 : Int) (B0_1 : Int) (B0_2 : Int) (B0_3 : Int) (B0_4 : ByteArray) (B0_5 : ByteArray) (B0_6 : Bool) (B0_7 : Bool) (B1 : (List ByteArray))
noncomputable def place_machine_line_operands_1 : P_machine_line_operands_1 → List Bool
 | .start .. => []
noncomputable def st_machine_line_operands_1 : P_machine_line_operands_1 → St E.S
 | .start B0_0 B0_1 B0_2 B0_3 B0_4 B0_5 B0_6 B0_7 B1 => st0 25 [.fn 182 [], .bp 0 1, .bp 1 0] [.var 157 [.v (.int .i64 B0_0), .v (.int .i64 B0_1), .v (.int .i64 B0_2), .v (.int .i64 B0_3), .v (.string B0_4), .v (.string B0_5), .v (.bool B0_6), .v (.bool B0_7)], .var 79 [.sl 9 B1 false]]
abbrev R_machine_line_operands_1 : Type := ((Bool × Unit) × ((Int × (Int × (Int × (Int × (ByteArray × (ByteArray × (Bool × (Bool × Unit)))))))) × (((List ByteArray) × Unit) × Unit)))
noncomputable def res_machine_line_operands_1 : Res E (Bool × Unit) ((Int × (Int × (Int × (Int × (ByteArray × (ByteArray × (Bool × (Bool × Unit)))))))) × (((List ByteArray) × Unit) × Unit)) := { rows := [], flat := [], keep := 2, done := [0], rl := (RdL.cons Rd.bool RdL.nil), rb := (RdBL.cons (RdB.var 157 (RdL.cons (Rd.int .i64) (RdL.cons (Rd.int .i64) (RdL.cons (Rd.int .i64) (RdL.cons (Rd.int .i64) (RdL.cons Rd.str (RdL.cons Rd.str (RdL.cons Rd.bool (RdL.cons Rd.bool RdL.nil))))))))) (RdBL.cons (RdB.var 79 (RdL.cons (Rd.sl 9 false) RdL.nil)) RdBL.nil)) }
noncomputable def run_machine_line_operands_1 : P_machine_line_operands_1 → Option R_machine_line_operands_1
 | .start B0_0 B0_1 B0_2 B0_3 B0_4 B0_5 B0_6 B0_7 B1 =>
   if ((List.length B1 : Int) == (0 : Int)) = true then
     some ((false, ()), ((B0_0, (B0_1, (B0_2, (B0_3, (B0_4, (B0_5, (B0_6, (B0_7, ())))))))), ((B1, ()), ())))
   else
     (idx B1 (0 : Int)) >>= fun t1 =>
     (run_machine_registerOf (.start t1)) >>= fun t2 =>
     (span (List.length B1) (1 : Int) (List.length B1 : Int)) >>= fun t3 =>
     some ((t2.1.2.1, ()), ((B0_0, (t2.1.1, (B0_2, (B0_3, (B0_4, (B0_5, (B0_6, (B0_7, ())))))))), ((cut B1 t3, ()), ())))
noncomputable def tab_machine_line_operands_1 : List (Plc E P_machine_line_operands_1) := []
theorem tab_machine_line_operands_1_ok : All (PlcOk 25 2 place_machine_line_operands_1 st_machine_line_operands_1) tab_machine_line_operands_1 := trivial
noncomputable def code_machine_line_operands_1 : Code := Tryz.f181.body.getD .skip
noncomputable def spec_machine_line_operands_1 : Spec E.S := (Con.add con_machine_registerOf noSpec)
theorem spec_machine_line_operands_1_ok : SpecOk E spec_machine_line_operands_1 := (Con.add_ok con_machine_registerOf_ok noSpec_ok)
theorem good_machine_line_operands_1 : ∀ pt r, run_machine_line_operands_1 pt = some r → Good E Tryz.f181 code_machine_line_operands_1 2 (res_machine_line_operands_1.av r) (res_machine_line_operands_1.bx r) (place_machine_line_operands_1 pt) (st_machine_line_operands_1 pt) := by
  intro pt r hr
  cases pt <;> exact fn_step (spec := spec_machine_line_operands_1) (wr := (mkWr [] [])) (l := tab_machine_line_operands_1) (z := 25) (p := res_machine_line_operands_1) (run' := fun _ => none) E_ok tab_machine_line_operands_1_ok.mem rfl spec_machine_line_operands_1_ok (fun _ _ h => by cases h) (Eq.trans (by kernel_rfl) hr)
noncomputable def con_machine_line_operands_1 : Con E := ⟨181, (Unit × (Unit × (Unit × Unit))), ((Int × (Int × (Int × (Int × (ByteArray × (ByteArray × (Bool × (Bool × Unit)))))))) × (((List ByteArray) × Unit) × Unit)), (RwL.cons (Rd.fn 182 RdL.nil).w (RwL.cons (Rd.bp 0 1).w (RwL.cons (Rd.bp 1 0).w RwL.nil))), (RdBL.cons (RdB.var 157 (RdL.cons (Rd.int .i64) (RdL.cons (Rd.int .i64) (RdL.cons (Rd.int .i64) (RdL.cons (Rd.int .i64) (RdL.cons Rd.str (RdL.cons Rd.str (RdL.cons Rd.bool (RdL.cons Rd.bool RdL.nil))))))))) (RdBL.cons (RdB.var 79 (RdL.cons (Rd.sl 9 false) RdL.nil)) RdBL.nil)), 2, R_machine_line_operands_1, fun a b => run_machine_line_operands_1 (.start b.1.1 b.1.2.1 b.1.2.2.1 b.1.2.2.2.1 b.1.2.2.2.2.1 b.1.2.2.2.2.2.1 b.1.2.2.2.2.2.2.1 b.1.2.2.2.2.2.2.2.1 b.2.1.1), res_machine_line_operands_1.av, res_machine_line_operands_1.bx⟩
theorem con_machine_line_operands_1_ok : con_machine_line_operands_1.Ok := fun a b r h => fn_ok (fn := Tryz.f181) (code := code_machine_line_operands_1) E_ok (by kernel_rfl) (by kernel_rfl) (by kernel_rfl) (Nat.le_of_ble_eq_true rfl) (good_machine_line_operands_1 (.start b.1.1 b.1.2.1 b.1.2.2.1 b.1.2.2.2.1 b.1.2.2.2.2.1 b.1.2.2.2.2.2.1 b.1.2.2.2.2.2.2.1 b.1.2.2.2.2.2.2.2.1 b.2.1.1) r h)

/-! ### (*ratchet/machine.line).operands$1 -/
inductive P_machine_line_operands_1_v1 where
 | start (B0_0 : Int) (B0_1 : Int) (B0_2 : Int) (B0_3 : Int) (B0_4 : ByteArray) (B0_5 : ByteArray) (B0_6 : Bool) (B0_7 : Bool) (B1 : (List ByteArray))
noncomputable def place_machine_line_operands_1_v1 : P_machine_line_operands_1_v1 → List Bool
 | .start .. => []
noncomputable def st_machine_line_operands_1_v1 : P_machine_line_operands_1_v1 → St E.S
 | .start B0_0 B0_1 B0_2 B0_3 B0_4 B0_5 B0_6 B0_7 B1 => st0 25 [.fn 182 [], .bp 0 2, .bp 1 0] [.var 157 [.v (.int .i64 B0_0), .v (.int .i64 B0_1), .v (.int .i64 B0_2), .v (.int .i64 B0_3), .v (.string B0_4), .v (.string B0_5), .v (.bool B0_6), .v (.bool B0_7)], .var 79 [.sl 9 B1 false]]
abbrev R_machine_line_operands_1_v1 : Type := ((Bool × Unit) × ((Int × (Int × (Int × (Int × (ByteArray × (ByteArray × (Bool × (Bool × Unit)))))))) × (((List ByteArray) × Unit) × Unit)))
noncomputable def res_machine_line_operands_1_v1 : Res E (Bool × Unit) ((Int × (Int × (Int × (Int × (ByteArray × (ByteArray × (Bool × (Bool × Unit)))))))) × (((List ByteArray) × Unit) × Unit)) := { rows := [], flat := [], keep := 2, done := [0], rl := (RdL.cons Rd.bool RdL.nil), rb := (RdBL.cons (RdB.var 157 (RdL.cons (Rd.int .i64) (RdL.cons (Rd.int .i64) (RdL.cons (Rd.int .i64) (RdL.cons (Rd.int .i64) (RdL.cons Rd.str (RdL.cons Rd.str (RdL.cons Rd.bool (RdL.cons Rd.bool RdL.nil))))))))) (RdBL.cons (RdB.var 79 (RdL.cons (Rd.sl 9 false) RdL.nil)) RdBL.nil)) }
noncomputable def run_machine_line_operands_1_v1 : P_machine_line_operands_1_v1 → Option R_machine_line_operands_1_v1
 | .start B0_0 B0_1 B0_2 B0_3 B0_4 B0_5 B0_6 B0_7 B1 =>
   if ((List.length B1 : Int) == (0 : Int)) = true then
     some ((false, ()), ((B0_0, (B0_1, (B0_2, (B0_3, (B0_4, (B0_5, (B0_6, (B0_7, ())))))))), ((B1, ()), ())))
   else
     (idx B1 (0 : Int)) >>= fun t1 =>
     (run_machine_registerOf (.start t1)) >>= fun t2 =>
     (span (List.length B1) (1 : Int) (List.length B1 : Int)) >>= fun t3 =>
     some ((t2.1.2.1, ()), ((B0_0, (B0_1, (t2.1.1, (B0_3, (B0_4, (B0_5, (B0_6, (B0_7, ())))))))), ((cut B1 t3, ()), ())))
noncomputable def tab_machine_line_operands_1_v1 : List (Plc E P_machine_line_operands_1_v1) := []
theorem tab_machine_line_operands_1_v1_ok : All (PlcOk 25 2 place_machine_line_operands_1_v1 st_machine_line_operands_1_v1) tab_machine_line_operands_1_v1 := trivial
noncomputable def code_machine_line_operands_1_v1 : Code := Tryz.f181.body.getD .skip
noncomputable def spec_machine_line_operands_1_v1 : Spec E.S := (Con.add con_machine_registerOf noSpec)
theorem spec_machine_line_operands_1_v1_ok : SpecOk E spec_machine_line_operands_1_v1 := (Con.add_ok con_machine_registerOf_ok noSpec_ok)
theorem good_machine_line_operands_1_v1 : ∀ pt r, run_machine_line_operands_1_v1 pt = some r → Good E Tryz.f181 code_machine_line_operands_1_v1 2 (res_machine_line_operands_1_v1.av r) (res_machine_line_operands_1_v1.bx r) (place_machine_line_operands_1_v1 pt) (st_machine_line_operands_1_v1 pt) := by
  intro pt r hr
  cases pt <;> exact fn_step (spec := spec_machine_line_operands_1_v1) (wr := (mkWr [] [])) (l := tab_machine_line_operands_1_v1) (z := 25) (p := res_machine_line_operands_1_v1) (run' := fun _ => none) E_ok tab_machine_line_operands_1_v1_ok.mem rfl spec_machine_line_operands_1_v1_ok (fun _ _ h => by cases h) (Eq.trans (by kernel_rfl) hr)
noncomputable def con_machine_line_operands_1_v1 : Con E := ⟨181, (Unit × (Unit × (Unit × Unit))), ((Int × (Int × (Int × (Int × (ByteArray × (ByteArray × (Bool × (Bool × Unit)))))))) × (((List ByteArray) × Unit) × Unit)), (RwL.cons (Rd.fn 182 RdL.nil).w (RwL.cons (Rd.bp 0 2).w (RwL.cons (Rd.bp 1 0).w RwL.nil))), (RdBL.cons (RdB.var 157 (RdL.cons (Rd.int .i64) (RdL.cons (Rd.int .i64) (RdL.cons (Rd.int .i64) (RdL.cons (Rd.int .i64) (RdL.cons Rd.str (RdL.cons Rd.str (RdL.cons Rd.bool (RdL.cons Rd.bool RdL.nil))))))))) (RdBL.cons (RdB.var 79 (RdL.cons (Rd.sl 9 false) RdL.nil)) RdBL.nil)), 2, R_machine_line_operands_1_v1, fun a b => run_machine_line_operands_1_v1 (.start b.1.1 b.1.2.1 b.1.2.2.1 b.1.2.2.2.1 b.1.2.2.2.2.1 b.1.2.2.2.2.2.1 b.1.2.2.2.2.2.2.1 b.1.2.2.2.2.2.2.2.1 b.2.1.1), res_machine_line_operands_1_v1.av, res_machine_line_operands_1_v1.bx⟩
theorem con_machine_line_operands_1_v1_ok : con_machine_line_operands_1_v1.Ok := fun a b r h => fn_ok (fn := Tryz.f181) (code := code_machine_line_operands_1_v1) E_ok (by kernel_rfl) (by kernel_rfl) (by kernel_rfl) (Nat.le_of_ble_eq_true rfl) (good_machine_line_operands_1_v1 (.start b.1.1 b.1.2.1 b.1.2.2.1 b.1.2.2.2.1 b.1.2.2.2.2.1 b.1.2.2.2.2.2.1 b.1.2.2.2.2.2.2.1 b.1.2.2.2.2.2.2.2.1 b.2.1.1) r h)

/-! ### ratchet/machine.jumps -/
inductive P_machine_jumps where
 | start (op0 : Int)
noncomputable def place_machine_jumps : P_machine_jumps → List Bool
 | .start .. => []
noncomputable def st_machine_jumps : P_machine_jumps → St E.S
 | .start op0 => st0 9 [.v (.int .i64 op0)] []
abbrev R_machine_jumps : Type := ((Bool × Unit) × Unit)
noncomputable def res_machine_jumps : Res E (Bool × Unit) Unit := { rows := [], flat := [], keep := 0, done := [0], rl := (RdL.cons Rd.bool RdL.nil), rb := RdBL.nil }
noncomputable def run_machine_jumps : P_machine_jumps → Option R_machine_jumps
 | .start op0 =>
   if (op0 == (8 : Int)) = true then
     some ((true, ()), ())
   else
     some ((op0 == (9 : Int), ()), ())
noncomputable def tab_machine_jumps : List (Plc E P_machine_jumps) := []
theorem tab_machine_jumps_ok : All (PlcOk 9 0 place_machine_jumps st_machine_jumps) tab_machine_jumps := trivial
noncomputable def code_machine_jumps : Code := Tryz.f151.body.getD .skip
noncomputable def spec_machine_jumps : Spec E.S := noSpec
theorem spec_machine_jumps_ok : SpecOk E spec_machine_jumps := noSpec_ok
theorem good_machine_jumps : ∀ pt r, run_machine_jumps pt = some r → Good E Tryz.f151 code_machine_jumps 0 (res_machine_jumps.av r) (res_machine_jumps.bx r) (place_machine_jumps pt) (st_machine_jumps pt) := by
  intro pt r hr
  cases pt <;> exact fn_step (spec := spec_machine_jumps) (wr := (mkWr [] [])) (l := tab_machine_jumps) (z := 9) (p := res_machine_jumps) (run' := fun _ => none) E_ok tab_machine_jumps_ok.mem rfl spec_machine_jumps_ok (fun _ _ h => by cases h) (Eq.trans (by kernel_rfl) hr)
noncomputable def con_machine_jumps : Con E := ⟨151, (Int × Unit), Unit, (RwL.cons (Rd.int .i64).w RwL.nil), RdBL.nil, 0, R_machine_jumps, fun a b => run_machine_jumps (.start a.1), res_machine_jumps.av, res_machine_jumps.bx⟩
theorem con_machine_jumps_ok : con_machine_jumps.Ok := fun a b r h => fn_ok (fn := Tryz.f151) (code := code_machine_jumps) E_ok (by kernel_rfl) (by kernel_rfl) (by kernel_rfl) (Nat.le_of_ble_eq_true rfl) (good_machine_jumps (.start a.1) r h)

/-! ### ratchet/machine.isName -/
inductive P_machine_isName where
 | start (s0 : ByteArray)
 | p52 (s0 : ByteArray) (s7 : (List Int)) (s8 : Int) (s9 : Int)
 | p3379 (s0 : ByteArray) (i3 : Int) (c4 : Int) (letter5 : Bool) (s7 : (List Int)) (s8 : Int) (s9 : Int)
noncomputable def place_machine_isName : P_machine_isName → List Bool
 | .start .. => []
 | .p52 .. => [false, false, true, false, true]
 | .p3379 .. => [true, true, false, false, true, true, false, false, true, false, true]
noncomputable def st_machine_isName : P_machine_isName → St E.S
 | .start s0 => st0 50 [.v (.string s0)] []
 | .p52 s0 s7 s8 s9 => mkSt 50 [0, 7, 8, 9] [.v (.string s0), .sl 5 s7 false, .v (.int .i64 s8), .v (.int .i64 s9)] []
 | .p3379 s0 i3 c4 letter5 s7 s8 s9 => mkSt 50 [0, 3, 4, 5, 7, 8, 9] [.v (.string s0), .v (.int .i64 i3), .v (.int .u8 c4), .v (.bool letter5), .sl 5 s7 false, .v (.int .i64 s8), .v (.int .i64 s9)] []
abbrev R_machine_isName : Type := ((Bool × Unit) × Unit)
noncomputable def res_machine_isName : Res E (Bool × Unit) Unit := { rows := [], flat := [], keep := 0, done := [0], rl := (RdL.cons Rd.bool RdL.nil), rb := RdBL.nil }
noncomputable def run_machine_isName : P_machine_isName → Option R_machine_isName
 | .start s0 =>
   run_machine_isName (.p52 s0 (strBytes s0) (List.length (strBytes s0) : Int) (0 : Int))
 | .p52 s0 s7 s8 s9 =>
   if (decide (s9 < s8)) = true then
     (idx s7 s9) >>= fun t1 =>
     if (decide ((97 : Int) ≤ t1)) = true then
       if (decide (t1 ≤ (122 : Int))) = true then
         run_machine_isName (.p3379 s0 s9 t1 true s7 s8 s9)
       else
         if (decide ((65 : Int) ≤ t1)) = true then
           run_machine_isName (.p3379 s0 s9 t1 (decide (t1 ≤ (90 : Int))) s7 s8 s9)
         else
           run_machine_isName (.p3379 s0 s9 t1 false s7 s8 s9)
     else
       if (decide ((65 : Int) ≤ t1)) = true then
         run_machine_isName (.p3379 s0 s9 t1 (decide (t1 ≤ (90 : Int))) s7 s8 s9)
       else
         run_machine_isName (.p3379 s0 s9 t1 false s7 s8 s9)
   else
     (run_machine_within (.start (s0.size : Int) (1 : Int) (16 : Int))) >>= fun t2 =>
     some ((t2.1.1, ()), ())
 | .p3379 s0 i3 c4 letter5 s7 s8 s9 =>
   if (!letter5) = true then
     if (i3 == (0 : Int)) = true then
       some ((false, ()), ())
     else
       if (c4 != (95 : Int)) = true then
         if (decide (c4 < (48 : Int))) = true then
           some ((false, ()), ())
         else
           if (decide (c4 > (57 : Int))) = true then
             some ((false, ()), ())
           else
             run_machine_isName (.p52 s0 s7 s8 (IntKind.wrap .i64 (s9 + (1 : Int))))
       else
         run_machine_isName (.p52 s0 s7 s8 (IntKind.wrap .i64 (s9 + (1 : Int))))
   else
     run_machine_isName (.p52 s0 s7 s8 (IntKind.wrap .i64 (s9 + (1 : Int))))
  partial_fixpoint
noncomputable def tab_machine_isName : List (Plc E P_machine_isName) := [⟨52, [false, false, true, false, true], { slots := [0, 7, 8, 9], rows := [], flat := [], keep := 0 }, (ByteArray × ((List Int) × (Int × (Int × Unit)))), Unit, (RdL.cons Rd.str (RdL.cons (Rd.sl 5 false) (RdL.cons (Rd.int .i64) (RdL.cons (Rd.int .i64) RdL.nil)))), RdBL.nil, fun a b => .p52 a.1 a.2.1 a.2.2.1 a.2.2.2.1⟩,
  ⟨3379, [true, true, false, false, true, true, false, false, true, false, true], { slots := [0, 3, 4, 5, 7, 8, 9], rows := [], flat := [], keep := 0 }, (ByteArray × (Int × (Int × (Bool × ((List Int) × (Int × (Int × Unit))))))), Unit, (RdL.cons Rd.str (RdL.cons (Rd.int .i64) (RdL.cons (Rd.int .u8) (RdL.cons Rd.bool (RdL.cons (Rd.sl 5 false) (RdL.cons (Rd.int .i64) (RdL.cons (Rd.int .i64) RdL.nil))))))), RdBL.nil, fun a b => .p3379 a.1 a.2.1 a.2.2.1 a.2.2.2.1 a.2.2.2.2.1 a.2.2.2.2.2.1 a.2.2.2.2.2.2.1⟩]
theorem tab_machine_isName_ok : All (PlcOk 50 0 place_machine_isName st_machine_isName) tab_machine_isName := ⟨⟨rfl, rfl, fun _ _ => rfl, fun _ _ => rfl⟩, ⟨⟨rfl, rfl, fun _ _ => rfl, fun _ _ => rfl⟩, trivial⟩⟩
noncomputable def code_machine_isName : Code := Tryz.f100.body.getD .skip
noncomputable def spec_machine_isName : Spec E.S := (Con.add con_machine_within noSpec)
theorem spec_machine_isName_ok : SpecOk E spec_machine_isName := (Con.add_ok con_machine_within_ok noSpec_ok)
theorem good_machine_isName : ∀ pt r, run_machine_isName pt = some r → Good E Tryz.f100 code_machine_isName 0 (res_machine_isName.av r) (res_machine_isName.bx r) (place_machine_isName pt) (st_machine_isName pt) := by
  refine run_machine_isName.partial_correctness (fun pt r => Good E Tryz.f100 code_machine_isName 0 (res_machine_isName.av r) (res_machine_isName.bx r) (place_machine_isName pt) (st_machine_isName pt)) ?_
  intro run' ih pt r hr
  cases pt <;> exact fn_step (spec := spec_machine_isName) (wr := (mkWr [] [])) (l := tab_machine_isName) (z := 50) (p := res_machine_isName) E_ok tab_machine_isName_ok.mem rfl spec_machine_isName_ok ih (Eq.trans (by kernel_rfl) hr)
noncomputable def con_machine_isName : Con E := ⟨100, (ByteArray × Unit), Unit, (RwL.cons Rd.str.w RwL.nil), RdBL.nil, 0, R_machine_isName, fun a b => run_machine_isName (.start a.1), res_machine_isName.av, res_machine_isName.bx⟩
theorem con_machine_isName_ok : con_machine_isName.Ok := fun a b r h => fn_ok (fn := Tryz.f100) (code := code_machine_isName) E_ok (by kernel_rfl) (by kernel_rfl) (by kernel_rfl) (Nat.le_of_ble_eq_true rfl) (good_machine_isName (.start a.1) r h)

/-! ### (*ratchet/machine.line).operands$1 -/
inductive P_machine_line_operands_1_v2 where
 | start (B0_0 : Int) (B0_1 : Int) (B0_2 : Int) (B0_3 : Int) (B0_4 : ByteArray) (B0_5 : ByteArray) (B0_6 : Bool) (B0_7 : Bool) (B1 : (List ByteArray))
noncomputable def place_machine_line_operands_1_v2 : P_machine_line_operands_1_v2 → List Bool
 | .start .. => []
noncomputable def st_machine_line_operands_1_v2 : P_machine_line_operands_1_v2 → St E.S
 | .start B0_0 B0_1 B0_2 B0_3 B0_4 B0_5 B0_6 B0_7 B1 => st0 25 [.fn 183 [], .bp 0 3, .bp 1 0] [.var 157 [.v (.int .i64 B0_0), .v (.int .i64 B0_1), .v (.int .i64 B0_2), .v (.int .i64 B0_3), .v (.string B0_4), .v (.string B0_5), .v (.bool B0_6), .v (.bool B0_7)], .var 79 [.sl 9 B1 false]]
abbrev R_machine_line_operands_1_v2 : Type := ((Bool × Unit) × ((Int × (Int × (Int × (Int × (ByteArray × (ByteArray × (Bool × (Bool × Unit)))))))) × (((List ByteArray) × Unit) × Unit)))
noncomputable def res_machine_line_operands_1_v2 : Res E (Bool × Unit) ((Int × (Int × (Int × (Int × (ByteArray × (ByteArray × (Bool × (Bool × Unit)))))))) × (((List ByteArray) × Unit) × Unit)) := { rows := [], flat := [], keep := 2, done := [0], rl := (RdL.cons Rd.bool RdL.nil), rb := (RdBL.cons (RdB.var 157 (RdL.cons (Rd.int .i64) (RdL.cons (Rd.int .i64) (RdL.cons (Rd.int .i64) (RdL.cons (Rd.int .i64) (RdL.cons Rd.str (RdL.cons Rd.str (RdL.cons Rd.bool (RdL.cons Rd.bool RdL.nil))))))))) (RdBL.cons (RdB.var 79 (RdL.cons (Rd.sl 9 false) RdL.nil)) RdBL.nil)) }
noncomputable def run_machine_line_operands_1_v2 : P_machine_line_operands_1_v2 → Option R_machine_line_operands_1_v2
 | .start B0_0 B0_1 B0_2 B0_3 B0_4 B0_5 B0_6 B0_7 B1 =>
   if ((List.length B1 : Int) == (0 : Int)) = true then
     some ((false, ()), ((B0_0, (B0_1, (B0_2, (B0_3, (B0_4, (B0_5, (B0_6, (B0_7, ())))))))), ((B1, ()), ())))
   else
     (idx B1 (0 : Int)) >>= fun t1 =>
     (run_machine_natural (.start t1)) >>= fun t2 =>
     (span (List.length B1) (1 : Int) (List.length B1 : Int)) >>= fun t3 =>
     some ((t2.1.2.1, ()), ((B0_0, (B0_1, (B0_2, (t2.1.1, (B0_4, (B0_5, (B0_6, (B0_7, ())))))))), ((cut B1 t3, ()), ())))
noncomputable def tab_machine_line_operands_1_v2 : List (Plc E P_machine_line_operands_1_v2) := []
theorem tab_machine_line_operands_1_v2_ok : All (PlcOk 25 2 place_machine_line_operands_1_v2 st_machine_line_operands_1_v2) tab_machine_line_operands_1_v2 := trivial
noncomputable def code_machine_line_operands_1_v2 : Code := Tryz.f181.body.getD .skip
noncomputable def spec_machine_line_operands_1_v2 : Spec E.S := (Con.add con_machine_natural noSpec)
theorem spec_machine_line_operands_1_v2_ok : SpecOk E spec_machine_line_operands_1_v2 := (Con.add_ok con_machine_natural_ok noSpec_ok)
theorem good_machine_line_operands_1_v2 : ∀ pt r, run_machine_line_operands_1_v2 pt = some r → Good E Tryz.f181 code_machine_line_operands_1_v2 2 (res_machine_line_operands_1_v2.av r) (res_machine_line_operands_1_v2.bx r) (place_machine_line_operands_1_v2 pt) (st_machine_line_operands_1_v2 pt) := by
  intro pt r hr
  cases pt <;> exact fn_step (spec := spec_machine_line_operands_1_v2) (wr := (mkWr [] [])) (l := tab_machine_line_operands_1_v2) (z := 25) (p := res_machine_line_operands_1_v2) (run' := fun _ => none) E_ok tab_machine_line_operands_1_v2_ok.mem rfl spec_machine_line_operands_1_v2_ok (fun _ _ h => by cases h) (Eq.trans (by kernel_rfl) hr)
noncomputable def con_machine_line_operands_1_v2 : Con E := ⟨181, (Unit × (Unit × (Unit × Unit))), ((Int × (Int × (Int × (Int × (ByteArray × (ByteArray × (Bool × (Bool × Unit)))))))) × (((List ByteArray) × Unit) × Unit)), (RwL.cons (Rd.fn 183 RdL.nil).w (RwL.cons (Rd.bp 0 3).w (RwL.cons (Rd.bp 1 0).w RwL.nil))), (RdBL.cons (RdB.var 157 (RdL.cons (Rd.int .i64) (RdL.cons (Rd.int .i64) (RdL.cons (Rd.int .i64) (RdL.cons (Rd.int .i64) (RdL.cons Rd.str (RdL.cons Rd.str (RdL.cons Rd.bool (RdL.cons Rd.bool RdL.nil))))))))) (RdBL.cons (RdB.var 79 (RdL.cons (Rd.sl 9 false) RdL.nil)) RdBL.nil)), 2, R_machine_line_operands_1_v2, fun a b => run_machine_line_operands_1_v2 (.start b.1.1 b.1.2.1 b.1.2.2.1 b.1.2.2.2.1 b.1.2.2.2.2.1 b.1.2.2.2.2.2.1 b.1.2.2.2.2.2.2.1 b.1.2.2.2.2.2.2.2.1 b.2.1.1), res_machine_line_operands_1_v2.av, res_machine_line_operands_1_v2.bx⟩
theorem con_machine_line_operands_1_v2_ok : con_machine_line_operands_1_v2.Ok := fun a b r h => fn_ok (fn := Tryz.f181) (code := code_machine_line_operands_1_v2) E_ok (by kernel_rfl) (by kernel_rfl) (by kernel_rfl) (Nat.le_of_ble_eq_true rfl) (good_machine_line_operands_1_v2 (.start b.1.1 b.1.2.1 b.1.2.2.1 b.1.2.2.2.1 b.1.2.2.2.2.1 b.1.2.2.2.2.2.1 b.1.2.2.2.2.2.2.1 b.1.2.2.2.2.2.2.2.1 b.2.1.1) r h)

/-! ### (*ratchet/machine.line).operands -/
inductive P_machine_line_operands where
 | start (f1_0 : ByteArray) (f1_1 : Bool) (f1_2 : Bool) (f1_3 : Bool) (words2 : (List ByteArray)) (B0_0 : Int) (B0_1 : Int) (B0_2 : Int) (B0_3 : Int) (B0_4 : ByteArray) (B0_5 : ByteArray) (B0_6 : Bool) (B0_7 : Bool)
 | p15 (B0_0 : Int) (B0_1 : Int) (B0_2 : Int) (B0_3 : Int) (B0_4 : ByteArray) (B0_5 : ByteArray) (B0_6 : Bool) (B0_7 : Bool) (B1_0 : ByteArray) (B1_1 : Bool) (B1_2 : Bool) (B1_3 : Bool) (B2 : (List ByteArray))
 | p61 (s53 : Bool) (B0_0 : Int) (B0_1 : Int) (B0_2 : Int) (B0_3 : Int) (B0_4 : ByteArray) (B0_5 : ByteArray) (B0_6 : Bool) (B0_7 : Bool) (B1_0 : ByteArray) (B1_1 : Bool) (B1_2 : Bool) (B1_3 : Bool) (B2 : (List ByteArray))
noncomputable def place_machine_line_operands : P_machine_line_operands → List Bool
 | .start .. => []
 | .p15 .. => [true, true, true]
 | .p61 .. => [true, false, true, true, true]
noncomputable def st_machine_line_operands : P_machine_line_operands → St E.S
 | .start f1_0 f1_1 f1_2 f1_3 words2 B0_0 B0_1 B0_2 B0_3 B0_4 B0_5 B0_6 B0_7 => st0 79 [.bp 0 0, .agg [.v (.string f1_0), .v (.bool f1_1), .v (.bool f1_2), .v (.bool f1_3)], .sl 9 words2 false] [.var 157 [.v (.int .i64 B0_0), .v (.int .i64 B0_1), .v (.int .i64 B0_2), .v (.int .i64 B0_3), .v (.string B0_4), .v (.string B0_5), .v (.bool B0_6), .v (.bool B0_7)]]
 | .p15 B0_0 B0_1 B0_2 B0_3 B0_4 B0_5 B0_6 B0_7 B1_0 B1_1 B1_2 B1_3 B2 => mkSt 79 [0, 4, 5, 7] [.bp 0 0, .bp 1 0, .bp 2 0, .fn 181 [.bp 2 0]] [.var 157 [.v (.int .i64 B0_0), .v (.int .i64 B0_1), .v (.int .i64 B0_2), .v (.int .i64 B0_3), .v (.string B0_4), .v (.string B0_5), .v (.bool B0_6), .v (.bool B0_7)], .var 166 [.v (.string B1_0), .v (.bool B1_1), .v (.bool B1_2), .v (.bool B1_3)], .var 79 [.sl 9 B2 false]]
 | .p61 s53 B0_0 B0_1 B0_2 B0_3 B0_4 B0_5 B0_6 B0_7 B1_0 B1_1 B1_2 B1_3 B2 => mkSt 79 [0, 4, 5, 7, 53] [.bp 0 0, .bp 1 0, .bp 2 0, .fn 181 [.bp 2 0], .v (.bool s53)] [.var 157 [.v (.int .i64 B0_0), .v (.int .i64 B0_1), .v (.int .i64 B0_2), .v (.int .i64 B0_3), .v (.string B0_4), .v (.string B0_5), .v (.bool B0_6), .v (.bool B0_7)], .var 166 [.v (.string B1_0), .v (.bool B1_1), .v (.bool B1_2), .v (.bool B1_3)], .var 79 [.sl 9 B2 false]]
abbrev R_machine_line_operands : Type := ((Bool × Unit) × ((Int × (Int × (Int × (Int × (ByteArray × (ByteArray × (Bool × (Bool × Unit)))))))) × Unit))
noncomputable def res_machine_line_operands : Res E (Bool × Unit) ((Int × (Int × (Int × (Int × (ByteArray × (ByteArray × (Bool × (Bool × Unit)))))))) × Unit) := { rows := [], flat := [], keep := 1, done := [0], rl := (RdL.cons Rd.bool RdL.nil), rb := (RdBL.cons (RdB.var 157 (RdL.cons (Rd.int .i64) (RdL.cons (Rd.int .i64) (RdL.cons (Rd.int .i64) (RdL.cons (Rd.int .i64) (RdL.cons Rd.str (RdL.cons Rd.str (RdL.cons Rd.bool (RdL.cons Rd.bool RdL.nil))))))))) RdBL.nil) }
noncomputable def run_machine_line_operands : P_machine_line_operands → Option R_machine_line_operands
 | .start f1_0 f1_1 f1_2 f1_3 words2 B0_0 B0_1 B0_2 B0_3 B0_4 B0_5 B0_6 B0_7 =>
   if f1_1 = true then
     (run_machine_line_operands_1 (.start B0_0 B0_1 B0_2 B0_3 B0_4 B0_5 B0_6 B0_7 words2)) >>= fun t1 =>
     if (!t1.1.1) = true then
       some ((false, ()), ((t1.2.1.1, (t1.2.1.2.1, (t1.2.1.2.2.1, (t1.2.1.2.2.2.1, (t1.2.1.2.2.2.2.1, (t1.2.1.2.2.2.2.2.1, (t1.2.1.2.2.2.2.2.2.1, (t1.2.1.2.2.2.2.2.2.2.1, ())))))))), ()))
     else
       if f1_2 = true then
         (run_machine_line_operands_1_v1 (.start t1.2.1.1 t1.2.1.2.1 t1.2.1.2.2.1 t1.2.1.2.2.2.1 t1.2.1.2.2.2.2.1 t1.2.1.2.2.2.2.2.1 t1.2.1.2.2.2.2.2.2.1 t1.2.1.2.2.2.2.2.2.2.1 t1.2.2.1.1)) >>= fun t2 =>
         if (!t2.1.1) = true then
           some ((false, ()), ((t2.2.1.1, (t2.2.1.2.1, (t2.2.1.2.2.1, (t2.2.1.2.2.2.1, (t2.2.1.2.2.2.2.1, (t2.2.1.2.2.2.2.2.1, (t2.2.1.2.2.2.2.2.2.1, (t2.2.1.2.2.2.2.2.2.2.1, ())))))))), ()))
         else
           run_machine_line_operands (.p15 t2.2.1.1 t2.2.1.2.1 t2.2.1.2.2.1 t2.2.1.2.2.2.1 t2.2.1.2.2.2.2.1 t2.2.1.2.2.2.2.2.1 t2.2.1.2.2.2.2.2.2.1 t2.2.1.2.2.2.2.2.2.2.1 f1_0 f1_1 f1_2 f1_3 t2.2.2.1.1)
       else
         run_machine_line_operands (.p15 t1.2.1.1 t1.2.1.2.1 t1.2.1.2.2.1 t1.2.1.2.2.2.1 t1.2.1.2.2.2.2.1 t1.2.1.2.2.2.2.2.1 t1.2.1.2.2.2.2.2.2.1 t1.2.1.2.2.2.2.2.2.2.1 f1_0 f1_1 f1_2 f1_3 t1.2.2.1.1)
   else
     if f1_2 = true then
       (run_machine_line_operands_1_v1 (.start B0_0 B0_1 B0_2 B0_3 B0_4 B0_5 B0_6 B0_7 words2)) >>= fun t3 =>
       if (!t3.1.1) = true then
         some ((false, ()), ((t3.2.1.1, (t3.2.1.2.1, (t3.2.1.2.2.1, (t3.2.1.2.2.2.1, (t3.2.1.2.2.2.2.1, (t3.2.1.2.2.2.2.2.1, (t3.2.1.2.2.2.2.2.2.1, (t3.2.1.2.2.2.2.2.2.2.1, ())))))))), ()))
       else
         run_machine_line_operands (.p15 t3.2.1.1 t3.2.1.2.1 t3.2.1.2.2.1 t3.2.1.2.2.2.1 t3.2.1.2.2.2.2.1 t3.2.1.2.2.2.2.2.1 t3.2.1.2.2.2.2.2.2.1 t3.2.1.2.2.2.2.2.2.2.1 f1_0 f1_1 f1_2 f1_3 t3.2.2.1.1)
     else
       run_machine_line_operands (.p15 B0_0 B0_1 B0_2 B0_3 B0_4 B0_5 B0_6 B0_7 f1_0 f1_1 f1_2 f1_3 words2)
 | .p15 B0_0 B0_1 B0_2 B0_3 B0_4 B0_5 B0_6 B0_7 B1_0 B1_1 B1_2 B1_3 B2 =>
   if B1_3 = true then
     (run_machine_jumps (.start B0_0)) >>= fun t1 =>
     if t1.1.1 = true then
       if (decide ((List.length B2 : Int) > (0 : Int))) = true then
         (idx B2 (0 : Int)) >>= fun t2 =>
         (run_machine_isName (.start t2)) >>= fun t3 =>
         run_machine_line_operands (.p61 t3.1.1 B0_0 B0_1 B0_2 B0_3 B0_4 B0_5 B0_6 B0_7 B1_0 B1_1 B1_2 B1_3 B2)
       else
         run_machine_line_operands (.p61 false B0_0 B0_1 B0_2 B0_3 B0_4 B0_5 B0_6 B0_7 B1_0 B1_1 B1_2 B1_3 B2)
     else
       run_machine_line_operands (.p61 false B0_0 B0_1 B0_2 B0_3 B0_4 B0_5 B0_6 B0_7 B1_0 B1_1 B1_2 B1_3 B2)
   else
     run_machine_line_operands (.p61 false B0_0 B0_1 B0_2 B0_3 B0_4 B0_5 B0_6 B0_7 B1_0 B1_1 B1_2 B1_3 B2)
 | .p61 s53 B0_0 B0_1 B0_2 B0_3 B0_4 B0_5 B0_6 B0_7 B1_0 B1_1 B1_2 B1_3 B2 =>
   if s53 = true then
     (idx B2 (0 : Int)) >>= fun t1 =>
     (span (List.length B2) (1 : Int) (List.length B2 : Int)) >>= fun t2 =>
     some (((List.length (cut B2 t2) : Int) == (0 : Int), ()), ((B0_0, (B0_1, (B0_2, (B0_3, (t1, (B0_5, (true, (B0_7, ())))))))), ()))
   else
     if B1_3 = true then
       (run_machine_line_operands_1_v2 (.start B0_0 B0_1 B0_2 B0_3 B0_4 B0_5 B0_6 B0_7 B2)) >>= fun t3 =>
       if (!t3.1.1) = true then
         some ((false, ()), ((t3.2.1.1, (t3.2.1.2.1, (t3.2.1.2.2.1, (t3.2.1.2.2.2.1, (t3.2.1.2.2.2.2.1, (t3.2.1.2.2.2.2.2.1, (t3.2.1.2.2.2.2.2.2.1, (t3.2.1.2.2.2.2.2.2.2.1, ())))))))), ()))
       else
         some (((List.length t3.2.2.1.1 : Int) == (0 : Int), ()), ((t3.2.1.1, (t3.2.1.2.1, (t3.2.1.2.2.1, (t3.2.1.2.2.2.1, (t3.2.1.2.2.2.2.1, (t3.2.1.2.2.2.2.2.1, (t3.2.1.2.2.2.2.2.2.1, (t3.2.1.2.2.2.2.2.2.2.1, ())))))))), ()))
     else
       some (((List.length B2 : Int) == (0 : Int), ()), ((B0_0, (B0_1, (B0_2, (B0_3, (B0_4, (B0_5, (B0_6, (B0_7, ())))))))), ()))
  partial_fixpoint
noncomputable def tab_machine_line_operands : List (Plc E P_machine_line_operands) := [⟨15, [true, true, true], { slots := [0, 4, 5, 7], rows := [], flat := [], keep := 1 }, (Unit × (Unit × (Unit × ((Unit × Unit) × Unit)))), ((Int × (Int × (Int × (Int × (ByteArray × (ByteArray × (Bool × (Bool × Unit)))))))) × ((ByteArray × (Bool × (Bool × (Bool × Unit)))) × (((List ByteArray) × Unit) × Unit))), (RdL.cons (Rd.bp 0 0) (RdL.cons (Rd.bp 1 0) (RdL.cons (Rd.bp 2 0) (RdL.cons (Rd.fn 181 (RdL.cons (Rd.bp 2 0) RdL.nil)) RdL.nil)))), (RdBL.cons (RdB.var 157 (RdL.cons (Rd.int .i64) (RdL.cons (Rd.int .i64) (RdL.cons (Rd.int .i64) (RdL.cons (Rd.int .i64) (RdL.cons Rd.str (RdL.cons Rd.str (RdL.cons Rd.bool (RdL.cons Rd.bool RdL.nil))))))))) (RdBL.cons (RdB.var 166 (RdL.cons Rd.str (RdL.cons Rd.bool (RdL.cons Rd.bool (RdL.cons Rd.bool RdL.nil))))) (RdBL.cons (RdB.var 79 (RdL.cons (Rd.sl 9 false) RdL.nil)) RdBL.nil))), fun a b => .p15 b.1.1 b.1.2.1 b.1.2.2.1 b.1.2.2.2.1 b.1.2.2.2.2.1 b.1.2.2.2.2.2.1 b.1.2.2.2.2.2.2.1 b.1.2.2.2.2.2.2.2.1 b.2.1.1 b.2.1.2.1 b.2.1.2.2.1 b.2.1.2.2.2.1 b.2.2.1.1⟩,
  ⟨61, [true, false, true, true, true], { slots := [0, 4, 5, 7, 53], rows := [], flat := [], keep := 1 }, (Unit × (Unit × (Unit × ((Unit × Unit) × (Bool × Unit))))), ((Int × (Int × (Int × (Int × (ByteArray × (ByteArray × (Bool × (Bool × Unit)))))))) × ((ByteArray × (Bool × (Bool × (Bool × Unit)))) × (((List ByteArray) × Unit) × Unit))), (RdL.cons (Rd.bp 0 0) (RdL.cons (Rd.bp 1 0) (RdL.cons (Rd.bp 2 0) (RdL.cons (Rd.fn 181 (RdL.cons (Rd.bp 2 0) RdL.nil)) (RdL.cons Rd.bool RdL.nil))))), (RdBL.cons (RdB.var 157 (RdL.cons (Rd.int .i64) (RdL.cons (Rd.int .i64) (RdL.cons (Rd.int .i64) (RdL.cons (Rd.int .i64) (RdL.cons Rd.str (RdL.cons Rd.str (RdL.cons Rd.bool (RdL.cons Rd.bool RdL.nil))))))))) (RdBL.cons (RdB.var 166 (RdL.cons Rd.str (RdL.cons Rd.bool (RdL.cons Rd.bool (RdL.cons Rd.bool RdL.nil))))) (RdBL.cons (RdB.var 79 (RdL.cons (Rd.sl 9 false) RdL.nil)) RdBL.nil))), fun a b => .p61 a.2.2.2.2.1 b.1.1 b.1.2.1 b.1.2.2.1 b.1.2.2.2.1 b.1.2.2.2.2.1 b.1.2.2.2.2.2.1 b.1.2.2.2.2.2.2.1 b.1.2.2.2.2.2.2.2.1 b.2.1.1 b.2.1.2.1 b.2.1.2.2.1 b.2.1.2.2.2.1 b.2.2.1.1⟩]
theorem tab_machine_line_operands_ok : All (PlcOk 79 1 place_machine_line_operands st_machine_line_operands) tab_machine_line_operands := ⟨⟨rfl, rfl, fun _ _ => rfl, fun _ _ => rfl⟩, ⟨⟨rfl, rfl, fun _ _ => rfl, fun _ _ => rfl⟩, trivial⟩⟩
noncomputable def code_machine_line_operands : Code := Tryz.f150.body.getD .skip
noncomputable def spec_machine_line_operands : Spec E.S := (Con.add con_machine_line_operands_1_v2 (Con.add con_machine_isName (Con.add con_machine_jumps (Con.add con_machine_line_operands_1_v1 (Con.add con_machine_line_operands_1 noSpec)))))
theorem spec_machine_line_operands_ok : SpecOk E spec_machine_line_operands := (Con.add_ok con_machine_line_operands_1_v2_ok (Con.add_ok con_machine_isName_ok (Con.add_ok con_machine_jumps_ok (Con.add_ok con_machine_line_operands_1_v1_ok (Con.add_ok con_machine_line_operands_1_ok noSpec_ok)))))
theorem good_machine_line_operands : ∀ pt r, run_machine_line_operands pt = some r → Good E Tryz.f150 code_machine_line_operands 1 (res_machine_line_operands.av r) (res_machine_line_operands.bx r) (place_machine_line_operands pt) (st_machine_line_operands pt) := by
  refine run_machine_line_operands.partial_correctness (fun pt r => Good E Tryz.f150 code_machine_line_operands 1 (res_machine_line_operands.av r) (res_machine_line_operands.bx r) (place_machine_line_operands pt) (st_machine_line_operands pt)) ?_
  intro run' ih pt r hr
  cases pt <;> exact fn_step (spec := spec_machine_line_operands) (wr := (mkWr [] [])) (l := tab_machine_line_operands) (z := 79) (p := res_machine_line_operands) E_ok tab_machine_line_operands_ok.mem rfl spec_machine_line_operands_ok ih (Eq.trans (by kernel_rfl) hr)
noncomputable def con_machine_line_operands : Con E := ⟨150, (Unit × ((ByteArray × (Bool × (Bool × (Bool × Unit)))) × ((List ByteArray) × Unit))), ((Int × (Int × (Int × (Int × (ByteArray × (ByteArray × (Bool × (Bool × Unit)))))))) × Unit), (RwL.cons (Rd.bp 0 0).w (RwL.cons (Rw.agg (RwL.cons Rd.str.w (RwL.cons Rd.bool.w (RwL.cons Rd.bool.w (RwL.cons Rd.bool.w RwL.nil))))) (RwL.cons (Rw.sl 9) RwL.nil))), (RdBL.cons (RdB.var 157 (RdL.cons (Rd.int .i64) (RdL.cons (Rd.int .i64) (RdL.cons (Rd.int .i64) (RdL.cons (Rd.int .i64) (RdL.cons Rd.str (RdL.cons Rd.str (RdL.cons Rd.bool (RdL.cons Rd.bool RdL.nil))))))))) RdBL.nil), 1, R_machine_line_operands, fun a b => run_machine_line_operands (.start a.2.1.1 a.2.1.2.1 a.2.1.2.2.1 a.2.1.2.2.2.1 a.2.2.1 b.1.1 b.1.2.1 b.1.2.2.1 b.1.2.2.2.1 b.1.2.2.2.2.1 b.1.2.2.2.2.2.1 b.1.2.2.2.2.2.2.1 b.1.2.2.2.2.2.2.2.1), res_machine_line_operands.av, res_machine_line_operands.bx⟩
theorem con_machine_line_operands_ok : con_machine_line_operands.Ok := fun a b r h => fn_ok (fn := Tryz.f150) (code := code_machine_line_operands) E_ok (by kernel_rfl) (by kernel_rfl) (by kernel_rfl) (Nat.le_of_ble_eq_true rfl) (good_machine_line_operands (.start a.2.1.1 a.2.1.2.1 a.2.1.2.2.1 a.2.1.2.2.2.1 a.2.2.1 b.1.1 b.1.2.1 b.1.2.2.1 b.1.2.2.2.1 b.1.2.2.2.2.1 b.1.2.2.2.2.2.1 b.1.2.2.2.2.2.2.1 b.1.2.2.2.2.2.2.2.1) r h)

/-! ### ratchet/machine.lineOf -/
inductive P_machine_lineOf where
 | start (s0 : ByteArray)
 | p31 (B0_0 : Int) (B0_1 : Int) (B0_2 : Int) (B0_3 : Int) (B0_4 : ByteArray) (B0_5 : ByteArray) (B0_6 : Bool) (B0_7 : Bool) (B1_0 : Int) (B1_1 : Int) (B1_2 : Int) (B1_3 : Int) (B1_4 : ByteArray) (B1_5 : ByteArray) (B1_6 : Bool) (B1_7 : Bool) (B2 : (List ByteArray))
noncomputable def place_machine_lineOf : P_machine_lineOf → List Bool
 | .start .. => []
 | .p31 .. => [true, true, true, true]
noncomputable def st_machine_lineOf : P_machine_lineOf → St E.S
 | .start s0 => st0 46 [.v (.string s0)] []
 | .p31 B0_0 B0_1 B0_2 B0_3 B0_4 B0_5 B0_6 B0_7 B1_0 B1_1 B1_2 B1_3 B1_4 B1_5 B1_6 B1_7 B2 => mkSt 46 [2, 4, 5] [.bp 0 0, .bp 1 0, .bp 2 0] [.var 157 [.v (.int .i64 B0_0), .v (.int .i64 B0_1), .v (.int .i64 B0_2), .v (.int .i64 B0_3), .v (.string B0_4), .v (.string B0_5), .v (.bool B0_6), .v (.bool B0_7)], .var 157 [.v (.int .i64 B1_0), .v (.int .i64 B1_1), .v (.int .i64 B1_2), .v (.int .i64 B1_3), .v (.string B1_4), .v (.string B1_5), .v (.bool B1_6), .v (.bool B1_7)], .var 79 [.sl 9 B2 false]]
abbrev R_machine_lineOf : Type := (((Int × (Int × (Int × (Int × (ByteArray × (ByteArray × (Bool × (Bool × Unit)))))))) × (Bool × Unit)) × Unit)
noncomputable def res_machine_lineOf : Res E ((Int × (Int × (Int × (Int × (ByteArray × (ByteArray × (Bool × (Bool × Unit)))))))) × (Bool × Unit)) Unit := { rows := [], flat := [], keep := 0, done := [0, 1], rl := (RdL.cons (Rd.agg (RdL.cons (Rd.int .i64) (RdL.cons (Rd.int .i64) (RdL.cons (Rd.int .i64) (RdL.cons (Rd.int .i64) (RdL.cons Rd.str (RdL.cons Rd.str (RdL.cons Rd.bool (RdL.cons Rd.bool RdL.nil))))))))) (RdL.cons Rd.bool RdL.nil)), rb := RdBL.nil }
noncomputable def run_machine_lineOf : P_machine_lineOf → Option R_machine_lineOf
 | .start s0 =>
   (splitRun (s0, (⟨#[32]⟩ : ByteArray), ()) ()) >>= fun t1 =>
   (idx t1.1.1 (0 : Int)) >>= fun t2 =>
   (run_strings_CutSuffix (.start t2 (⟨#[58]⟩ : ByteArray))) >>= fun t3 =>
   if t3.1.2.1 = true then
     (span (List.length t1.1.1) (1 : Int) (List.length t1.1.1 : Int)) >>= fun t4 =>
     run_machine_lineOf (.p31 (0 : Int) (0 : Int) (0 : Int) (0 : Int) (⟨#[]⟩ : ByteArray) (⟨#[]⟩ : ByteArray) false false (0 : Int) (0 : Int) (0 : Int) (0 : Int) (⟨#[]⟩ : ByteArray) t3.1.1 false true (cut t1.1.1 t4))
   else
     run_machine_lineOf (.p31 (0 : Int) (0 : Int) (0 : Int) (0 : Int) (⟨#[]⟩ : ByteArray) (⟨#[]⟩ : ByteArray) false false (0 : Int) (0 : Int) (0 : Int) (0 : Int) (⟨#[]⟩ : ByteArray) (⟨#[]⟩ : ByteArray) false false t1.1.1)
 | .p31 B0_0 B0_1 B0_2 B0_3 B0_4 B0_5 B0_6 B0_7 B1_0 B1_1 B1_2 B1_3 B1_4 B1_5 B1_6 B1_7 B2 =>
   if ((List.length B2 : Int) == (0 : Int)) = true then
     some (((B1_0, (B1_1, (B1_2, (B1_3, (B1_4, (B1_5, (B1_6, (B1_7, ())))))))), (false, ())), ())
   else
     (span (List.length glob0) (0 : Int) (List.length glob0 : Int)) >>= fun t1 =>
     (run_slices_IndexFunc_machine_form_machine_form (.start (cut glob0 t1) B2)) >>= fun t2 =>
     if (decide (t2.1.1 < (0 : Int))) = true then
       some (((B1_0, (B1_1, (B1_2, (B1_3, (B1_4, (B1_5, (B1_6, (B1_7, ())))))))), (false, ())), ())
     else
       (idx glob0 t2.1.1) >>= fun t3 =>
       (span (List.length t2.2.1.1) (1 : Int) (List.length t2.2.1.1 : Int)) >>= fun t4 =>
       (run_machine_line_operands (.start t3.name t3.a t3.b t3.n (cut t2.2.1.1 t4) t2.1.1 B1_1 B1_2 B1_3 B1_4 B1_5 B1_6 B1_7)) >>= fun t5 =>
       some (((t5.2.1.1, (t5.2.1.2.1, (t5.2.1.2.2.1, (t5.2.1.2.2.2.1, (t5.2.1.2.2.2.2.1, (t5.2.1.2.2.2.2.2.1, (t5.2.1.2.2.2.2.2.2.1, (t5.2.1.2.2.2.2.2.2.2.1, ())))))))), (t5.1.1, ())), ())
  partial_fixpoint
noncomputable def tab_machine_lineOf : List (Plc E P_machine_lineOf) := [⟨31, [true, true, true, true], { slots := [2, 4, 5], rows := [], flat := [], keep := 0, deep := [(false, 5, 0, 9)], done := [5] }, (Unit × (Unit × (Unit × Unit))), ((Int × (Int × (Int × (Int × (ByteArray × (ByteArray × (Bool × (Bool × Unit)))))))) × ((Int × (Int × (Int × (Int × (ByteArray × (ByteArray × (Bool × (Bool × Unit)))))))) × (((List ByteArray) × Unit) × Unit))), (RdL.cons (Rd.bp 0 0) (RdL.cons (Rd.bp 1 0) (RdL.cons (Rd.bp 2 0) RdL.nil))), (RdBL.cons (RdB.var 157 (RdL.cons (Rd.int .i64) (RdL.cons (Rd.int .i64) (RdL.cons (Rd.int .i64) (RdL.cons (Rd.int .i64) (RdL.cons Rd.str (RdL.cons Rd.str (RdL.cons Rd.bool (RdL.cons Rd.bool RdL.nil))))))))) (RdBL.cons (RdB.var 157 (RdL.cons (Rd.int .i64) (RdL.cons (Rd.int .i64) (RdL.cons (Rd.int .i64) (RdL.cons (Rd.int .i64) (RdL.cons Rd.str (RdL.cons Rd.str (RdL.cons Rd.bool (RdL.cons Rd.bool RdL.nil))))))))) (RdBL.cons (RdB.var 79 (RdL.cons (Rd.sl 9 false) RdL.nil)) RdBL.nil))), fun a b => .p31 b.1.1 b.1.2.1 b.1.2.2.1 b.1.2.2.2.1 b.1.2.2.2.2.1 b.1.2.2.2.2.2.1 b.1.2.2.2.2.2.2.1 b.1.2.2.2.2.2.2.2.1 b.2.1.1 b.2.1.2.1 b.2.1.2.2.1 b.2.1.2.2.2.1 b.2.1.2.2.2.2.1 b.2.1.2.2.2.2.2.1 b.2.1.2.2.2.2.2.2.1 b.2.1.2.2.2.2.2.2.2.1 b.2.2.1.1⟩]
theorem tab_machine_lineOf_ok : All (PlcOk 46 0 place_machine_lineOf st_machine_lineOf) tab_machine_lineOf := ⟨⟨rfl, rfl, fun _ _ => rfl, fun _ _ => rfl⟩, trivial⟩
noncomputable def code_machine_lineOf : Code := Tryz.f98.body.getD .skip
noncomputable def spec_machine_lineOf : Spec E.S := (Con.add con_machine_line_operands (Con.add con_slices_IndexFunc_machine_form_machine_form (Con.add con_strings_CutSuffix (Con.add con_strings_Split noSpec))))
theorem spec_machine_lineOf_ok : SpecOk E spec_machine_lineOf := (Con.add_ok con_machine_line_operands_ok (Con.add_ok con_slices_IndexFunc_machine_form_machine_form_ok (Con.add_ok con_strings_CutSuffix_ok (Con.add_ok con_strings_Split_ok noSpec_ok))))
theorem good_machine_lineOf : ∀ pt r, run_machine_lineOf pt = some r → Good E Tryz.f98 code_machine_lineOf 0 (res_machine_lineOf.av r) (res_machine_lineOf.bx r) (place_machine_lineOf pt) (st_machine_lineOf pt) := by
  refine run_machine_lineOf.partial_correctness (fun pt r => Good E Tryz.f98 code_machine_lineOf 0 (res_machine_lineOf.av r) (res_machine_lineOf.bx r) (place_machine_lineOf pt) (st_machine_lineOf pt)) ?_
  intro run' ih pt r hr
  cases pt <;> exact fn_step (spec := spec_machine_lineOf) (wr := (mkWr [] [])) (l := tab_machine_lineOf) (z := 46) (p := res_machine_lineOf) E_ok tab_machine_lineOf_ok.mem rfl spec_machine_lineOf_ok ih (Eq.trans (by kernel_rfl) hr)
noncomputable def con_machine_lineOf : Con E := ⟨98, (ByteArray × Unit), Unit, (RwL.cons Rd.str.w RwL.nil), RdBL.nil, 0, R_machine_lineOf, fun a b => run_machine_lineOf (.start a.1), res_machine_lineOf.av, res_machine_lineOf.bx⟩
theorem con_machine_lineOf_ok : con_machine_lineOf.Ok := fun a b r h => fn_ok (fn := Tryz.f98) (code := code_machine_lineOf) E_ok (by kernel_rfl) (by kernel_rfl) (by kernel_rfl) (Nat.le_of_ble_eq_true rfl) (good_machine_lineOf (.start a.1) r h)

/-! ### ratchet/machine.unless -/
inductive P_machine_unless where
 | start (right0 : Bool) (e1 : Int)
noncomputable def place_machine_unless : P_machine_unless → List Bool
 | .start .. => []
noncomputable def st_machine_unless : P_machine_unless → St E.S
 | .start right0 e1 => st0 7 [.v (.bool right0), .v (.int .i64 e1)] []
abbrev R_machine_unless : Type := ((Int × Unit) × Unit)
noncomputable def res_machine_unless : Res E (Int × Unit) Unit := { rows := [], flat := [], keep := 0, done := [0], rl := (RdL.cons (Rd.int .i64) RdL.nil), rb := RdBL.nil }
noncomputable def run_machine_unless : P_machine_unless → Option R_machine_unless
 | .start right0 e1 =>
   if right0 = true then
     some (((0 : Int), ()), ())
   else
     some ((e1, ()), ())
noncomputable def tab_machine_unless : List (Plc E P_machine_unless) := []
theorem tab_machine_unless_ok : All (PlcOk 7 0 place_machine_unless st_machine_unless) tab_machine_unless := trivial
noncomputable def code_machine_unless : Code := Tryz.f99.body.getD .skip
noncomputable def spec_machine_unless : Spec E.S := noSpec
theorem spec_machine_unless_ok : SpecOk E spec_machine_unless := noSpec_ok
theorem good_machine_unless : ∀ pt r, run_machine_unless pt = some r → Good E Tryz.f99 code_machine_unless 0 (res_machine_unless.av r) (res_machine_unless.bx r) (place_machine_unless pt) (st_machine_unless pt) := by
  intro pt r hr
  cases pt <;> exact fn_step (spec := spec_machine_unless) (wr := (mkWr [] [])) (l := tab_machine_unless) (z := 7) (p := res_machine_unless) (run' := fun _ => none) E_ok tab_machine_unless_ok.mem rfl spec_machine_unless_ok (fun _ _ h => by cases h) (Eq.trans (by kernel_rfl) hr)
noncomputable def con_machine_unless : Con E := ⟨99, (Bool × (Int × Unit)), Unit, (RwL.cons Rd.bool.w (RwL.cons (Rd.int .i64).w RwL.nil)), RdBL.nil, 0, R_machine_unless, fun a b => run_machine_unless (.start a.1 a.2.1), res_machine_unless.av, res_machine_unless.bx⟩
theorem con_machine_unless_ok : con_machine_unless.Ok := fun a b r h => fn_ok (fn := Tryz.f99) (code := code_machine_unless) E_ok (by kernel_rfl) (by kernel_rfl) (by kernel_rfl) (Nat.le_of_ble_eq_true rfl) (good_machine_unless (.start a.1 a.2.1) r h)

/-! ### ratchet/machine.isPlace -/
inductive P_machine_isPlace where
 | start (n0 : Int)
noncomputable def place_machine_isPlace : P_machine_isPlace → List Bool
 | .start .. => []
noncomputable def st_machine_isPlace : P_machine_isPlace → St E.S
 | .start n0 => st0 5 [.v (.int .i64 n0)] []
abbrev R_machine_isPlace : Type := ((Bool × Unit) × Unit)
noncomputable def res_machine_isPlace : Res E (Bool × Unit) Unit := { rows := [], flat := [], keep := 0, done := [0], rl := (RdL.cons Rd.bool RdL.nil), rb := RdBL.nil }
noncomputable def run_machine_isPlace : P_machine_isPlace → Option R_machine_isPlace
 | .start n0 =>
   (run_machine_within (.start n0 (0 : Int) (15 : Int))) >>= fun t1 =>
   some ((t1.1.1, ()), ())
noncomputable def tab_machine_isPlace : List (Plc E P_machine_isPlace) := []
theorem tab_machine_isPlace_ok : All (PlcOk 5 0 place_machine_isPlace st_machine_isPlace) tab_machine_isPlace := trivial
noncomputable def code_machine_isPlace : Code := Tryz.f123.body.getD .skip
noncomputable def spec_machine_isPlace : Spec E.S := (Con.add con_machine_within noSpec)
theorem spec_machine_isPlace_ok : SpecOk E spec_machine_isPlace := (Con.add_ok con_machine_within_ok noSpec_ok)
theorem good_machine_isPlace : ∀ pt r, run_machine_isPlace pt = some r → Good E Tryz.f123 code_machine_isPlace 0 (res_machine_isPlace.av r) (res_machine_isPlace.bx r) (place_machine_isPlace pt) (st_machine_isPlace pt) := by
  intro pt r hr
  cases pt <;> exact fn_step (spec := spec_machine_isPlace) (wr := (mkWr [] [])) (l := tab_machine_isPlace) (z := 5) (p := res_machine_isPlace) (run' := fun _ => none) E_ok tab_machine_isPlace_ok.mem rfl spec_machine_isPlace_ok (fun _ _ h => by cases h) (Eq.trans (by kernel_rfl) hr)
noncomputable def con_machine_isPlace : Con E := ⟨123, (Int × Unit), Unit, (RwL.cons (Rd.int .i64).w RwL.nil), RdBL.nil, 0, R_machine_isPlace, fun a b => run_machine_isPlace (.start a.1), res_machine_isPlace.av, res_machine_isPlace.bx⟩
theorem con_machine_isPlace_ok : con_machine_isPlace.Ok := fun a b r h => fn_ok (fn := Tryz.f123) (code := code_machine_isPlace) E_ok (by kernel_rfl) (by kernel_rfl) (by kernel_rfl) (Nat.le_of_ble_eq_true rfl) (good_machine_isPlace (.start a.1) r h)

/-! ### ratchet/machine.isByte -/
inductive P_machine_isByte where
 | start (n0 : Int)
noncomputable def place_machine_isByte : P_machine_isByte → List Bool
 | .start .. => []
noncomputable def st_machine_isByte : P_machine_isByte → St E.S
 | .start n0 => st0 5 [.v (.int .i64 n0)] []
abbrev R_machine_isByte : Type := ((Bool × Unit) × Unit)
noncomputable def res_machine_isByte : Res E (Bool × Unit) Unit := { rows := [], flat := [], keep := 0, done := [0], rl := (RdL.cons Rd.bool RdL.nil), rb := RdBL.nil }
noncomputable def run_machine_isByte : P_machine_isByte → Option R_machine_isByte
 | .start n0 =>
   (run_machine_within (.start n0 (0 : Int) (255 : Int))) >>= fun t1 =>
   some ((t1.1.1, ()), ())
noncomputable def tab_machine_isByte : List (Plc E P_machine_isByte) := []
theorem tab_machine_isByte_ok : All (PlcOk 5 0 place_machine_isByte st_machine_isByte) tab_machine_isByte := trivial
noncomputable def code_machine_isByte : Code := Tryz.f152.body.getD .skip
noncomputable def spec_machine_isByte : Spec E.S := (Con.add con_machine_within noSpec)
theorem spec_machine_isByte_ok : SpecOk E spec_machine_isByte := (Con.add_ok con_machine_within_ok noSpec_ok)
theorem good_machine_isByte : ∀ pt r, run_machine_isByte pt = some r → Good E Tryz.f152 code_machine_isByte 0 (res_machine_isByte.av r) (res_machine_isByte.bx r) (place_machine_isByte pt) (st_machine_isByte pt) := by
  intro pt r hr
  cases pt <;> exact fn_step (spec := spec_machine_isByte) (wr := (mkWr [] [])) (l := tab_machine_isByte) (z := 5) (p := res_machine_isByte) (run' := fun _ => none) E_ok tab_machine_isByte_ok.mem rfl spec_machine_isByte_ok (fun _ _ h => by cases h) (Eq.trans (by kernel_rfl) hr)
noncomputable def con_machine_isByte : Con E := ⟨152, (Int × Unit), Unit, (RwL.cons (Rd.int .i64).w RwL.nil), RdBL.nil, 0, R_machine_isByte, fun a b => run_machine_isByte (.start a.1), res_machine_isByte.av, res_machine_isByte.bx⟩
theorem con_machine_isByte_ok : con_machine_isByte.Ok := fun a b r h => fn_ok (fn := Tryz.f152) (code := code_machine_isByte) E_ok (by kernel_rfl) (by kernel_rfl) (by kernel_rfl) (Nat.le_of_ble_eq_true rfl) (good_machine_isByte (.start a.1) r h)

/-! ### ratchet/machine.isNumber -/
inductive P_machine_isNumber where
 | start (op0 : Int) (n1 : Int)
noncomputable def place_machine_isNumber : P_machine_isNumber → List Bool
 | .start .. => []
noncomputable def st_machine_isNumber : P_machine_isNumber → St E.S
 | .start op0 n1 => st0 11 [.v (.int .i64 op0), .v (.int .i64 n1)] []
abbrev R_machine_isNumber : Type := ((Bool × Unit) × Unit)
noncomputable def res_machine_isNumber : Res E (Bool × Unit) Unit := { rows := [], flat := [], keep := 0, done := [0], rl := (RdL.cons Rd.bool RdL.nil), rb := RdBL.nil }
noncomputable def run_machine_isNumber : P_machine_isNumber → Option R_machine_isNumber
 | .start op0 n1 =>
   (run_machine_jumps (.start op0)) >>= fun t1 =>
   if t1.1.1 = true then
     (run_machine_isPlace (.start n1)) >>= fun t2 =>
     some ((t2.1.1, ()), ())
   else
     (run_machine_isByte (.start n1)) >>= fun t3 =>
     some ((t3.1.1, ()), ())
noncomputable def tab_machine_isNumber : List (Plc E P_machine_isNumber) := []
theorem tab_machine_isNumber_ok : All (PlcOk 11 0 place_machine_isNumber st_machine_isNumber) tab_machine_isNumber := trivial
noncomputable def code_machine_isNumber : Code := Tryz.f101.body.getD .skip
noncomputable def spec_machine_isNumber : Spec E.S := (Con.add con_machine_isByte (Con.add con_machine_isPlace (Con.add con_machine_jumps noSpec)))
theorem spec_machine_isNumber_ok : SpecOk E spec_machine_isNumber := (Con.add_ok con_machine_isByte_ok (Con.add_ok con_machine_isPlace_ok (Con.add_ok con_machine_jumps_ok noSpec_ok)))
theorem good_machine_isNumber : ∀ pt r, run_machine_isNumber pt = some r → Good E Tryz.f101 code_machine_isNumber 0 (res_machine_isNumber.av r) (res_machine_isNumber.bx r) (place_machine_isNumber pt) (st_machine_isNumber pt) := by
  intro pt r hr
  cases pt <;> exact fn_step (spec := spec_machine_isNumber) (wr := (mkWr [] [])) (l := tab_machine_isNumber) (z := 11) (p := res_machine_isNumber) (run' := fun _ => none) E_ok tab_machine_isNumber_ok.mem rfl spec_machine_isNumber_ok (fun _ _ h => by cases h) (Eq.trans (by kernel_rfl) hr)
noncomputable def con_machine_isNumber : Con E := ⟨101, (Int × (Int × Unit)), Unit, (RwL.cons (Rd.int .i64).w (RwL.cons (Rd.int .i64).w RwL.nil)), RdBL.nil, 0, R_machine_isNumber, fun a b => run_machine_isNumber (.start a.1 a.2.1), res_machine_isNumber.av, res_machine_isNumber.bx⟩
theorem con_machine_isNumber_ok : con_machine_isNumber.Ok := fun a b r h => fn_ok (fn := Tryz.f101) (code := code_machine_isNumber) E_ok (by kernel_rfl) (by kernel_rfl) (by kernel_rfl) (Nat.le_of_ble_eq_true rfl) (good_machine_isNumber (.start a.1 a.2.1) r h)

/-! ### ratchet/machine.first -/
inductive P_machine_first where
 | start (l0 : (List Int))
 | p52 (s5 : (List Int)) (s6 : Int) (s7 : Int)
noncomputable def place_machine_first : P_machine_first → List Bool
 | .start .. => []
 | .p52 .. => [false, false, true, false, true]
noncomputable def st_machine_first : P_machine_first → St E.S
 | .start l0 => st0 15 [.sl 28 l0 false] []
 | .p52 s5 s6 s7 => mkSt 15 [5, 6, 7] [.sl 28 s5 false, .v (.int .i64 s6), .v (.int .i64 s7)] []
abbrev R_machine_first : Type := ((Int × Unit) × Unit)
noncomputable def res_machine_first : Res E (Int × Unit) Unit := { rows := [], flat := [], keep := 0, done := [0], rl := (RdL.cons (Rd.int .i64) RdL.nil), rb := RdBL.nil }
noncomputable def run_machine_first : P_machine_first → Option R_machine_first
 | .start l0 =>
   run_machine_first (.p52 l0 (List.length l0 : Int) (0 : Int))
 | .p52 s5 s6 s7 =>
   if (decide (s7 < s6)) = true then
     (idx s5 s7) >>= fun t1 =>
     if (t1 != (0 : Int)) = true then
       some ((t1, ()), ())
     else
       run_machine_first (.p52 s5 s6 (IntKind.wrap .i64 (s7 + (1 : Int))))
   else
     some (((0 : Int), ()), ())
  partial_fixpoint
noncomputable def tab_machine_first : List (Plc E P_machine_first) := [⟨52, [false, false, true, false, true], { slots := [5, 6, 7], rows := [], flat := [], keep := 0 }, ((List Int) × (Int × (Int × Unit))), Unit, (RdL.cons (Rd.sl 28 false) (RdL.cons (Rd.int .i64) (RdL.cons (Rd.int .i64) RdL.nil))), RdBL.nil, fun a b => .p52 a.1 a.2.1 a.2.2.1⟩]
theorem tab_machine_first_ok : All (PlcOk 15 0 place_machine_first st_machine_first) tab_machine_first := ⟨⟨rfl, rfl, fun _ _ => rfl, fun _ _ => rfl⟩, trivial⟩
noncomputable def code_machine_first : Code := Tryz.f65.body.getD .skip
noncomputable def spec_machine_first : Spec E.S := noSpec
theorem spec_machine_first_ok : SpecOk E spec_machine_first := noSpec_ok
theorem good_machine_first : ∀ pt r, run_machine_first pt = some r → Good E Tryz.f65 code_machine_first 0 (res_machine_first.av r) (res_machine_first.bx r) (place_machine_first pt) (st_machine_first pt) := by
  refine run_machine_first.partial_correctness (fun pt r => Good E Tryz.f65 code_machine_first 0 (res_machine_first.av r) (res_machine_first.bx r) (place_machine_first pt) (st_machine_first pt)) ?_
  intro run' ih pt r hr
  cases pt <;> exact fn_step (spec := spec_machine_first) (wr := (mkWr [] [])) (l := tab_machine_first) (z := 15) (p := res_machine_first) E_ok tab_machine_first_ok.mem rfl spec_machine_first_ok ih (Eq.trans (by kernel_rfl) hr)
noncomputable def con_machine_first : Con E := ⟨65, ((List Int) × Unit), Unit, (RwL.cons (Rw.sl 28) RwL.nil), RdBL.nil, 0, R_machine_first, fun a b => run_machine_first (.start a.1), res_machine_first.av, res_machine_first.bx⟩
theorem con_machine_first_ok : con_machine_first.Ok := fun a b r h => fn_ok (fn := Tryz.f65) (code := code_machine_first) E_ok (by kernel_rfl) (by kernel_rfl) (by kernel_rfl) (Nat.le_of_ble_eq_true rfl) (good_machine_first (.start a.1) r h)

/-! ### ratchet/machine.Assembled$1 -/
inductive P_machine_Assembled_1 where
 | start (i0 : Int) (text1 : ByteArray) (B2 : (List (ByteArray × Int))) (B3 : (List machine_line))
 | p31 (i0 : Int) (e11 : Int) (B2 : (List (ByteArray × Int))) (B3_0 : Int) (B3_1 : Int) (B3_2 : Int) (B3_3 : Int) (B3_4 : ByteArray) (B3_5 : ByteArray) (B3_6 : Bool) (B3_7 : Bool) (B4 : (List machine_line))
 | p63 (e11 : Int) (B2 : (List (ByteArray × Int))) (B3_0 : Int) (B3_1 : Int) (B3_2 : Int) (B3_3 : Int) (B3_4 : ByteArray) (B3_5 : ByteArray) (B3_6 : Bool) (B3_7 : Bool) (B4 : (List machine_line))
noncomputable def place_machine_Assembled_1 : P_machine_Assembled_1 → List Bool
 | .start .. => []
 | .p31 .. => [true, true, true, true]
 | .p63 .. => [true, true, true, true, true]
noncomputable def st_machine_Assembled_1 : P_machine_Assembled_1 → St E.S
 | .start i0 text1 B2 B3 => st0 64 [.v (.int .i64 i0), .v (.string text1), .bp 0 0, .bp 1 0] [.var 153 [.rw 2], .var 154 [.rw 3], .mp .str 3 B2, .row 157 B3 false]
 | .p31 i0 e11 B2 B3_0 B3_1 B3_2 B3_3 B3_4 B3_5 B3_6 B3_7 B4 => mkSt 64 [0, 2, 3, 7, 11] [.v (.int .i64 i0), .bp 0 0, .bp 1 0, .bp 3 0, .v (.int .i64 e11)] [.var 153 [.rw 2], .var 154 [.rw 4], .mp .str 3 B2, .var 157 [.v (.int .i64 B3_0), .v (.int .i64 B3_1), .v (.int .i64 B3_2), .v (.int .i64 B3_3), .v (.string B3_4), .v (.string B3_5), .v (.bool B3_6), .v (.bool B3_7)], .row 157 B4 false]
 | .p63 e11 B2 B3_0 B3_1 B3_2 B3_3 B3_4 B3_5 B3_6 B3_7 B4 => mkSt 64 [3, 7, 11] [.bp 1 0, .bp 3 0, .v (.int .i64 e11)] [.var 153 [.rw 2], .var 154 [.rw 4], .mp .str 3 B2, .var 157 [.v (.int .i64 B3_0), .v (.int .i64 B3_1), .v (.int .i64 B3_2), .v (.int .i64 B3_3), .v (.string B3_4), .v (.string B3_5), .v (.bool B3_6), .v (.bool B3_7)], .row 157 B4 false]
abbrev R_machine_Assembled_1 : Type := ((Int × Unit) × ((Unit × Unit) × ((Unit × Unit) × ((List (ByteArray × Int)) × ((List machine_line) × Unit)))))
noncomputable def res_machine_Assembled_1 : Res E (Int × Unit) ((Unit × Unit) × ((Unit × Unit) × ((List (ByteArray × Int)) × ((List machine_line) × Unit)))) := { rows := [], flat := [], keep := 3, done := [0], rl := (RdL.cons (Rd.int .i64) RdL.nil), rb := (RdBL.cons (RdB.var 153 (RdL.cons (Rd.rw 2) RdL.nil)) (RdBL.cons (RdB.var 154 (RdL.cons (Rd.rw 3) RdL.nil)) (RdBL.cons (RdB.mp .str 3) (RdBL.cons (RdB.row 157 false) RdBL.nil)))) }
noncomputable def run_machine_Assembled_1 : P_machine_Assembled_1 → Option R_machine_Assembled_1
 | .start i0 text1 B2 B3 =>
   (run_machine_lineOf (.start text1)) >>= fun t1 =>
   (run_machine_unless (.start t1.1.2.1 (7 : Int))) >>= fun t2 =>
   if (!t1.1.1.2.2.2.2.2.2.2.1) = true then
     (run_machine_unless (.start true (4 : Int))) >>= fun t3 =>
     if (!t1.1.1.2.2.2.2.2.2.2.1) = true then
       (run_machine_unless (.start true (5 : Int))) >>= fun t4 =>
       (run_machine_isNumber (.start t1.1.1.1 t1.1.1.2.2.2.1)) >>= fun t5 =>
       (run_machine_unless (.start t5.1.1 (2 : Int))) >>= fun t6 =>
       (run_machine_first (.start ([t2.1.1, t3.1.1, t4.1.1, t6.1.1] : List Int))) >>= fun t7 =>
       run_machine_Assembled_1 (.p31 i0 t7.1.1 B2 t1.1.1.1 t1.1.1.2.1 t1.1.1.2.2.1 t1.1.1.2.2.2.1 t1.1.1.2.2.2.2.1 t1.1.1.2.2.2.2.2.1 t1.1.1.2.2.2.2.2.2.1 t1.1.1.2.2.2.2.2.2.2.1 B3)
     else
       (run_machine_unless (.start (!(Option.isSome (aget seq B2 t1.1.1.2.2.2.2.2.1))) (5 : Int))) >>= fun t8 =>
       (run_machine_isNumber (.start t1.1.1.1 t1.1.1.2.2.2.1)) >>= fun t9 =>
       (run_machine_unless (.start t9.1.1 (2 : Int))) >>= fun t10 =>
       (run_machine_first (.start ([t2.1.1, t3.1.1, t8.1.1, t10.1.1] : List Int))) >>= fun t11 =>
       run_machine_Assembled_1 (.p31 i0 t11.1.1 B2 t1.1.1.1 t1.1.1.2.1 t1.1.1.2.2.1 t1.1.1.2.2.2.1 t1.1.1.2.2.2.2.1 t1.1.1.2.2.2.2.2.1 t1.1.1.2.2.2.2.2.2.1 t1.1.1.2.2.2.2.2.2.2.1 B3)
   else
     (run_machine_isName (.start t1.1.1.2.2.2.2.2.1)) >>= fun t12 =>
     (run_machine_unless (.start t12.1.1 (4 : Int))) >>= fun t13 =>
     if (!t1.1.1.2.2.2.2.2.2.2.1) = true then
       (run_machine_unless (.start true (5 : Int))) >>= fun t14 =>
       (run_machine_isNumber (.start t1.1.1.1 t1.1.1.2.2.2.1)) >>= fun t15 =>
       (run_machine_unless (.start t15.1.1 (2 : Int))) >>= fun t16 =>
       (run_machine_first (.start ([t2.1.1, t13.1.1, t14.1.1, t16.1.1] : List Int))) >>= fun t17 =>
       run_machine_Assembled_1 (.p31 i0 t17.1.1 B2 t1.1.1.1 t1.1.1.2.1 t1.1.1.2.2.1 t1.1.1.2.2.2.1 t1.1.1.2.2.2.2.1 t1.1.1.2.2.2.2.2.1 t1.1.1.2.2.2.2.2.2.1 t1.1.1.2.2.2.2.2.2.2.1 B3)
     else
       (run_machine_unless (.start (!(Option.isSome (aget seq B2 t1.1.1.2.2.2.2.2.1))) (5 : Int))) >>= fun t18 =>
       (run_machine_isNumber (.start t1.1.1.1 t1.1.1.2.2.2.1)) >>= fun t19 =>
       (run_machine_unless (.start t19.1.1 (2 : Int))) >>= fun t20 =>
       (run_machine_first (.start ([t2.1.1, t13.1.1, t18.1.1, t20.1.1] : List Int))) >>= fun t21 =>
       run_machine_Assembled_1 (.p31 i0 t21.1.1 B2 t1.1.1.1 t1.1.1.2.1 t1.1.1.2.2.1 t1.1.1.2.2.2.1 t1.1.1.2.2.2.2.1 t1.1.1.2.2.2.2.2.1 t1.1.1.2.2.2.2.2.2.1 t1.1.1.2.2.2.2.2.2.2.1 B3)
 | .p31 i0 e11 B2 B3_0 B3_1 B3_2 B3_3 B3_4 B3_5 B3_6 B3_7 B4 =>
   if B3_7 = true then
     run_machine_Assembled_1 (.p63 e11 (aput seq B2 B3_5 i0) B3_0 B3_1 B3_2 B3_3 B3_4 B3_5 B3_6 B3_7 B4)
   else
     run_machine_Assembled_1 (.p63 e11 B2 B3_0 B3_1 B3_2 B3_3 B3_4 B3_5 B3_6 B3_7 B4)
 | .p63 e11 B2 B3_0 B3_1 B3_2 B3_3 B3_4 B3_5 B3_6 B3_7 B4 =>
   if (fits (List.length B4) (List.length ([(⟨(⟨B3_0, B3_1, B3_2, B3_3⟩ : api_MachineCode), B3_4, B3_5, B3_6, B3_7⟩ : machine_line)] : List machine_line)) 72) = true then
     some ((e11, ()), (((), ()), (((), ()), (B2, (B4 ++ ([(⟨(⟨B3_0, B3_1, B3_2, B3_3⟩ : api_MachineCode), B3_4, B3_5, B3_6, B3_7⟩ : machine_line)] : List machine_line), ())))))
   else none
  partial_fixpoint
noncomputable def tab_machine_Assembled_1 : List (Plc E P_machine_Assembled_1) := [⟨31, [true, true, true, true], { slots := [0, 2, 3, 7, 11], rows := [], flat := [], keep := 3 }, (Int × (Unit × (Unit × (Unit × (Int × Unit))))), ((Unit × Unit) × ((Unit × Unit) × ((List (ByteArray × Int)) × ((Int × (Int × (Int × (Int × (ByteArray × (ByteArray × (Bool × (Bool × Unit)))))))) × ((List machine_line) × Unit))))), (RdL.cons (Rd.int .i64) (RdL.cons (Rd.bp 0 0) (RdL.cons (Rd.bp 1 0) (RdL.cons (Rd.bp 3 0) (RdL.cons (Rd.int .i64) RdL.nil))))), (RdBL.cons (RdB.var 153 (RdL.cons (Rd.rw 2) RdL.nil)) (RdBL.cons (RdB.var 154 (RdL.cons (Rd.rw 4) RdL.nil)) (RdBL.cons (RdB.mp .str 3) (RdBL.cons (RdB.var 157 (RdL.cons (Rd.int .i64) (RdL.cons (Rd.int .i64) (RdL.cons (Rd.int .i64) (RdL.cons (Rd.int .i64) (RdL.cons Rd.str (RdL.cons Rd.str (RdL.cons Rd.bool (RdL.cons Rd.bool RdL.nil))))))))) (RdBL.cons (RdB.row 157 false) RdBL.nil))))), fun a b => .p31 a.1 a.2.2.2.2.1 b.2.2.1 b.2.2.2.1.1 b.2.2.2.1.2.1 b.2.2.2.1.2.2.1 b.2.2.2.1.2.2.2.1 b.2.2.2.1.2.2.2.2.1 b.2.2.2.1.2.2.2.2.2.1 b.2.2.2.1.2.2.2.2.2.2.1 b.2.2.2.1.2.2.2.2.2.2.2.1 b.2.2.2.2.1⟩,
  ⟨63, [true, true, true, true, true], { slots := [3, 7, 11], rows := [], flat := [], keep := 3 }, (Unit × (Unit × (Int × Unit))), ((Unit × Unit) × ((Unit × Unit) × ((List (ByteArray × Int)) × ((Int × (Int × (Int × (Int × (ByteArray × (ByteArray × (Bool × (Bool × Unit)))))))) × ((List machine_line) × Unit))))), (RdL.cons (Rd.bp 1 0) (RdL.cons (Rd.bp 3 0) (RdL.cons (Rd.int .i64) RdL.nil))), (RdBL.cons (RdB.var 153 (RdL.cons (Rd.rw 2) RdL.nil)) (RdBL.cons (RdB.var 154 (RdL.cons (Rd.rw 4) RdL.nil)) (RdBL.cons (RdB.mp .str 3) (RdBL.cons (RdB.var 157 (RdL.cons (Rd.int .i64) (RdL.cons (Rd.int .i64) (RdL.cons (Rd.int .i64) (RdL.cons (Rd.int .i64) (RdL.cons Rd.str (RdL.cons Rd.str (RdL.cons Rd.bool (RdL.cons Rd.bool RdL.nil))))))))) (RdBL.cons (RdB.row 157 false) RdBL.nil))))), fun a b => .p63 a.2.2.1 b.2.2.1 b.2.2.2.1.1 b.2.2.2.1.2.1 b.2.2.2.1.2.2.1 b.2.2.2.1.2.2.2.1 b.2.2.2.1.2.2.2.2.1 b.2.2.2.1.2.2.2.2.2.1 b.2.2.2.1.2.2.2.2.2.2.1 b.2.2.2.1.2.2.2.2.2.2.2.1 b.2.2.2.2.1⟩]
theorem tab_machine_Assembled_1_ok : All (PlcOk 64 3 place_machine_Assembled_1 st_machine_Assembled_1) tab_machine_Assembled_1 := ⟨⟨rfl, rfl, fun _ _ => rfl, fun _ _ => rfl⟩, ⟨⟨rfl, rfl, fun _ _ => rfl, fun _ _ => rfl⟩, trivial⟩⟩
noncomputable def code_machine_Assembled_1 : Code := Tryz.f97.body.getD .skip
noncomputable def spec_machine_Assembled_1 : Spec E.S := (Con.add con_machine_isName (Con.add con_machine_first (Con.add con_machine_isNumber (Con.add con_machine_unless (Con.add con_machine_lineOf noSpec)))))
theorem spec_machine_Assembled_1_ok : SpecOk E spec_machine_Assembled_1 := (Con.add_ok con_machine_isName_ok (Con.add_ok con_machine_first_ok (Con.add_ok con_machine_isNumber_ok (Con.add_ok con_machine_unless_ok (Con.add_ok con_machine_lineOf_ok noSpec_ok)))))
theorem good_machine_Assembled_1 : ∀ pt r, run_machine_Assembled_1 pt = some r → Good E Tryz.f97 code_machine_Assembled_1 3 (res_machine_Assembled_1.av r) (res_machine_Assembled_1.bx r) (place_machine_Assembled_1 pt) (st_machine_Assembled_1 pt) := by
  refine run_machine_Assembled_1.partial_correctness (fun pt r => Good E Tryz.f97 code_machine_Assembled_1 3 (res_machine_Assembled_1.av r) (res_machine_Assembled_1.bx r) (place_machine_Assembled_1 pt) (st_machine_Assembled_1 pt)) ?_
  intro run' ih pt r hr
  cases pt <;> exact fn_step (spec := spec_machine_Assembled_1) (wr := (mkWr [] [])) (l := tab_machine_Assembled_1) (z := 64) (p := res_machine_Assembled_1) E_ok tab_machine_Assembled_1_ok.mem rfl spec_machine_Assembled_1_ok ih (Eq.trans (by kernel_rfl) hr)
noncomputable def con_machine_Assembled_1 : Con E := ⟨97, (Int × (ByteArray × (Unit × (Unit × Unit)))), ((Unit × Unit) × ((Unit × Unit) × ((List (ByteArray × Int)) × ((List machine_line) × Unit)))), (RwL.cons (Rd.int .i64).w (RwL.cons Rd.str.w (RwL.cons (Rd.bp 0 0).w (RwL.cons (Rd.bp 1 0).w RwL.nil)))), (RdBL.cons (RdB.var 153 (RdL.cons (Rd.rw 2) RdL.nil)) (RdBL.cons (RdB.var 154 (RdL.cons (Rd.rw 3) RdL.nil)) (RdBL.cons (RdB.mp .str 3) (RdBL.cons (RdB.row 157 false) RdBL.nil)))), 3, R_machine_Assembled_1, fun a b => run_machine_Assembled_1 (.start a.1 a.2.1 b.2.2.1 b.2.2.2.1), res_machine_Assembled_1.av, res_machine_Assembled_1.bx⟩
theorem con_machine_Assembled_1_ok : con_machine_Assembled_1.Ok := fun a b r h => fn_ok (fn := Tryz.f97) (code := code_machine_Assembled_1) E_ok (by kernel_rfl) (by kernel_rfl) (by kernel_rfl) (Nat.le_of_ble_eq_true rfl) (good_machine_Assembled_1 (.start a.1 a.2.1 b.2.2.1 b.2.2.2.1) r h)

/-! ### ratchet/machine.each[string] -/
inductive P_machine_each_string where
 | start (l0 : (List ByteArray)) (B2 : (List (ByteArray × Int)))
 | p52 (s9 : (List ByteArray)) (s10 : Int) (s11 : Int) (B2 : (List (ByteArray × Int))) (B3 : (List machine_line))
noncomputable def place_machine_each_string : P_machine_each_string → List Bool
 | .start .. => []
 | .p52 .. => [false, false, true, false, true]
noncomputable def st_machine_each_string : P_machine_each_string → St E.S
 | .start l0 B2 => st0 25 [.sl 9 l0 false, .fn 97 [.bp 0 0, .bp 1 0]] [.var 153 [.rw 2], .var 154 [.nl], .mp .str 3 B2]
 | .p52 s9 s10 s11 B2 B3 => mkSt 25 [1, 9, 10, 11] [.fn 97 [.bp 0 0, .bp 1 0], .sl 9 s9 false, .v (.int .i64 s10), .v (.int .i64 s11)] [.var 153 [.rw 2], .var 154 [.rw 3], .mp .str 3 B2, .row 157 B3 false]
abbrev R_machine_each_string : Type := ((Int × (Int × Unit)) × ((Unit × Unit) × ((Unit × Unit) × ((List (ByteArray × Int)) × ((List machine_line) × Unit)))))
noncomputable def res_machine_each_string : Res E (Int × (Int × Unit)) ((Unit × Unit) × ((Unit × Unit) × ((List (ByteArray × Int)) × ((List machine_line) × Unit)))) := { rows := [], flat := [], keep := 3, done := [0, 1, 100001], rl := (RdL.cons (Rd.int .i64) (RdL.cons (Rd.int .i64) RdL.nil)), rb := (RdBL.cons (RdB.var 153 (RdL.cons (Rd.rw 2) RdL.nil)) (RdBL.cons (RdB.var 154 (RdL.cons (Rd.rw 3) RdL.nil)) (RdBL.cons (RdB.mp .str 3) (RdBL.cons (RdB.row 157 true) RdBL.nil)))) }
noncomputable def run_machine_each_string : P_machine_each_string → Option R_machine_each_string
 | .start l0 B2 =>
   run_machine_each_string (.p52 l0 (List.length l0 : Int) (0 : Int) B2 ([] : List machine_line))
 | .p52 s9 s10 s11 B2 B3 =>
   if (decide (s11 < s10)) = true then
     (idx s9 s11) >>= fun t1 =>
     (run_machine_Assembled_1 (.start s11 t1 B2 B3)) >>= fun t2 =>
     if (t2.1.1 != (0 : Int)) = true then
       some ((s11, (t2.1.1, ())), (((), ()), (((), ()), (t2.2.2.2.1, (t2.2.2.2.2.1, ())))))
     else
       run_machine_each_string (.p52 s9 s10 (IntKind.wrap .i64 (s11 + (1 : Int))) t2.2.2.2.1 t2.2.2.2.2.1)
   else
     some (((0 : Int), ((0 : Int), ())), (((), ()), (((), ()), (B2, (B3, ())))))
  partial_fixpoint
noncomputable def tab_machine_each_string : List (Plc E P_machine_each_string) := [⟨52, [false, false, true, false, true], { slots := [1, 9, 10, 11], rows := [], flat := [], keep := 3, up := [(true, 100001, 0, 157)] }, ((Unit × (Unit × Unit)) × ((List ByteArray) × (Int × (Int × Unit)))), ((Unit × Unit) × ((Unit × Unit) × ((List (ByteArray × Int)) × ((List machine_line) × Unit)))), (RdL.cons (Rd.fn 97 (RdL.cons (Rd.bp 0 0) (RdL.cons (Rd.bp 1 0) RdL.nil))) (RdL.cons (Rd.sl 9 false) (RdL.cons (Rd.int .i64) (RdL.cons (Rd.int .i64) RdL.nil)))), (RdBL.cons (RdB.var 153 (RdL.cons (Rd.rw 2) RdL.nil)) (RdBL.cons (RdB.var 154 (RdL.cons (Rd.rw 3) RdL.nil)) (RdBL.cons (RdB.mp .str 3) (RdBL.cons (RdB.row 157 false) RdBL.nil)))), fun a b => .p52 a.2.1 a.2.2.1 a.2.2.2.1 b.2.2.1 b.2.2.2.1⟩]
theorem tab_machine_each_string_ok : All (PlcOk 25 3 place_machine_each_string st_machine_each_string) tab_machine_each_string := ⟨⟨rfl, rfl, fun _ _ => rfl, fun _ _ => rfl⟩, trivial⟩
noncomputable def code_machine_each_string : Code := Tryz.f96.body.getD .skip
noncomputable def spec_machine_each_string : Spec E.S := (Con.add con_machine_Assembled_1 noSpec)
theorem spec_machine_each_string_ok : SpecOk E spec_machine_each_string := (Con.add_ok con_machine_Assembled_1_ok noSpec_ok)
theorem good_machine_each_string : ∀ pt r, run_machine_each_string pt = some r → Good E Tryz.f96 code_machine_each_string 3 (res_machine_each_string.av r) (res_machine_each_string.bx r) (place_machine_each_string pt) (st_machine_each_string pt) := by
  refine run_machine_each_string.partial_correctness (fun pt r => Good E Tryz.f96 code_machine_each_string 3 (res_machine_each_string.av r) (res_machine_each_string.bx r) (place_machine_each_string pt) (st_machine_each_string pt)) ?_
  intro run' ih pt r hr
  cases pt <;> exact fn_step (spec := spec_machine_each_string) (wr := (mkWr [] [])) (l := tab_machine_each_string) (z := 25) (p := res_machine_each_string) E_ok tab_machine_each_string_ok.mem rfl spec_machine_each_string_ok ih (Eq.trans (by kernel_rfl) hr)
noncomputable def con_machine_each_string : Con E := ⟨96, ((List ByteArray) × ((Unit × (Unit × Unit)) × Unit)), ((Unit × Unit) × ((Unit × Unit) × ((List (ByteArray × Int)) × Unit))), (RwL.cons (Rw.sl 9) (RwL.cons (Rd.fn 97 (RdL.cons (Rd.bp 0 0) (RdL.cons (Rd.bp 1 0) RdL.nil))).w RwL.nil)), (RdBL.cons (RdB.var 153 (RdL.cons (Rd.rw 2) RdL.nil)) (RdBL.cons (RdB.var 154 (RdL.cons Rd.nl RdL.nil)) (RdBL.cons (RdB.mp .str 3) RdBL.nil))), 3, R_machine_each_string, fun a b => run_machine_each_string (.start a.1 b.2.2.1), res_machine_each_string.av, res_machine_each_string.bx⟩
theorem con_machine_each_string_ok : con_machine_each_string.Ok := fun a b r h => fn_ok (fn := Tryz.f96) (code := code_machine_each_string) E_ok (by kernel_rfl) (by kernel_rfl) (by kernel_rfl) (Nat.le_of_ble_eq_true rfl) (good_machine_each_string (.start a.1 b.2.2.1) r h)

/-! ### ratchet/machine.Assembled -/
inductive P_machine_Assembled where
 | start (s0 : ByteArray)
 | p8180 (s36 : Int) (s37 : Int) (B1 : (List api_MachineCode)) (B2 : (List machine_line)) (B3 : (List (ByteArray × Int)))
noncomputable def place_machine_Assembled : P_machine_Assembled → List Bool
 | .start .. => []
 | .p8180 .. => [false, false, true, false, true, true, true, true, true, true, true, true]
noncomputable def st_machine_Assembled : P_machine_Assembled → St E.S
 | .start s0 => st0 65 [.v (.string s0)] []
 | .p8180 s36 s37 B1 B2 B3 => mkSt 65 [6, 10, 35, 36, 37] [.bp 0 0, .rw 1, .rw 2, .v (.int .i64 s36), .v (.int .i64 s37)] [.var 153 [.rw 3], .row 40 B1 false, .row 157 B2 true, .mp .str 3 B3]
abbrev R_machine_Assembled : Type := ((Unit × (Int × (Int × Unit))) × ((List api_MachineCode) × Unit))
noncomputable def res_machine_Assembled : Res E (Unit × (Int × (Int × Unit))) ((List api_MachineCode) × Unit) := { rows := [(0, 40)], flat := [], keep := 0, done := [0, 1, 2], rl := (RdL.cons (Rd.rw 0) (RdL.cons (Rd.int .i64) (RdL.cons (Rd.int .i64) RdL.nil))), rb := (RdBL.cons (RdB.row 40 true) RdBL.nil) }
noncomputable def run_machine_Assembled : P_machine_Assembled → Option R_machine_Assembled
 | .start s0 =>
   if (decide ((s0.size : Int) > (60000 : Int))) = true then
     some (((), ((0 : Int), ((8 : Int), ()))), (([] : List api_MachineCode), ()))
   else
     (splitRun (s0, (⟨#[10]⟩ : ByteArray), ()) ()) >>= fun t1 =>
     if (decide ((List.length t1.1.1 : Int) > (16 : Int))) = true then
       some (((), ((0 : Int), ((8 : Int), ()))), (([] : List api_MachineCode), ()))
     else
       (run_machine_each_string (.start t1.1.1 ([] : List (ByteArray × Int)))) >>= fun t2 =>
       if (t2.1.2.1 != (0 : Int)) = true then
         some (((), (IntKind.wrap .i64 (t2.1.1 + (1 : Int)), (t2.1.2.1, ()))), (([] : List api_MachineCode), ()))
       else
         run_machine_Assembled (.p8180 (List.length t2.2.2.2.2.1 : Int) (0 : Int) ([] : List api_MachineCode) t2.2.2.2.2.1 t2.2.2.2.1)
 | .p8180 s36 s37 B1 B2 B3 =>
   if (decide (s37 < s36)) = true then
     if (decide ((0 : Int) ≤ s37) && decide (s37 < (List.length B2 : Int))) = true then
       (idx B2 s37) >>= fun t1 =>
       if t1.jumps = true then
         if (!(Option.isSome (aget seq B3 t1.target))) = true then
           some (((), (IntKind.wrap .i64 (s37 + (1 : Int)), ((6 : Int), ()))), (([] : List api_MachineCode), ()))
         else
           if (fits (List.length B1) (List.length ([(⟨t1.code.Op, t1.code.A, t1.code.B, Option.getD (aget seq B3 t1.target) (0 : Int)⟩ : api_MachineCode)] : List api_MachineCode)) 32) = true then
             run_machine_Assembled (.p8180 s36 (IntKind.wrap .i64 (s37 + (1 : Int))) (B1 ++ ([(⟨t1.code.Op, t1.code.A, t1.code.B, Option.getD (aget seq B3 t1.target) (0 : Int)⟩ : api_MachineCode)] : List api_MachineCode)) B2 B3)
           else none
       else
         if (fits (List.length B1) (List.length ([(⟨t1.code.Op, t1.code.A, t1.code.B, t1.code.N⟩ : api_MachineCode)] : List api_MachineCode)) 32) = true then
           run_machine_Assembled (.p8180 s36 (IntKind.wrap .i64 (s37 + (1 : Int))) (B1 ++ ([(⟨t1.code.Op, t1.code.A, t1.code.B, t1.code.N⟩ : api_MachineCode)] : List api_MachineCode)) B2 B3)
         else none
     else none
   else
     some (((), ((0 : Int), ((0 : Int), ()))), (B1, ()))
  partial_fixpoint
noncomputable def tab_machine_Assembled : List (Plc E P_machine_Assembled) := [⟨8180, [false, false, true, false, true, true, true, true, true, true, true, true], { slots := [6, 10, 35, 36, 37], rows := [(10, 40)], flat := [], keep := 0 }, (Unit × (Unit × (Unit × (Int × (Int × Unit))))), ((Unit × Unit) × ((List api_MachineCode) × ((List machine_line) × ((List (ByteArray × Int)) × Unit)))), (RdL.cons (Rd.bp 0 0) (RdL.cons (Rd.rw 1) (RdL.cons (Rd.rw 2) (RdL.cons (Rd.int .i64) (RdL.cons (Rd.int .i64) RdL.nil))))), (RdBL.cons (RdB.var 153 (RdL.cons (Rd.rw 3) RdL.nil)) (RdBL.cons (RdB.row 40 false) (RdBL.cons (RdB.row 157 true) (RdBL.cons (RdB.mp .str 3) RdBL.nil)))), fun a b => .p8180 a.2.2.2.1 a.2.2.2.2.1 b.2.1 b.2.2.1 b.2.2.2.1⟩]
theorem tab_machine_Assembled_ok : All (PlcOk 65 0 place_machine_Assembled st_machine_Assembled) tab_machine_Assembled := ⟨⟨rfl, rfl, fun _ _ => rfl, fun _ _ => rfl⟩, trivial⟩
noncomputable def code_machine_Assembled : Code := Tryz.f49.body.getD .skip
noncomputable def spec_machine_Assembled : Spec E.S := (Con.add con_machine_each_string (Con.add con_strings_Split noSpec))
theorem spec_machine_Assembled_ok : SpecOk E spec_machine_Assembled := (Con.add_ok con_machine_each_string_ok (Con.add_ok con_strings_Split_ok noSpec_ok))
theorem good_machine_Assembled : ∀ pt r, run_machine_Assembled pt = some r → Good E Tryz.f49 code_machine_Assembled 0 (res_machine_Assembled.av r) (res_machine_Assembled.bx r) (place_machine_Assembled pt) (st_machine_Assembled pt) := by
  refine run_machine_Assembled.partial_correctness (fun pt r => Good E Tryz.f49 code_machine_Assembled 0 (res_machine_Assembled.av r) (res_machine_Assembled.bx r) (place_machine_Assembled pt) (st_machine_Assembled pt)) ?_
  intro run' ih pt r hr
  cases pt <;> exact fn_step (spec := spec_machine_Assembled) (wr := (mkWr [] [])) (l := tab_machine_Assembled) (z := 65) (p := res_machine_Assembled) E_ok tab_machine_Assembled_ok.mem rfl spec_machine_Assembled_ok ih (Eq.trans (by kernel_rfl) hr)
noncomputable def con_machine_Assembled : Con E := ⟨49, (ByteArray × Unit), Unit, (RwL.cons Rd.str.w RwL.nil), RdBL.nil, 0, R_machine_Assembled, fun a b => run_machine_Assembled (.start a.1), res_machine_Assembled.av, res_machine_Assembled.bx⟩
theorem con_machine_Assembled_ok : con_machine_Assembled.Ok := fun a b r h => fn_ok (fn := Tryz.f49) (code := code_machine_Assembled) E_ok (by kernel_rfl) (by kernel_rfl) (by kernel_rfl) (Nat.le_of_ble_eq_true rfl) (good_machine_Assembled (.start a.1) r h)

/-! ### ratchet/ratchetref31.CopyProgram -/
inductive P_ratchetref31_CopyProgram where
 | start (l0 : (List api_MachineCode))
noncomputable def place_ratchetref31_CopyProgram : P_ratchetref31_CopyProgram → List Bool
 | .start .. => []
noncomputable def st_ratchetref31_CopyProgram : P_ratchetref31_CopyProgram → St E.S
 | .start l0 => st0 6 [.sl 40 l0 false] []
abbrev R_ratchetref31_CopyProgram : Type := ((Unit × Unit) × ((List api_MachineCode) × Unit))
noncomputable def res_ratchetref31_CopyProgram : Res E (Unit × Unit) ((List api_MachineCode) × Unit) := { rows := [], flat := [], keep := 0, done := [0], rl := (RdL.cons (Rd.rw 0) RdL.nil), rb := (RdBL.cons (RdB.row 40 true) RdBL.nil) }
noncomputable def run_ratchetref31_CopyProgram : P_ratchetref31_CopyProgram → Option R_ratchetref31_CopyProgram
 | .start l0 =>
   if (fits (List.length ([] : List api_MachineCode)) (List.length l0) 32) = true then
     some (((), ()), (([] : List api_MachineCode) ++ l0, ()))
   else none
noncomputable def tab_ratchetref31_CopyProgram : List (Plc E P_ratchetref31_CopyProgram) := []
theorem tab_ratchetref31_CopyProgram_ok : All (PlcOk 6 0 place_ratchetref31_CopyProgram st_ratchetref31_CopyProgram) tab_ratchetref31_CopyProgram := trivial
noncomputable def code_ratchetref31_CopyProgram : Code := Tryz.f14.body.getD .skip
noncomputable def spec_ratchetref31_CopyProgram : Spec E.S := noSpec
theorem spec_ratchetref31_CopyProgram_ok : SpecOk E spec_ratchetref31_CopyProgram := noSpec_ok
theorem good_ratchetref31_CopyProgram : ∀ pt r, run_ratchetref31_CopyProgram pt = some r → Good E Tryz.f14 code_ratchetref31_CopyProgram 0 (res_ratchetref31_CopyProgram.av r) (res_ratchetref31_CopyProgram.bx r) (place_ratchetref31_CopyProgram pt) (st_ratchetref31_CopyProgram pt) := by
  intro pt r hr
  cases pt <;> exact fn_step (spec := spec_ratchetref31_CopyProgram) (wr := (mkWr [] [])) (l := tab_ratchetref31_CopyProgram) (z := 6) (p := res_ratchetref31_CopyProgram) (run' := fun _ => none) E_ok tab_ratchetref31_CopyProgram_ok.mem rfl spec_ratchetref31_CopyProgram_ok (fun _ _ h => by cases h) (Eq.trans (by kernel_rfl) hr)
noncomputable def con_ratchetref31_CopyProgram : Con E := ⟨14, ((List api_MachineCode) × Unit), Unit, (RwL.cons (Rw.sl 40) RwL.nil), RdBL.nil, 0, R_ratchetref31_CopyProgram, fun a b => run_ratchetref31_CopyProgram (.start a.1), res_ratchetref31_CopyProgram.av, res_ratchetref31_CopyProgram.bx⟩
theorem con_ratchetref31_CopyProgram_ok : con_ratchetref31_CopyProgram.Ok := fun a b r h => fn_ok (fn := Tryz.f14) (code := code_ratchetref31_CopyProgram) E_ok (by kernel_rfl) (by kernel_rfl) (by kernel_rfl) (Nat.le_of_ble_eq_true rfl) (good_ratchetref31_CopyProgram (.start a.1) r h)

/-! ### ratchet/machine.codeErr -/
inductive P_machine_codeErr where
 | start (s0 : Int) (c1_0 : Int) (c1_1 : Int) (c1_2 : Int) (c1_3 : Int)
 | p31 (strange6 : Bool) (B0_0 : Int) (B0_1 : Int) (B0_2 : Int) (B0_3 : Int)
noncomputable def place_machine_codeErr : P_machine_codeErr → List Bool
 | .start .. => []
 | .p31 .. => [true, true, true, true]
noncomputable def st_machine_codeErr : P_machine_codeErr → St E.S
 | .start s0 c1_0 c1_1 c1_2 c1_3 => st0 64 [.v (.int .i64 s0), .agg [.v (.int .i64 c1_0), .v (.int .i64 c1_1), .v (.int .i64 c1_2), .v (.int .i64 c1_3)]] []
 | .p31 strange6 B0_0 B0_1 B0_2 B0_3 => mkSt 64 [3, 6] [.bp 0 0, .v (.bool strange6)] [.var 40 [.v (.int .i64 B0_0), .v (.int .i64 B0_1), .v (.int .i64 B0_2), .v (.int .i64 B0_3)]]
abbrev R_machine_codeErr : Type := ((Int × Unit) × Unit)
noncomputable def res_machine_codeErr : Res E (Int × Unit) Unit := { rows := [], flat := [], keep := 0, done := [0], rl := (RdL.cons (Rd.int .i64) RdL.nil), rb := RdBL.nil }
noncomputable def run_machine_codeErr : P_machine_codeErr → Option R_machine_codeErr
 | .start s0 c1_0 c1_1 c1_2 c1_3 =>
   (run_machine_within (.start c1_0 (0 : Int) (9 : Int))) >>= fun t1 =>
   if (!t1.1.1) = true then
     some (((15 : Int), ()), ())
   else
     (idx glob0 c1_0) >>= fun t2 =>
     if (!t2.a) = true then
       if (c1_1 != (0 : Int)) = true then
         run_machine_codeErr (.p31 true c1_0 c1_1 c1_2 c1_3)
       else
         if (!t2.b) = true then
           if (c1_2 != (0 : Int)) = true then
             run_machine_codeErr (.p31 true c1_0 c1_1 c1_2 c1_3)
           else
             if (!t2.n) = true then
               run_machine_codeErr (.p31 (c1_3 != (0 : Int)) c1_0 c1_1 c1_2 c1_3)
             else
               run_machine_codeErr (.p31 false c1_0 c1_1 c1_2 c1_3)
         else
           if (!t2.n) = true then
             run_machine_codeErr (.p31 (c1_3 != (0 : Int)) c1_0 c1_1 c1_2 c1_3)
           else
             run_machine_codeErr (.p31 false c1_0 c1_1 c1_2 c1_3)
     else
       if (!t2.b) = true then
         if (c1_2 != (0 : Int)) = true then
           run_machine_codeErr (.p31 true c1_0 c1_1 c1_2 c1_3)
         else
           if (!t2.n) = true then
             run_machine_codeErr (.p31 (c1_3 != (0 : Int)) c1_0 c1_1 c1_2 c1_3)
           else
             run_machine_codeErr (.p31 false c1_0 c1_1 c1_2 c1_3)
       else
         if (!t2.n) = true then
           run_machine_codeErr (.p31 (c1_3 != (0 : Int)) c1_0 c1_1 c1_2 c1_3)
         else
           run_machine_codeErr (.p31 false c1_0 c1_1 c1_2 c1_3)
 | .p31 strange6 B0_0 B0_1 B0_2 B0_3 =>
   (run_machine_isRegister (.start B0_1)) >>= fun t1 =>
   if t1.1.1 = true then
     (run_machine_isRegister (.start B0_2)) >>= fun t2 =>
     if t2.1.1 = true then
       (run_machine_isNumber (.start B0_0 B0_3)) >>= fun t3 =>
       (run_machine_unless (.start t3.1.1 (2 : Int))) >>= fun t4 =>
       (run_machine_unless (.start (!strange6) (3 : Int))) >>= fun t5 =>
       (run_machine_first (.start ([t4.1.1, t5.1.1] : List Int))) >>= fun t6 =>
       some ((t6.1.1, ()), ())
     else
       (run_machine_unless (.start false (2 : Int))) >>= fun t7 =>
       (run_machine_unless (.start (!strange6) (3 : Int))) >>= fun t8 =>
       (run_machine_first (.start ([t7.1.1, t8.1.1] : List Int))) >>= fun t9 =>
       some ((t9.1.1, ()), ())
   else
     (run_machine_unless (.start false (2 : Int))) >>= fun t10 =>
     (run_machine_unless (.start (!strange6) (3 : Int))) >>= fun t11 =>
     (run_machine_first (.start ([t10.1.1, t11.1.1] : List Int))) >>= fun t12 =>
     some ((t12.1.1, ()), ())
  partial_fixpoint
noncomputable def tab_machine_codeErr : List (Plc E P_machine_codeErr) := [⟨31, [true, true, true, true], { slots := [3, 6], rows := [], flat := [], keep := 0 }, (Unit × (Bool × Unit)), ((Int × (Int × (Int × (Int × Unit)))) × Unit), (RdL.cons (Rd.bp 0 0) (RdL.cons Rd.bool RdL.nil)), (RdBL.cons (RdB.var 40 (RdL.cons (Rd.int .i64) (RdL.cons (Rd.int .i64) (RdL.cons (Rd.int .i64) (RdL.cons (Rd.int .i64) RdL.nil))))) RdBL.nil), fun a b => .p31 a.2.1 b.1.1 b.1.2.1 b.1.2.2.1 b.1.2.2.2.1⟩]
theorem tab_machine_codeErr_ok : All (PlcOk 64 0 place_machine_codeErr st_machine_codeErr) tab_machine_codeErr := ⟨⟨rfl, rfl, fun _ _ => rfl, fun _ _ => rfl⟩, trivial⟩
noncomputable def code_machine_codeErr : Code := Tryz.f73.body.getD .skip
noncomputable def spec_machine_codeErr : Spec E.S := (Con.add con_machine_first (Con.add con_machine_unless (Con.add con_machine_isNumber (Con.add con_machine_isRegister (Con.add con_machine_within noSpec)))))
theorem spec_machine_codeErr_ok : SpecOk E spec_machine_codeErr := (Con.add_ok con_machine_first_ok (Con.add_ok con_machine_unless_ok (Con.add_ok con_machine_isNumber_ok (Con.add_ok con_machine_isRegister_ok (Con.add_ok con_machine_within_ok noSpec_ok)))))
theorem good_machine_codeErr : ∀ pt r, run_machine_codeErr pt = some r → Good E Tryz.f73 code_machine_codeErr 0 (res_machine_codeErr.av r) (res_machine_codeErr.bx r) (place_machine_codeErr pt) (st_machine_codeErr pt) := by
  refine run_machine_codeErr.partial_correctness (fun pt r => Good E Tryz.f73 code_machine_codeErr 0 (res_machine_codeErr.av r) (res_machine_codeErr.bx r) (place_machine_codeErr pt) (st_machine_codeErr pt)) ?_
  intro run' ih pt r hr
  cases pt <;> exact fn_step (spec := spec_machine_codeErr) (wr := (mkWr [] [])) (l := tab_machine_codeErr) (z := 64) (p := res_machine_codeErr) E_ok tab_machine_codeErr_ok.mem rfl spec_machine_codeErr_ok ih (Eq.trans (by kernel_rfl) hr)
noncomputable def con_machine_codeErr : Con E := ⟨73, (Int × ((Int × (Int × (Int × (Int × Unit)))) × Unit)), Unit, (RwL.cons (Rd.int .i64).w (RwL.cons (Rw.agg (RwL.cons (Rd.int .i64).w (RwL.cons (Rd.int .i64).w (RwL.cons (Rd.int .i64).w (RwL.cons (Rd.int .i64).w RwL.nil))))) RwL.nil)), RdBL.nil, 0, R_machine_codeErr, fun a b => run_machine_codeErr (.start a.1 a.2.1.1 a.2.1.2.1 a.2.1.2.2.1 a.2.1.2.2.2.1), res_machine_codeErr.av, res_machine_codeErr.bx⟩
theorem con_machine_codeErr_ok : con_machine_codeErr.Ok := fun a b r h => fn_ok (fn := Tryz.f73) (code := code_machine_codeErr) E_ok (by kernel_rfl) (by kernel_rfl) (by kernel_rfl) (Nat.le_of_ble_eq_true rfl) (good_machine_codeErr (.start a.1 a.2.1.1 a.2.1.2.1 a.2.1.2.2.1 a.2.1.2.2.2.1) r h)

/-! ### ratchet/machine.each[ratchet/api.MachineCode] -/
inductive P_machine_each_api_MachineCode where
 | start (l0 : (List api_MachineCode))
 | p52 (s9 : (List api_MachineCode)) (s10 : Int) (s11 : Int)
noncomputable def place_machine_each_api_MachineCode : P_machine_each_api_MachineCode → List Bool
 | .start .. => []
 | .p52 .. => [false, false, true, false, true]
noncomputable def st_machine_each_api_MachineCode : P_machine_each_api_MachineCode → St E.S
 | .start l0 => st0 25 [.sl 40 l0 false, .fn 73 []] []
 | .p52 s9 s10 s11 => mkSt 25 [1, 9, 10, 11] [.fn 73 [], .sl 40 s9 false, .v (.int .i64 s10), .v (.int .i64 s11)] []
abbrev R_machine_each_api_MachineCode : Type := ((Int × (Int × Unit)) × Unit)
noncomputable def res_machine_each_api_MachineCode : Res E (Int × (Int × Unit)) Unit := { rows := [], flat := [], keep := 0, done := [0, 1], rl := (RdL.cons (Rd.int .i64) (RdL.cons (Rd.int .i64) RdL.nil)), rb := RdBL.nil }
noncomputable def run_machine_each_api_MachineCode : P_machine_each_api_MachineCode → Option R_machine_each_api_MachineCode
 | .start l0 =>
   run_machine_each_api_MachineCode (.p52 l0 (List.length l0 : Int) (0 : Int))
 | .p52 s9 s10 s11 =>
   if (decide (s11 < s10)) = true then
     (idx s9 s11) >>= fun t1 =>
     (run_machine_codeErr (.start s11 t1.Op t1.A t1.B t1.N)) >>= fun t2 =>
     if (t2.1.1 != (0 : Int)) = true then
       some ((s11, (t2.1.1, ())), ())
     else
       run_machine_each_api_MachineCode (.p52 s9 s10 (IntKind.wrap .i64 (s11 + (1 : Int))))
   else
     some (((0 : Int), ((0 : Int), ())), ())
  partial_fixpoint
noncomputable def tab_machine_each_api_MachineCode : List (Plc E P_machine_each_api_MachineCode) := [⟨52, [false, false, true, false, true], { slots := [1, 9, 10, 11], rows := [], flat := [], keep := 0 }, (Unit × ((List api_MachineCode) × (Int × (Int × Unit)))), Unit, (RdL.cons (Rd.fn 73 RdL.nil) (RdL.cons (Rd.sl 40 false) (RdL.cons (Rd.int .i64) (RdL.cons (Rd.int .i64) RdL.nil)))), RdBL.nil, fun a b => .p52 a.2.1 a.2.2.1 a.2.2.2.1⟩]
theorem tab_machine_each_api_MachineCode_ok : All (PlcOk 25 0 place_machine_each_api_MachineCode st_machine_each_api_MachineCode) tab_machine_each_api_MachineCode := ⟨⟨rfl, rfl, fun _ _ => rfl, fun _ _ => rfl⟩, trivial⟩
noncomputable def code_machine_each_api_MachineCode : Code := Tryz.f72.body.getD .skip
noncomputable def spec_machine_each_api_MachineCode : Spec E.S := (Con.add con_machine_codeErr noSpec)
theorem spec_machine_each_api_MachineCode_ok : SpecOk E spec_machine_each_api_MachineCode := (Con.add_ok con_machine_codeErr_ok noSpec_ok)
theorem good_machine_each_api_MachineCode : ∀ pt r, run_machine_each_api_MachineCode pt = some r → Good E Tryz.f72 code_machine_each_api_MachineCode 0 (res_machine_each_api_MachineCode.av r) (res_machine_each_api_MachineCode.bx r) (place_machine_each_api_MachineCode pt) (st_machine_each_api_MachineCode pt) := by
  refine run_machine_each_api_MachineCode.partial_correctness (fun pt r => Good E Tryz.f72 code_machine_each_api_MachineCode 0 (res_machine_each_api_MachineCode.av r) (res_machine_each_api_MachineCode.bx r) (place_machine_each_api_MachineCode pt) (st_machine_each_api_MachineCode pt)) ?_
  intro run' ih pt r hr
  cases pt <;> exact fn_step (spec := spec_machine_each_api_MachineCode) (wr := (mkWr [] [])) (l := tab_machine_each_api_MachineCode) (z := 25) (p := res_machine_each_api_MachineCode) E_ok tab_machine_each_api_MachineCode_ok.mem rfl spec_machine_each_api_MachineCode_ok ih (Eq.trans (by kernel_rfl) hr)
noncomputable def con_machine_each_api_MachineCode : Con E := ⟨72, ((List api_MachineCode) × (Unit × Unit)), Unit, (RwL.cons (Rw.sl 40) (RwL.cons (Rd.fn 73 RdL.nil).w RwL.nil)), RdBL.nil, 0, R_machine_each_api_MachineCode, fun a b => run_machine_each_api_MachineCode (.start a.1), res_machine_each_api_MachineCode.av, res_machine_each_api_MachineCode.bx⟩
theorem con_machine_each_api_MachineCode_ok : con_machine_each_api_MachineCode.Ok := fun a b r h => fn_ok (fn := Tryz.f72) (code := code_machine_each_api_MachineCode) E_ok (by kernel_rfl) (by kernel_rfl) (by kernel_rfl) (Nat.le_of_ble_eq_true rfl) (good_machine_each_api_MachineCode (.start a.1) r h)

/-! ### ratchet/machine.CheckProgram -/
inductive P_machine_CheckProgram where
 | start (l0 : (List api_MachineCode))
noncomputable def place_machine_CheckProgram : P_machine_CheckProgram → List Bool
 | .start .. => []
noncomputable def st_machine_CheckProgram : P_machine_CheckProgram → St E.S
 | .start l0 => st0 11 [.sl 40 l0 false] []
abbrev R_machine_CheckProgram : Type := ((Int × (Int × Unit)) × Unit)
noncomputable def res_machine_CheckProgram : Res E (Int × (Int × Unit)) Unit := { rows := [], flat := [], keep := 0, done := [0, 1], rl := (RdL.cons (Rd.int .i64) (RdL.cons (Rd.int .i64) RdL.nil)), rb := RdBL.nil }
noncomputable def run_machine_CheckProgram : P_machine_CheckProgram → Option R_machine_CheckProgram
 | .start l0 =>
   if (decide ((List.length l0 : Int) > (16 : Int))) = true then
     some (((0 : Int), ((8 : Int), ())), ())
   else
     (run_machine_each_api_MachineCode (.start l0)) >>= fun t1 =>
     some ((t1.1.1, (t1.1.2.1, ())), ())
noncomputable def tab_machine_CheckProgram : List (Plc E P_machine_CheckProgram) := []
theorem tab_machine_CheckProgram_ok : All (PlcOk 11 0 place_machine_CheckProgram st_machine_CheckProgram) tab_machine_CheckProgram := trivial
noncomputable def code_machine_CheckProgram : Code := Tryz.f20.body.getD .skip
noncomputable def spec_machine_CheckProgram : Spec E.S := (Con.add con_machine_each_api_MachineCode noSpec)
theorem spec_machine_CheckProgram_ok : SpecOk E spec_machine_CheckProgram := (Con.add_ok con_machine_each_api_MachineCode_ok noSpec_ok)
theorem good_machine_CheckProgram : ∀ pt r, run_machine_CheckProgram pt = some r → Good E Tryz.f20 code_machine_CheckProgram 0 (res_machine_CheckProgram.av r) (res_machine_CheckProgram.bx r) (place_machine_CheckProgram pt) (st_machine_CheckProgram pt) := by
  intro pt r hr
  cases pt <;> exact fn_step (spec := spec_machine_CheckProgram) (wr := (mkWr [] [])) (l := tab_machine_CheckProgram) (z := 11) (p := res_machine_CheckProgram) (run' := fun _ => none) E_ok tab_machine_CheckProgram_ok.mem rfl spec_machine_CheckProgram_ok (fun _ _ h => by cases h) (Eq.trans (by kernel_rfl) hr)
noncomputable def con_machine_CheckProgram : Con E := ⟨20, ((List api_MachineCode) × Unit), Unit, (RwL.cons (Rw.sl 40) RwL.nil), RdBL.nil, 0, R_machine_CheckProgram, fun a b => run_machine_CheckProgram (.start a.1), res_machine_CheckProgram.av, res_machine_CheckProgram.bx⟩
theorem con_machine_CheckProgram_ok : con_machine_CheckProgram.Ok := fun a b r h => fn_ok (fn := Tryz.f20) (code := code_machine_CheckProgram) E_ok (by kernel_rfl) (by kernel_rfl) (by kernel_rfl) (Nat.le_of_ble_eq_true rfl) (good_machine_CheckProgram (.start a.1) r h)

/-! ### ratchet/machine.programErr -/
inductive P_machine_programErr where
 | start (l0 : (List api_MachineCode))
noncomputable def place_machine_programErr : P_machine_programErr → List Bool
 | .start .. => []
noncomputable def st_machine_programErr : P_machine_programErr → St E.S
 | .start l0 => st0 11 [.sl 40 l0 false] []
abbrev R_machine_programErr : Type := ((Int × Unit) × Unit)
noncomputable def res_machine_programErr : Res E (Int × Unit) Unit := { rows := [], flat := [], keep := 0, done := [0], rl := (RdL.cons (Rd.int .i64) RdL.nil), rb := RdBL.nil }
noncomputable def run_machine_programErr : P_machine_programErr → Option R_machine_programErr
 | .start l0 =>
   (run_machine_CheckProgram (.start l0)) >>= fun t1 =>
   some ((t1.1.2.1, ()), ())
noncomputable def tab_machine_programErr : List (Plc E P_machine_programErr) := []
theorem tab_machine_programErr_ok : All (PlcOk 11 0 place_machine_programErr st_machine_programErr) tab_machine_programErr := trivial
noncomputable def code_machine_programErr : Code := Tryz.f66.body.getD .skip
noncomputable def spec_machine_programErr : Spec E.S := (Con.add con_machine_CheckProgram noSpec)
theorem spec_machine_programErr_ok : SpecOk E spec_machine_programErr := (Con.add_ok con_machine_CheckProgram_ok noSpec_ok)
theorem good_machine_programErr : ∀ pt r, run_machine_programErr pt = some r → Good E Tryz.f66 code_machine_programErr 0 (res_machine_programErr.av r) (res_machine_programErr.bx r) (place_machine_programErr pt) (st_machine_programErr pt) := by
  intro pt r hr
  cases pt <;> exact fn_step (spec := spec_machine_programErr) (wr := (mkWr [] [])) (l := tab_machine_programErr) (z := 11) (p := res_machine_programErr) (run' := fun _ => none) E_ok tab_machine_programErr_ok.mem rfl spec_machine_programErr_ok (fun _ _ h => by cases h) (Eq.trans (by kernel_rfl) hr)
noncomputable def con_machine_programErr : Con E := ⟨66, ((List api_MachineCode) × Unit), Unit, (RwL.cons (Rw.sl 40) RwL.nil), RdBL.nil, 0, R_machine_programErr, fun a b => run_machine_programErr (.start a.1), res_machine_programErr.av, res_machine_programErr.bx⟩
theorem con_machine_programErr_ok : con_machine_programErr.Ok := fun a b r h => fn_ok (fn := Tryz.f66) (code := code_machine_programErr) E_ok (by kernel_rfl) (by kernel_rfl) (by kernel_rfl) (Nat.le_of_ble_eq_true rfl) (good_machine_programErr (.start a.1) r h)

/-! ### ratchet/machine.TextOf -/
inductive P_machine_TextOf where
 | start (l0 : (List api_MachineCode))
 | p244 (s15 : (List api_MachineCode)) (s16 : Int) (s17 : Int) (B0 : (List ByteArray))
 | p62671 (s15 : (List api_MachineCode)) (s16 : Int) (s17 : Int) (B0 : (List ByteArray)) (B1_0 : Int) (B1_1 : Int) (B1_2 : Int) (B1_3 : Int) (B2_0 : ByteArray) (B2_1 : Bool) (B2_2 : Bool) (B2_3 : Bool) (B3 : (List ByteArray))
 | p125343 (s15 : (List api_MachineCode)) (s16 : Int) (s17 : Int) (B0 : (List ByteArray)) (B1_0 : Int) (B1_1 : Int) (B1_2 : Int) (B1_3 : Int) (B2_0 : ByteArray) (B2_1 : Bool) (B2_2 : Bool) (B2_3 : Bool) (B3 : (List ByteArray))
noncomputable def place_machine_TextOf : P_machine_TextOf → List Bool
 | .start .. => []
 | .p244 .. => [false, false, true, false, true, true, true]
 | .p62671 .. => [true, true, true, true, false, false, true, true, false, false, true, false, true, true, true]
 | .p125343 .. => [true, true, true, true, true, false, false, true, true, false, false, true, false, true, true, true]
noncomputable def st_machine_TextOf : P_machine_TextOf → St E.S
 | .start l0 => st0 62 [.sl 40 l0 false] []
 | .p244 s15 s16 s17 B0 => mkSt 62 [5, 15, 16, 17] [.rw 0, .sl 40 s15 false, .v (.int .i64 s16), .v (.int .i64 s17)] [.row 9 B0 false]
 | .p62671 s15 s16 s17 B0 B1_0 B1_1 B1_2 B1_3 B2_0 B2_1 B2_2 B2_3 B3 => mkSt 62 [5, 7, 8, 9, 15, 16, 17] [.rw 0, .bp 1 0, .bp 2 0, .rw 3, .sl 40 s15 false, .v (.int .i64 s16), .v (.int .i64 s17)] [.row 9 B0 false, .var 40 [.v (.int .i64 B1_0), .v (.int .i64 B1_1), .v (.int .i64 B1_2), .v (.int .i64 B1_3)], .var 166 [.v (.string B2_0), .v (.bool B2_1), .v (.bool B2_2), .v (.bool B2_3)], .row 9 B3 true]
 | .p125343 s15 s16 s17 B0 B1_0 B1_1 B1_2 B1_3 B2_0 B2_1 B2_2 B2_3 B3 => mkSt 62 [5, 7, 8, 9, 15, 16, 17] [.rw 0, .bp 1 0, .bp 2 0, .rw 3, .sl 40 s15 false, .v (.int .i64 s16), .v (.int .i64 s17)] [.row 9 B0 false, .var 40 [.v (.int .i64 B1_0), .v (.int .i64 B1_1), .v (.int .i64 B1_2), .v (.int .i64 B1_3)], .var 166 [.v (.string B2_0), .v (.bool B2_1), .v (.bool B2_2), .v (.bool B2_3)], .row 9 B3 true]
abbrev R_machine_TextOf : Type := ((ByteArray × (Int × Unit)) × Unit)
noncomputable def res_machine_TextOf : Res E (ByteArray × (Int × Unit)) Unit := { rows := [], flat := [], keep := 0, done := [0, 1], rl := (RdL.cons Rd.str (RdL.cons (Rd.int .i64) RdL.nil)), rb := RdBL.nil }
noncomputable def run_machine_TextOf : P_machine_TextOf → Option R_machine_TextOf
 | .start l0 =>
   (run_machine_programErr (.start l0)) >>= fun t1 =>
   if (t1.1.1 != (0 : Int)) = true then
     some (((⟨#[]⟩ : ByteArray), (t1.1.1, ())), ())
   else
     run_machine_TextOf (.p244 l0 (List.length l0 : Int) (0 : Int) ([] : List ByteArray))
 | .p244 s15 s16 s17 B0 =>
   if (decide (s17 < s16)) = true then
     (idx s15 s17) >>= fun t1 =>
     (idx glob0 t1.Op) >>= fun t2 =>
     if t2.a = true then
       (itoaRun (t1.A, ()) ()) >>= fun t3 =>
       if (Nat.ble ((⟨#[114]⟩ : ByteArray).size + t3.1.1.size) 9223372036854775807) = true then
         if (fits (List.length ([t2.name] : List ByteArray)) (List.length ([(⟨#[114]⟩ : ByteArray) ++ t3.1.1] : List ByteArray)) 16) = true then
           run_machine_TextOf (.p62671 s15 s16 s17 B0 t1.Op t1.A t1.B t1.N t2.name t2.a t2.b t2.n (([t2.name] : List ByteArray) ++ ([(⟨#[114]⟩ : ByteArray) ++ t3.1.1] : List ByteArray)))
         else none
       else none
     else
       run_machine_TextOf (.p62671 s15 s16 s17 B0 t1.Op t1.A t1.B t1.N t2.name t2.a t2.b t2.n ([t2.name] : List ByteArray))
   else
     (joinRun (B0, (⟨#[10]⟩ : ByteArray), ()) ()) >>= fun t4 =>
     some ((t4.1.1, ((0 : Int), ())), ())
 | .p62671 s15 s16 s17 B0 B1_0 B1_1 B1_2 B1_3 B2_0 B2_1 B2_2 B2_3 B3 =>
   if B2_2 = true then
     (itoaRun (B1_2, ()) ()) >>= fun t1 =>
     if (Nat.ble ((⟨#[114]⟩ : ByteArray).size + t1.1.1.size) 9223372036854775807) = true then
       if (fits (List.length B3) (List.length ([(⟨#[114]⟩ : ByteArray) ++ t1.1.1] : List ByteArray)) 16) = true then
         run_machine_TextOf (.p125343 s15 s16 s17 B0 B1_0 B1_1 B1_2 B1_3 B2_0 B2_1 B2_2 B2_3 (B3 ++ ([(⟨#[114]⟩ : ByteArray) ++ t1.1.1] : List ByteArray)))
       else none
     else none
   else
     run_machine_TextOf (.p125343 s15 s16 s17 B0 B1_0 B1_1 B1_2 B1_3 B2_0 B2_1 B2_2 B2_3 B3)
 | .p125343 s15 s16 s17 B0 B1_0 B1_1 B1_2 B1_3 B2_0 B2_1 B2_2 B2_3 B3 =>
   if B2_3 = true then
     (itoaRun (B1_3, ()) ()) >>= fun t1 =>
     if (fits (List.length B3) (List.length ([t1.1.1] : List ByteArray)) 16) = true then
       (joinRun (B3 ++ ([t1.1.1] : List ByteArray), (⟨#[32]⟩ : ByteArray), ()) ()) >>= fun t2 =>
       if (fits (List.length B0) (List.length ([t2.1.1] : List ByteArray)) 16) = true then
         run_machine_TextOf (.p244 s15 s16 (IntKind.wrap .i64 (s17 + (1 : Int))) (B0 ++ ([t2.1.1] : List ByteArray)))
       else none
     else none
   else
     (joinRun (B3, (⟨#[32]⟩ : ByteArray), ()) ()) >>= fun t3 =>
     if (fits (List.length B0) (List.length ([t3.1.1] : List ByteArray)) 16) = true then
       run_machine_TextOf (.p244 s15 s16 (IntKind.wrap .i64 (s17 + (1 : Int))) (B0 ++ ([t3.1.1] : List ByteArray)))
     else none
  partial_fixpoint
noncomputable def tab_machine_TextOf : List (Plc E P_machine_TextOf) := [⟨244, [false, false, true, false, true, true, true], { slots := [5, 15, 16, 17], rows := [(5, 9)], flat := [], keep := 0 }, (Unit × ((List api_MachineCode) × (Int × (Int × Unit)))), ((List ByteArray) × Unit), (RdL.cons (Rd.rw 0) (RdL.cons (Rd.sl 40 false) (RdL.cons (Rd.int .i64) (RdL.cons (Rd.int .i64) RdL.nil)))), (RdBL.cons (RdB.row 9 false) RdBL.nil), fun a b => .p244 a.2.1 a.2.2.1 a.2.2.2.1 b.1⟩,
  ⟨62671, [true, true, true, true, false, false, true, true, false, false, true, false, true, true, true], { slots := [5, 7, 8, 9, 15, 16, 17], rows := [(9, 9)], flat := [], keep := 0 }, (Unit × (Unit × (Unit × (Unit × ((List api_MachineCode) × (Int × (Int × Unit))))))), ((List ByteArray) × ((Int × (Int × (Int × (Int × Unit)))) × ((ByteArray × (Bool × (Bool × (Bool × Unit)))) × ((List ByteArray) × Unit)))), (RdL.cons (Rd.rw 0) (RdL.cons (Rd.bp 1 0) (RdL.cons (Rd.bp 2 0) (RdL.cons (Rd.rw 3) (RdL.cons (Rd.sl 40 false) (RdL.cons (Rd.int .i64) (RdL.cons (Rd.int .i64) RdL.nil))))))), (RdBL.cons (RdB.row 9 false) (RdBL.cons (RdB.var 40 (RdL.cons (Rd.int .i64) (RdL.cons (Rd.int .i64) (RdL.cons (Rd.int .i64) (RdL.cons (Rd.int .i64) RdL.nil))))) (RdBL.cons (RdB.var 166 (RdL.cons Rd.str (RdL.cons Rd.bool (RdL.cons Rd.bool (RdL.cons Rd.bool RdL.nil))))) (RdBL.cons (RdB.row 9 true) RdBL.nil)))), fun a b => .p62671 a.2.2.2.2.1 a.2.2.2.2.2.1 a.2.2.2.2.2.2.1 b.1 b.2.1.1 b.2.1.2.1 b.2.1.2.2.1 b.2.1.2.2.2.1 b.2.2.1.1 b.2.2.1.2.1 b.2.2.1.2.2.1 b.2.2.1.2.2.2.1 b.2.2.2.1⟩,
  ⟨125343, [true, true, true, true, true, false, false, true, true, false, false, true, false, true, true, true], { slots := [5, 7, 8, 9, 15, 16, 17], rows := [], flat := [], keep := 0 }, (Unit × (Unit × (Unit × (Unit × ((List api_MachineCode) × (Int × (Int × Unit))))))), ((List ByteArray) × ((Int × (Int × (Int × (Int × Unit)))) × ((ByteArray × (Bool × (Bool × (Bool × Unit)))) × ((List ByteArray) × Unit)))), (RdL.cons (Rd.rw 0) (RdL.cons (Rd.bp 1 0) (RdL.cons (Rd.bp 2 0) (RdL.cons (Rd.rw 3) (RdL.cons (Rd.sl 40 false) (RdL.cons (Rd.int .i64) (RdL.cons (Rd.int .i64) RdL.nil))))))), (RdBL.cons (RdB.row 9 false) (RdBL.cons (RdB.var 40 (RdL.cons (Rd.int .i64) (RdL.cons (Rd.int .i64) (RdL.cons (Rd.int .i64) (RdL.cons (Rd.int .i64) RdL.nil))))) (RdBL.cons (RdB.var 166 (RdL.cons Rd.str (RdL.cons Rd.bool (RdL.cons Rd.bool (RdL.cons Rd.bool RdL.nil))))) (RdBL.cons (RdB.row 9 true) RdBL.nil)))), fun a b => .p125343 a.2.2.2.2.1 a.2.2.2.2.2.1 a.2.2.2.2.2.2.1 b.1 b.2.1.1 b.2.1.2.1 b.2.1.2.2.1 b.2.1.2.2.2.1 b.2.2.1.1 b.2.2.1.2.1 b.2.2.1.2.2.1 b.2.2.1.2.2.2.1 b.2.2.2.1⟩]
theorem tab_machine_TextOf_ok : All (PlcOk 62 0 place_machine_TextOf st_machine_TextOf) tab_machine_TextOf := ⟨⟨rfl, rfl, fun _ _ => rfl, fun _ _ => rfl⟩, ⟨⟨rfl, rfl, fun _ _ => rfl, fun _ _ => rfl⟩, ⟨⟨rfl, rfl, fun _ _ => rfl, fun _ _ => rfl⟩, trivial⟩⟩⟩
noncomputable def code_machine_TextOf : Code := Tryz.f50.body.getD .skip
noncomputable def spec_machine_TextOf : Spec E.S := (Con.add con_strings_Join (Con.add con_strconv_Itoa (Con.add con_machine_programErr noSpec)))
theorem spec_machine_TextOf_ok : SpecOk E spec_machine_TextOf := (Con.add_ok con_strings_Join_ok (Con.add_ok con_strconv_Itoa_ok (Con.add_ok con_machine_programErr_ok noSpec_ok)))
theorem good_machine_TextOf : ∀ pt r, run_machine_TextOf pt = some r → Good E Tryz.f50 code_machine_TextOf 0 (res_machine_TextOf.av r) (res_machine_TextOf.bx r) (place_machine_TextOf pt) (st_machine_TextOf pt) := by
  refine run_machine_TextOf.partial_correctness (fun pt r => Good E Tryz.f50 code_machine_TextOf 0 (res_machine_TextOf.av r) (res_machine_TextOf.bx r) (place_machine_TextOf pt) (st_machine_TextOf pt)) ?_
  intro run' ih pt r hr
  cases pt <;> exact fn_step (spec := spec_machine_TextOf) (wr := (mkWr [] [])) (l := tab_machine_TextOf) (z := 62) (p := res_machine_TextOf) E_ok tab_machine_TextOf_ok.mem rfl spec_machine_TextOf_ok ih (Eq.trans (by kernel_rfl) hr)
noncomputable def con_machine_TextOf : Con E := ⟨50, ((List api_MachineCode) × Unit), Unit, (RwL.cons (Rw.sl 40) RwL.nil), RdBL.nil, 0, R_machine_TextOf, fun a b => run_machine_TextOf (.start a.1), res_machine_TextOf.av, res_machine_TextOf.bx⟩
theorem con_machine_TextOf_ok : con_machine_TextOf.Ok := fun a b r h => fn_ok (fn := Tryz.f50) (code := code_machine_TextOf) E_ok (by kernel_rfl) (by kernel_rfl) (by kernel_rfl) (Nat.le_of_ble_eq_true rfl) (good_machine_TextOf (.start a.1) r h)

/-! ### ratchet/ratchetbase.Cut -/
inductive P_ratchetbase_Cut where
 | start (s0 : ByteArray) (at1 : Int)
 | p244 (s0 : ByteArray) (at1 : Int) (from6 : Int) (i7 : Int) (B0 : (List ByteArray))
noncomputable def place_ratchetbase_Cut : P_ratchetbase_Cut → List Bool
 | .start .. => []
 | .p244 .. => [false, false, true, false, true, true, true]
noncomputable def st_ratchetbase_Cut : P_ratchetbase_Cut → St E.S
 | .start s0 at1 => st0 34 [.v (.string s0), .v (.int .u8 at1)] []
 | .p244 s0 at1 from6 i7 B0 => mkSt 34 [0, 1, 5, 6, 7] [.v (.string s0), .v (.int .u8 at1), .rw 0, .v (.int .i64 from6), .v (.int .i64 i7)] [.row 9 B0 false]
abbrev R_ratchetbase_Cut : Type := ((Unit × Unit) × ((List ByteArray) × Unit))
noncomputable def res_ratchetbase_Cut : Res E (Unit × Unit) ((List ByteArray) × Unit) := { rows := [], flat := [], keep := 0, done := [0], rl := (RdL.cons (Rd.rw 0) RdL.nil), rb := (RdBL.cons (RdB.row 9 true) RdBL.nil) }
noncomputable def run_ratchetbase_Cut : P_ratchetbase_Cut → Option R_ratchetbase_Cut
 | .start s0 at1 =>
   run_ratchetbase_Cut (.p244 s0 at1 (0 : Int) (0 : Int) ([] : List ByteArray))
 | .p244 s0 at1 from6 i7 B0 =>
   if (decide (i7 < (s0.size : Int))) = true then
     (sidx s0 i7) >>= fun t1 =>
     if (t1 == at1) = true then
       (span s0.size from6 i7) >>= fun t2 =>
       if (fits (List.length B0) (List.length ([s0.extract t2.1 t2.2] : List ByteArray)) 16) = true then
         run_ratchetbase_Cut (.p244 s0 at1 (IntKind.wrap .i64 (i7 + (1 : Int))) (IntKind.wrap .i64 (i7 + (1 : Int))) (B0 ++ ([s0.extract t2.1 t2.2] : List ByteArray)))
       else none
     else
       run_ratchetbase_Cut (.p244 s0 at1 from6 (IntKind.wrap .i64 (i7 + (1 : Int))) B0)
   else
     (span s0.size from6 (s0.size : Int)) >>= fun t3 =>
     if (fits (List.length B0) (List.length ([s0.extract t3.1 t3.2] : List ByteArray)) 16) = true then
       some (((), ()), (B0 ++ ([s0.extract t3.1 t3.2] : List ByteArray), ()))
     else none
  partial_fixpoint
noncomputable def tab_ratchetbase_Cut : List (Plc E P_ratchetbase_Cut) := [⟨244, [false, false, true, false, true, true, true], { slots := [0, 1, 5, 6, 7], rows := [(5, 9)], flat := [], keep := 0 }, (ByteArray × (Int × (Unit × (Int × (Int × Unit))))), ((List ByteArray) × Unit), (RdL.cons Rd.str (RdL.cons (Rd.int .u8) (RdL.cons (Rd.rw 0) (RdL.cons (Rd.int .i64) (RdL.cons (Rd.int .i64) RdL.nil))))), (RdBL.cons (RdB.row 9 false) RdBL.nil), fun a b => .p244 a.1 a.2.1 a.2.2.2.1 a.2.2.2.2.1 b.1⟩]
theorem tab_ratchetbase_Cut_ok : All (PlcOk 34 0 place_ratchetbase_Cut st_ratchetbase_Cut) tab_ratchetbase_Cut := ⟨⟨rfl, rfl, fun _ _ => rfl, fun _ _ => rfl⟩, trivial⟩
noncomputable def code_ratchetbase_Cut : Code := Tryz.f103.body.getD .skip
noncomputable def spec_ratchetbase_Cut : Spec E.S := noSpec
theorem spec_ratchetbase_Cut_ok : SpecOk E spec_ratchetbase_Cut := noSpec_ok
theorem good_ratchetbase_Cut : ∀ pt r, run_ratchetbase_Cut pt = some r → Good E Tryz.f103 code_ratchetbase_Cut 0 (res_ratchetbase_Cut.av r) (res_ratchetbase_Cut.bx r) (place_ratchetbase_Cut pt) (st_ratchetbase_Cut pt) := by
  refine run_ratchetbase_Cut.partial_correctness (fun pt r => Good E Tryz.f103 code_ratchetbase_Cut 0 (res_ratchetbase_Cut.av r) (res_ratchetbase_Cut.bx r) (place_ratchetbase_Cut pt) (st_ratchetbase_Cut pt)) ?_
  intro run' ih pt r hr
  cases pt <;> exact fn_step (spec := spec_ratchetbase_Cut) (wr := (mkWr [] [])) (l := tab_ratchetbase_Cut) (z := 34) (p := res_ratchetbase_Cut) E_ok tab_ratchetbase_Cut_ok.mem rfl spec_ratchetbase_Cut_ok ih (Eq.trans (by kernel_rfl) hr)
noncomputable def con_ratchetbase_Cut : Con E := ⟨103, (ByteArray × (Int × Unit)), Unit, (RwL.cons Rd.str.w (RwL.cons (Rd.int .u8).w RwL.nil)), RdBL.nil, 0, R_ratchetbase_Cut, fun a b => run_ratchetbase_Cut (.start a.1 a.2.1), res_ratchetbase_Cut.av, res_ratchetbase_Cut.bx⟩
theorem con_ratchetbase_Cut_ok : con_ratchetbase_Cut.Ok := fun a b r h => fn_ok (fn := Tryz.f103) (code := code_ratchetbase_Cut) E_ok (by kernel_rfl) (by kernel_rfl) (by kernel_rfl) (Nat.le_of_ble_eq_true rfl) (good_ratchetbase_Cut (.start a.1 a.2.1) r h)

/-! ### ratchet/ratchetref31.word -/
inductive P_ratchetref31_word where
 | start (op0 : Int)
noncomputable def place_ratchetref31_word : P_ratchetref31_word → List Bool
 | .start .. => []
noncomputable def st_ratchetref31_word : P_ratchetref31_word → St E.S
 | .start op0 => st0 7 [.v (.int .i64 op0)] []
abbrev R_ratchetref31_word : Type := ((ByteArray × Unit) × Unit)
noncomputable def res_ratchetref31_word : Res E (ByteArray × Unit) Unit := { rows := [], flat := [], keep := 0, done := [0], rl := (RdL.cons Rd.str RdL.nil), rb := RdBL.nil }
noncomputable def run_ratchetref31_word : P_ratchetref31_word → Option R_ratchetref31_word
 | .start op0 =>
   (idx ([(⟨#[104, 97, 108, 116]⟩ : ByteArray), (⟨#[115, 101, 116]⟩ : ByteArray), (⟨#[109, 111, 118, 101]⟩ : ByteArray), (⟨#[97, 100, 100]⟩ : ByteArray), (⟨#[115, 117, 98]⟩ : ByteArray), (⟨#[97, 110, 100]⟩ : ByteArray), (⟨#[108, 111, 97, 100]⟩ : ByteArray), (⟨#[115, 116, 111, 114, 101]⟩ : ByteArray), (⟨#[106, 117, 109, 112]⟩ : ByteArray), (⟨#[122, 101, 114, 111]⟩ : ByteArray)] : List ByteArray) op0) >>= fun t1 =>
   some ((t1, ()), ())
noncomputable def tab_ratchetref31_word : List (Plc E P_ratchetref31_word) := []
theorem tab_ratchetref31_word_ok : All (PlcOk 7 0 place_ratchetref31_word st_ratchetref31_word) tab_ratchetref31_word := trivial
noncomputable def code_ratchetref31_word : Code := Tryz.f105.body.getD .skip
noncomputable def spec_ratchetref31_word : Spec E.S := noSpec
theorem spec_ratchetref31_word_ok : SpecOk E spec_ratchetref31_word := noSpec_ok
theorem good_ratchetref31_word : ∀ pt r, run_ratchetref31_word pt = some r → Good E Tryz.f105 code_ratchetref31_word 0 (res_ratchetref31_word.av r) (res_ratchetref31_word.bx r) (place_ratchetref31_word pt) (st_ratchetref31_word pt) := by
  intro pt r hr
  cases pt <;> exact fn_step (spec := spec_ratchetref31_word) (wr := (mkWr [] [])) (l := tab_ratchetref31_word) (z := 7) (p := res_ratchetref31_word) (run' := fun _ => none) E_ok tab_ratchetref31_word_ok.mem rfl spec_ratchetref31_word_ok (fun _ _ h => by cases h) (Eq.trans (by kernel_rfl) hr)
noncomputable def con_ratchetref31_word : Con E := ⟨105, (Int × Unit), Unit, (RwL.cons (Rd.int .i64).w RwL.nil), RdBL.nil, 0, R_ratchetref31_word, fun a b => run_ratchetref31_word (.start a.1), res_ratchetref31_word.av, res_ratchetref31_word.bx⟩
theorem con_ratchetref31_word_ok : con_ratchetref31_word.Ok := fun a b r h => fn_ok (fn := Tryz.f105) (code := code_ratchetref31_word) E_ok (by kernel_rfl) (by kernel_rfl) (by kernel_rfl) (Nat.le_of_ble_eq_true rfl) (good_ratchetref31_word (.start a.1) r h)

/-! ### ratchet/ratchetref31.shape -/
inductive P_ratchetref31_shape where
 | start (op0 : Int)
noncomputable def place_ratchetref31_shape : P_ratchetref31_shape → List Bool
 | .start .. => []
noncomputable def st_ratchetref31_shape : P_ratchetref31_shape → St E.S
 | .start op0 => st0 7 [.v (.int .i64 op0)] []
abbrev R_ratchetref31_shape : Type := ((ByteArray × Unit) × Unit)
noncomputable def res_ratchetref31_shape : Res E (ByteArray × Unit) Unit := { rows := [], flat := [], keep := 0, done := [0], rl := (RdL.cons Rd.str RdL.nil), rb := RdBL.nil }
noncomputable def run_ratchetref31_shape : P_ratchetref31_shape → Option R_ratchetref31_shape
 | .start op0 =>
   (idx ([(⟨#[]⟩ : ByteArray), (⟨#[97, 110]⟩ : ByteArray), (⟨#[97, 98]⟩ : ByteArray), (⟨#[97, 98]⟩ : ByteArray), (⟨#[97, 98]⟩ : ByteArray), (⟨#[97, 98]⟩ : ByteArray), (⟨#[97, 98]⟩ : ByteArray), (⟨#[97, 98]⟩ : ByteArray), (⟨#[112]⟩ : ByteArray), (⟨#[97, 112]⟩ : ByteArray)] : List ByteArray) op0) >>= fun t1 =>
   some ((t1, ()), ())
noncomputable def tab_ratchetref31_shape : List (Plc E P_ratchetref31_shape) := []
theorem tab_ratchetref31_shape_ok : All (PlcOk 7 0 place_ratchetref31_shape st_ratchetref31_shape) tab_ratchetref31_shape := trivial
noncomputable def code_ratchetref31_shape : Code := Tryz.f106.body.getD .skip
noncomputable def spec_ratchetref31_shape : Spec E.S := noSpec
theorem spec_ratchetref31_shape_ok : SpecOk E spec_ratchetref31_shape := noSpec_ok
theorem good_ratchetref31_shape : ∀ pt r, run_ratchetref31_shape pt = some r → Good E Tryz.f106 code_ratchetref31_shape 0 (res_ratchetref31_shape.av r) (res_ratchetref31_shape.bx r) (place_ratchetref31_shape pt) (st_ratchetref31_shape pt) := by
  intro pt r hr
  cases pt <;> exact fn_step (spec := spec_ratchetref31_shape) (wr := (mkWr [] [])) (l := tab_ratchetref31_shape) (z := 7) (p := res_ratchetref31_shape) (run' := fun _ => none) E_ok tab_ratchetref31_shape_ok.mem rfl spec_ratchetref31_shape_ok (fun _ _ h => by cases h) (Eq.trans (by kernel_rfl) hr)
noncomputable def con_ratchetref31_shape : Con E := ⟨106, (Int × Unit), Unit, (RwL.cons (Rd.int .i64).w RwL.nil), RdBL.nil, 0, R_ratchetref31_shape, fun a b => run_ratchetref31_shape (.start a.1), res_ratchetref31_shape.av, res_ratchetref31_shape.bx⟩
theorem con_ratchetref31_shape_ok : con_ratchetref31_shape.Ok := fun a b r h => fn_ok (fn := Tryz.f106) (code := code_ratchetref31_shape) E_ok (by kernel_rfl) (by kernel_rfl) (by kernel_rfl) (Nat.le_of_ble_eq_true rfl) (good_ratchetref31_shape (.start a.1) r h)

/-! ### ratchet/ratchetbase.IsName -/
inductive P_ratchetbase_IsName where
 | start (s0 : ByteArray)
 | p7 (s0 : ByteArray)
 | p116 (s0 : ByteArray) (i3 : Int)
 | p3731 (s0 : ByteArray) (i3 : Int) (c4 : Int) (letter5 : Bool)
noncomputable def place_ratchetbase_IsName : P_ratchetbase_IsName → List Bool
 | .start .. => []
 | .p7 .. => [true, true]
 | .p116 .. => [false, false, true, false, true, true]
 | .p3731 .. => [true, true, false, false, true, false, false, true, false, true, true]
noncomputable def st_ratchetbase_IsName : P_ratchetbase_IsName → St E.S
 | .start s0 => st0 55 [.v (.string s0)] []
 | .p7 s0 => mkSt 55 [0] [.v (.string s0)] []
 | .p116 s0 i3 => mkSt 55 [0, 3] [.v (.string s0), .v (.int .i64 i3)] []
 | .p3731 s0 i3 c4 letter5 => mkSt 55 [0, 3, 4, 5] [.v (.string s0), .v (.int .i64 i3), .v (.int .u8 c4), .v (.bool letter5)] []
abbrev R_ratchetbase_IsName : Type := ((Bool × Unit) × Unit)
noncomputable def res_ratchetbase_IsName : Res E (Bool × Unit) Unit := { rows := [], flat := [], keep := 0, done := [0], rl := (RdL.cons Rd.bool RdL.nil), rb := RdBL.nil }
noncomputable def run_ratchetbase_IsName : P_ratchetbase_IsName → Option R_ratchetbase_IsName
 | .start s0 =>
   if (decide ((s0.size : Int) < (1 : Int))) = true then
     some ((false, ()), ())
   else
     if (decide ((s0.size : Int) > (16 : Int))) = true then
       some ((false, ()), ())
     else
       run_ratchetbase_IsName (.p7 s0)
 | .p7 s0 =>
   run_ratchetbase_IsName (.p116 s0 (0 : Int))
 | .p116 s0 i3 =>
   if (decide (i3 < (s0.size : Int))) = true then
     (sidx s0 i3) >>= fun t1 =>
     if (decide (t1 ≥ (97 : Int))) = true then
       if (decide (t1 ≤ (122 : Int))) = true then
         run_ratchetbase_IsName (.p3731 s0 i3 t1 true)
       else
         if (decide (t1 ≥ (65 : Int))) = true then
           run_ratchetbase_IsName (.p3731 s0 i3 t1 (decide (t1 ≤ (90 : Int))))
         else
           run_ratchetbase_IsName (.p3731 s0 i3 t1 false)
     else
       if (decide (t1 ≥ (65 : Int))) = true then
         run_ratchetbase_IsName (.p3731 s0 i3 t1 (decide (t1 ≤ (90 : Int))))
       else
         run_ratchetbase_IsName (.p3731 s0 i3 t1 false)
   else
     some ((true, ()), ())
 | .p3731 s0 i3 c4 letter5 =>
   if (!letter5) = true then
     if (i3 == (0 : Int)) = true then
       some ((false, ()), ())
     else
       if (c4 != (95 : Int)) = true then
         if (decide (c4 < (48 : Int))) = true then
           some ((false, ()), ())
         else
           if (decide (c4 > (57 : Int))) = true then
             some ((false, ()), ())
           else
             run_ratchetbase_IsName (.p116 s0 (IntKind.wrap .i64 (i3 + (1 : Int))))
       else
         run_ratchetbase_IsName (.p116 s0 (IntKind.wrap .i64 (i3 + (1 : Int))))
   else
     run_ratchetbase_IsName (.p116 s0 (IntKind.wrap .i64 (i3 + (1 : Int))))
  partial_fixpoint
noncomputable def tab_ratchetbase_IsName : List (Plc E P_ratchetbase_IsName) := [⟨7, [true, true], { slots := [0], rows := [], flat := [], keep := 0 }, (ByteArray × Unit), Unit, (RdL.cons Rd.str RdL.nil), RdBL.nil, fun a b => .p7 a.1⟩,
  ⟨116, [false, false, true, false, true, true], { slots := [0, 3], rows := [], flat := [], keep := 0 }, (ByteArray × (Int × Unit)), Unit, (RdL.cons Rd.str (RdL.cons (Rd.int .i64) RdL.nil)), RdBL.nil, fun a b => .p116 a.1 a.2.1⟩,
  ⟨3731, [true, true, false, false, true, false, false, true, false, true, true], { slots := [0, 3, 4, 5], rows := [], flat := [], keep := 0 }, (ByteArray × (Int × (Int × (Bool × Unit)))), Unit, (RdL.cons Rd.str (RdL.cons (Rd.int .i64) (RdL.cons (Rd.int .u8) (RdL.cons Rd.bool RdL.nil)))), RdBL.nil, fun a b => .p3731 a.1 a.2.1 a.2.2.1 a.2.2.2.1⟩]
theorem tab_ratchetbase_IsName_ok : All (PlcOk 55 0 place_ratchetbase_IsName st_ratchetbase_IsName) tab_ratchetbase_IsName := ⟨⟨rfl, rfl, fun _ _ => rfl, fun _ _ => rfl⟩, ⟨⟨rfl, rfl, fun _ _ => rfl, fun _ _ => rfl⟩, ⟨⟨rfl, rfl, fun _ _ => rfl, fun _ _ => rfl⟩, trivial⟩⟩⟩
noncomputable def code_ratchetbase_IsName : Code := Tryz.f136.body.getD .skip
noncomputable def spec_ratchetbase_IsName : Spec E.S := noSpec
theorem spec_ratchetbase_IsName_ok : SpecOk E spec_ratchetbase_IsName := noSpec_ok
theorem good_ratchetbase_IsName : ∀ pt r, run_ratchetbase_IsName pt = some r → Good E Tryz.f136 code_ratchetbase_IsName 0 (res_ratchetbase_IsName.av r) (res_ratchetbase_IsName.bx r) (place_ratchetbase_IsName pt) (st_ratchetbase_IsName pt) := by
  refine run_ratchetbase_IsName.partial_correctness (fun pt r => Good E Tryz.f136 code_ratchetbase_IsName 0 (res_ratchetbase_IsName.av r) (res_ratchetbase_IsName.bx r) (place_ratchetbase_IsName pt) (st_ratchetbase_IsName pt)) ?_
  intro run' ih pt r hr
  cases pt <;> exact fn_step (spec := spec_ratchetbase_IsName) (wr := (mkWr [] [])) (l := tab_ratchetbase_IsName) (z := 55) (p := res_ratchetbase_IsName) E_ok tab_ratchetbase_IsName_ok.mem rfl spec_ratchetbase_IsName_ok ih (Eq.trans (by kernel_rfl) hr)
noncomputable def con_ratchetbase_IsName : Con E := ⟨136, (ByteArray × Unit), Unit, (RwL.cons Rd.str.w RwL.nil), RdBL.nil, 0, R_ratchetbase_IsName, fun a b => run_ratchetbase_IsName (.start a.1), res_ratchetbase_IsName.av, res_ratchetbase_IsName.bx⟩
theorem con_ratchetbase_IsName_ok : con_ratchetbase_IsName.Ok := fun a b r h => fn_ok (fn := Tryz.f136) (code := code_ratchetbase_IsName) E_ok (by kernel_rfl) (by kernel_rfl) (by kernel_rfl) (Nat.le_of_ble_eq_true rfl) (good_ratchetbase_IsName (.start a.1) r h)

/-! ### ratchet/ratchetbase.HasText -/
inductive P_ratchetbase_HasText where
 | start (l0 : (List ByteArray)) (s1 : ByteArray)
 | p52 (l0 : (List ByteArray)) (s1 : ByteArray) (i5 : Int)
noncomputable def place_ratchetbase_HasText : P_ratchetbase_HasText → List Bool
 | .start .. => []
 | .p52 .. => [false, false, true, false, true]
noncomputable def st_ratchetbase_HasText : P_ratchetbase_HasText → St E.S
 | .start l0 s1 => st0 18 [.sl 9 l0 false, .v (.string s1)] []
 | .p52 l0 s1 i5 => mkSt 18 [0, 1, 5] [.sl 9 l0 false, .v (.string s1), .v (.int .i64 i5)] []
abbrev R_ratchetbase_HasText : Type := ((Bool × Unit) × Unit)
noncomputable def res_ratchetbase_HasText : Res E (Bool × Unit) Unit := { rows := [], flat := [], keep := 0, done := [0], rl := (RdL.cons Rd.bool RdL.nil), rb := RdBL.nil }
noncomputable def run_ratchetbase_HasText : P_ratchetbase_HasText → Option R_ratchetbase_HasText
 | .start l0 s1 =>
   run_ratchetbase_HasText (.p52 l0 s1 (0 : Int))
 | .p52 l0 s1 i5 =>
   if (decide (i5 < (List.length l0 : Int))) = true then
     (idx l0 i5) >>= fun t1 =>
     if (seq t1 s1) = true then
       some ((true, ()), ())
     else
       run_ratchetbase_HasText (.p52 l0 s1 (IntKind.wrap .i64 (i5 + (1 : Int))))
   else
     some ((false, ()), ())
  partial_fixpoint
noncomputable def tab_ratchetbase_HasText : List (Plc E P_ratchetbase_HasText) := [⟨52, [false, false, true, false, true], { slots := [0, 1, 5], rows := [], flat := [], keep := 0 }, ((List ByteArray) × (ByteArray × (Int × Unit))), Unit, (RdL.cons (Rd.sl 9 false) (RdL.cons Rd.str (RdL.cons (Rd.int .i64) RdL.nil))), RdBL.nil, fun a b => .p52 a.1 a.2.1 a.2.2.1⟩]
theorem tab_ratchetbase_HasText_ok : All (PlcOk 18 0 place_ratchetbase_HasText st_ratchetbase_HasText) tab_ratchetbase_HasText := ⟨⟨rfl, rfl, fun _ _ => rfl, fun _ _ => rfl⟩, trivial⟩
noncomputable def code_ratchetbase_HasText : Code := Tryz.f159.body.getD .skip
noncomputable def spec_ratchetbase_HasText : Spec E.S := noSpec
theorem spec_ratchetbase_HasText_ok : SpecOk E spec_ratchetbase_HasText := noSpec_ok
theorem good_ratchetbase_HasText : ∀ pt r, run_ratchetbase_HasText pt = some r → Good E Tryz.f159 code_ratchetbase_HasText 0 (res_ratchetbase_HasText.av r) (res_ratchetbase_HasText.bx r) (place_ratchetbase_HasText pt) (st_ratchetbase_HasText pt) := by
  refine run_ratchetbase_HasText.partial_correctness (fun pt r => Good E Tryz.f159 code_ratchetbase_HasText 0 (res_ratchetbase_HasText.av r) (res_ratchetbase_HasText.bx r) (place_ratchetbase_HasText pt) (st_ratchetbase_HasText pt)) ?_
  intro run' ih pt r hr
  cases pt <;> exact fn_step (spec := spec_ratchetbase_HasText) (wr := (mkWr [] [])) (l := tab_ratchetbase_HasText) (z := 18) (p := res_ratchetbase_HasText) E_ok tab_ratchetbase_HasText_ok.mem rfl spec_ratchetbase_HasText_ok ih (Eq.trans (by kernel_rfl) hr)
noncomputable def con_ratchetbase_HasText : Con E := ⟨159, ((List ByteArray) × (ByteArray × Unit)), Unit, (RwL.cons (Rw.sl 9) (RwL.cons Rd.str.w RwL.nil)), RdBL.nil, 0, R_ratchetbase_HasText, fun a b => run_ratchetbase_HasText (.start a.1 a.2.1), res_ratchetbase_HasText.av, res_ratchetbase_HasText.bx⟩
theorem con_ratchetbase_HasText_ok : con_ratchetbase_HasText.Ok := fun a b r h => fn_ok (fn := Tryz.f159) (code := code_ratchetbase_HasText) E_ok (by kernel_rfl) (by kernel_rfl) (by kernel_rfl) (Nat.le_of_ble_eq_true rfl) (good_ratchetbase_HasText (.start a.1 a.2.1) r h)

/-! ### ratchet/ratchetref31.register -/
inductive P_ratchetref31_register where
 | start (s0 : ByteArray)
noncomputable def place_ratchetref31_register : P_ratchetref31_register → List Bool
 | .start .. => []
noncomputable def st_ratchetref31_register : P_ratchetref31_register → St E.S
 | .start s0 => st0 26 [.v (.string s0)] []
abbrev R_ratchetref31_register : Type := ((Int × (Bool × Unit)) × Unit)
noncomputable def res_ratchetref31_register : Res E (Int × (Bool × Unit)) Unit := { rows := [], flat := [], keep := 0, done := [0, 1], rl := (RdL.cons (Rd.int .i64) (RdL.cons Rd.bool RdL.nil)), rb := RdBL.nil }
noncomputable def run_ratchetref31_register : P_ratchetref31_register → Option R_ratchetref31_register
 | .start s0 =>
   if ((s0.size : Int) != (2 : Int)) = true then
     some (((0 : Int), (false, ())), ())
   else
     (sidx s0 (0 : Int)) >>= fun t1 =>
     if (t1 != (114 : Int)) = true then
       some (((0 : Int), (false, ())), ())
     else
       (sidx s0 (1 : Int)) >>= fun t2 =>
       if (decide (t2 < (48 : Int))) = true then
         some (((0 : Int), (false, ())), ())
       else
         (sidx s0 (1 : Int)) >>= fun t3 =>
         if (decide (t3 > (51 : Int))) = true then
           some (((0 : Int), (false, ())), ())
         else
           (sidx s0 (1 : Int)) >>= fun t4 =>
           some ((IntKind.wrap .i64 (IntKind.wrap .u8 (t4 - (48 : Int))), (true, ())), ())
noncomputable def tab_ratchetref31_register : List (Plc E P_ratchetref31_register) := []
theorem tab_ratchetref31_register_ok : All (PlcOk 26 0 place_ratchetref31_register st_ratchetref31_register) tab_ratchetref31_register := trivial
noncomputable def code_ratchetref31_register : Code := Tryz.f156.body.getD .skip
noncomputable def spec_ratchetref31_register : Spec E.S := noSpec
theorem spec_ratchetref31_register_ok : SpecOk E spec_ratchetref31_register := noSpec_ok
theorem good_ratchetref31_register : ∀ pt r, run_ratchetref31_register pt = some r → Good E Tryz.f156 code_ratchetref31_register 0 (res_ratchetref31_register.av r) (res_ratchetref31_register.bx r) (place_ratchetref31_register pt) (st_ratchetref31_register pt) := by
  intro pt r hr
  cases pt <;> exact fn_step (spec := spec_ratchetref31_register) (wr := (mkWr [] [])) (l := tab_ratchetref31_register) (z := 26) (p := res_ratchetref31_register) (run' := fun _ => none) E_ok tab_ratchetref31_register_ok.mem rfl spec_ratchetref31_register_ok (fun _ _ h => by cases h) (Eq.trans (by kernel_rfl) hr)
noncomputable def con_ratchetref31_register : Con E := ⟨156, (ByteArray × Unit), Unit, (RwL.cons Rd.str.w RwL.nil), RdBL.nil, 0, R_ratchetref31_register, fun a b => run_ratchetref31_register (.start a.1), res_ratchetref31_register.av, res_ratchetref31_register.bx⟩
theorem con_ratchetref31_register_ok : con_ratchetref31_register.Ok := fun a b r h => fn_ok (fn := Tryz.f156) (code := code_ratchetref31_register) E_ok (by kernel_rfl) (by kernel_rfl) (by kernel_rfl) (Nat.le_of_ble_eq_true rfl) (good_ratchetref31_register (.start a.1) r h)

/-! ### ratchet/ratchetref31.isNumeric -/
inductive P_ratchetref31_isNumeric where
 | start (s0 : ByteArray)
noncomputable def place_ratchetref31_isNumeric : P_ratchetref31_isNumeric → List Bool
 | .start .. => []
noncomputable def st_ratchetref31_isNumeric : P_ratchetref31_isNumeric → St E.S
 | .start s0 => st0 16 [.v (.string s0)] []
abbrev R_ratchetref31_isNumeric : Type := ((Bool × Unit) × Unit)
noncomputable def res_ratchetref31_isNumeric : Res E (Bool × Unit) Unit := { rows := [], flat := [], keep := 0, done := [0], rl := (RdL.cons Rd.bool RdL.nil), rb := RdBL.nil }
noncomputable def run_ratchetref31_isNumeric : P_ratchetref31_isNumeric → Option R_ratchetref31_isNumeric
 | .start s0 =>
   (sidx s0 (0 : Int)) >>= fun t1 =>
   if (decide (t1 ≥ (48 : Int))) = true then
     (sidx s0 (0 : Int)) >>= fun t2 =>
     if (decide (t2 ≤ (57 : Int))) = true then
       some ((true, ()), ())
     else
       (sidx s0 (0 : Int)) >>= fun t3 =>
       some ((t3 == (45 : Int), ()), ())
   else
     (sidx s0 (0 : Int)) >>= fun t4 =>
     some ((t4 == (45 : Int), ()), ())
noncomputable def tab_ratchetref31_isNumeric : List (Plc E P_ratchetref31_isNumeric) := []
theorem tab_ratchetref31_isNumeric_ok : All (PlcOk 16 0 place_ratchetref31_isNumeric st_ratchetref31_isNumeric) tab_ratchetref31_isNumeric := trivial
noncomputable def code_ratchetref31_isNumeric : Code := Tryz.f157.body.getD .skip
noncomputable def spec_ratchetref31_isNumeric : Spec E.S := noSpec
theorem spec_ratchetref31_isNumeric_ok : SpecOk E spec_ratchetref31_isNumeric := noSpec_ok
theorem good_ratchetref31_isNumeric : ∀ pt r, run_ratchetref31_isNumeric pt = some r → Good E Tryz.f157 code_ratchetref31_isNumeric 0 (res_ratchetref31_isNumeric.av r) (res_ratchetref31_isNumeric.bx r) (place_ratchetref31_isNumeric pt) (st_ratchetref31_isNumeric pt) := by
  intro pt r hr
  cases pt <;> exact fn_step (spec := spec_ratchetref31_isNumeric) (wr := (mkWr [] [])) (l := tab_ratchetref31_isNumeric) (z := 16) (p := res_ratchetref31_isNumeric) (run' := fun _ => none) E_ok tab_ratchetref31_isNumeric_ok.mem rfl spec_ratchetref31_isNumeric_ok (fun _ _ h => by cases h) (Eq.trans (by kernel_rfl) hr)
noncomputable def con_ratchetref31_isNumeric : Con E := ⟨157, (ByteArray × Unit), Unit, (RwL.cons Rd.str.w RwL.nil), RdBL.nil, 0, R_ratchetref31_isNumeric, fun a b => run_ratchetref31_isNumeric (.start a.1), res_ratchetref31_isNumeric.av, res_ratchetref31_isNumeric.bx⟩
theorem con_ratchetref31_isNumeric_ok : con_ratchetref31_isNumeric.Ok := fun a b r h => fn_ok (fn := Tryz.f157) (code := code_ratchetref31_isNumeric) E_ok (by kernel_rfl) (by kernel_rfl) (by kernel_rfl) (Nat.le_of_ble_eq_true rfl) (good_ratchetref31_isNumeric (.start a.1) r h)

/-! ### ratchet/ratchetbase.Number -/
inductive P_ratchetbase_Number where
 | start (s0 : ByteArray) (digits1 : Int)
 | p15 (s0 : ByteArray) (digits1 : Int) (at6 : Int)
 | p31 (s0 : ByteArray) (at6 : Int)
 | p1012 (s0 : ByteArray) (at6 : Int) (n7 : Int) (i8 : Int)
 | p16201 (s0 : ByteArray) (at6 : Int) (n7 : Int) (i8 : Int)
noncomputable def place_ratchetbase_Number : P_ratchetbase_Number → List Bool
 | .start .. => []
 | .p15 .. => [true, true, true]
 | .p31 .. => [true, true, true, true]
 | .p1012 .. => [false, false, true, false, true, true, true, true, true]
 | .p16201 .. => [true, false, false, true, false, false, true, false, true, true, true, true, true]
noncomputable def st_ratchetbase_Number : P_ratchetbase_Number → St E.S
 | .start s0 digits1 => st0 70 [.v (.string s0), .v (.int .i64 digits1)] []
 | .p15 s0 digits1 at6 => mkSt 70 [0, 1, 6] [.v (.string s0), .v (.int .i64 digits1), .v (.int .i64 at6)] []
 | .p31 s0 at6 => mkSt 70 [0, 6] [.v (.string s0), .v (.int .i64 at6)] []
 | .p1012 s0 at6 n7 i8 => mkSt 70 [0, 6, 7, 8] [.v (.string s0), .v (.int .i64 at6), .v (.int .i64 n7), .v (.int .i64 i8)] []
 | .p16201 s0 at6 n7 i8 => mkSt 70 [0, 6, 7, 8] [.v (.string s0), .v (.int .i64 at6), .v (.int .i64 n7), .v (.int .i64 i8)] []
abbrev R_ratchetbase_Number : Type := ((Int × (Bool × Unit)) × Unit)
noncomputable def res_ratchetbase_Number : Res E (Int × (Bool × Unit)) Unit := { rows := [], flat := [], keep := 0, done := [0, 1], rl := (RdL.cons (Rd.int .i64) (RdL.cons Rd.bool RdL.nil)), rb := RdBL.nil }
noncomputable def run_ratchetbase_Number : P_ratchetbase_Number → Option R_ratchetbase_Number
 | .start s0 digits1 =>
   if (decide ((s0.size : Int) > (0 : Int))) = true then
     (sidx s0 (0 : Int)) >>= fun t1 =>
     if (t1 == (45 : Int)) = true then
       run_ratchetbase_Number (.p15 s0 digits1 (1 : Int))
     else
       run_ratchetbase_Number (.p15 s0 digits1 (0 : Int))
   else
     run_ratchetbase_Number (.p15 s0 digits1 (0 : Int))
 | .p15 s0 digits1 at6 =>
   if ((s0.size : Int) == at6) = true then
     some (((0 : Int), (false, ())), ())
   else
     if (decide ((IntKind.wrap .i64 ((s0.size : Int) - at6)) > digits1)) = true then
       some (((0 : Int), (false, ())), ())
     else
       (sidx s0 at6) >>= fun t1 =>
       if (t1 == (48 : Int)) = true then
         if (decide ((s0.size : Int) > (1 : Int))) = true then
           some (((0 : Int), (false, ())), ())
         else
           run_ratchetbase_Number (.p31 s0 at6)
       else
         run_ratchetbase_Number (.p31 s0 at6)
 | .p31 s0 at6 =>
   run_ratchetbase_Number (.p1012 s0 at6 (0 : Int) at6)
 | .p1012 s0 at6 n7 i8 =>
   if (decide (i8 < (s0.size : Int))) = true then
     (sidx s0 i8) >>= fun t1 =>
     if (decide (t1 < (48 : Int))) = true then
       some (((0 : Int), (false, ())), ())
     else
       (sidx s0 i8) >>= fun t2 =>
       if (decide (t2 > (57 : Int))) = true then
         some (((0 : Int), (false, ())), ())
       else
         run_ratchetbase_Number (.p16201 s0 at6 n7 i8)
   else
     if (at6 == (1 : Int)) = true then
       some ((IntKind.wrap .i64 (0 - n7), (true, ())), ())
     else
       some ((n7, (true, ())), ())
 | .p16201 s0 at6 n7 i8 =>
   (sidx s0 i8) >>= fun t1 =>
   run_ratchetbase_Number (.p1012 s0 at6 (IntKind.wrap .i64 ((IntKind.wrap .i64 ((10 : Int) * n7)) + (IntKind.wrap .i64 (IntKind.wrap .u8 (t1 - (48 : Int)))))) (IntKind.wrap .i64 (i8 + (1 : Int))))
  partial_fixpoint
noncomputable def tab_ratchetbase_Number : List (Plc E P_ratchetbase_Number) := [⟨15, [true, true, true], { slots := [0, 1, 6], rows := [], flat := [], keep := 0 }, (ByteArray × (Int × (Int × Unit))), Unit, (RdL.cons Rd.str (RdL.cons (Rd.int .i64) (RdL.cons (Rd.int .i64) RdL.nil))), RdBL.nil, fun a b => .p15 a.1 a.2.1 a.2.2.1⟩,
  ⟨31, [true, true, true, true], { slots := [0, 6], rows := [], flat := [], keep := 0 }, (ByteArray × (Int × Unit)), Unit, (RdL.cons Rd.str (RdL.cons (Rd.int .i64) RdL.nil)), RdBL.nil, fun a b => .p31 a.1 a.2.1⟩,
  ⟨1012, [false, false, true, false, true, true, true, true, true], { slots := [0, 6, 7, 8], rows := [], flat := [], keep := 0 }, (ByteArray × (Int × (Int × (Int × Unit)))), Unit, (RdL.cons Rd.str (RdL.cons (Rd.int .i64) (RdL.cons (Rd.int .i64) (RdL.cons (Rd.int .i64) RdL.nil)))), RdBL.nil, fun a b => .p1012 a.1 a.2.1 a.2.2.1 a.2.2.2.1⟩,
  ⟨16201, [true, false, false, true, false, false, true, false, true, true, true, true, true], { slots := [0, 6, 7, 8], rows := [], flat := [], keep := 0 }, (ByteArray × (Int × (Int × (Int × Unit)))), Unit, (RdL.cons Rd.str (RdL.cons (Rd.int .i64) (RdL.cons (Rd.int .i64) (RdL.cons (Rd.int .i64) RdL.nil)))), RdBL.nil, fun a b => .p16201 a.1 a.2.1 a.2.2.1 a.2.2.2.1⟩]
theorem tab_ratchetbase_Number_ok : All (PlcOk 70 0 place_ratchetbase_Number st_ratchetbase_Number) tab_ratchetbase_Number := ⟨⟨rfl, rfl, fun _ _ => rfl, fun _ _ => rfl⟩, ⟨⟨rfl, rfl, fun _ _ => rfl, fun _ _ => rfl⟩, ⟨⟨rfl, rfl, fun _ _ => rfl, fun _ _ => rfl⟩, ⟨⟨rfl, rfl, fun _ _ => rfl, fun _ _ => rfl⟩, trivial⟩⟩⟩⟩
noncomputable def code_ratchetbase_Number : Code := Tryz.f158.body.getD .skip
noncomputable def spec_ratchetbase_Number : Spec E.S := noSpec
theorem spec_ratchetbase_Number_ok : SpecOk E spec_ratchetbase_Number := noSpec_ok
theorem good_ratchetbase_Number : ∀ pt r, run_ratchetbase_Number pt = some r → Good E Tryz.f158 code_ratchetbase_Number 0 (res_ratchetbase_Number.av r) (res_ratchetbase_Number.bx r) (place_ratchetbase_Number pt) (st_ratchetbase_Number pt) := by
  refine run_ratchetbase_Number.partial_correctness (fun pt r => Good E Tryz.f158 code_ratchetbase_Number 0 (res_ratchetbase_Number.av r) (res_ratchetbase_Number.bx r) (place_ratchetbase_Number pt) (st_ratchetbase_Number pt)) ?_
  intro run' ih pt r hr
  cases pt <;> exact fn_step (spec := spec_ratchetbase_Number) (wr := (mkWr [] [])) (l := tab_ratchetbase_Number) (z := 70) (p := res_ratchetbase_Number) E_ok tab_ratchetbase_Number_ok.mem rfl spec_ratchetbase_Number_ok ih (Eq.trans (by kernel_rfl) hr)
noncomputable def con_ratchetbase_Number : Con E := ⟨158, (ByteArray × (Int × Unit)), Unit, (RwL.cons Rd.str.w (RwL.cons (Rd.int .i64).w RwL.nil)), RdBL.nil, 0, R_ratchetbase_Number, fun a b => run_ratchetbase_Number (.start a.1 a.2.1), res_ratchetbase_Number.av, res_ratchetbase_Number.bx⟩
theorem con_ratchetbase_Number_ok : con_ratchetbase_Number.Ok := fun a b r h => fn_ok (fn := Tryz.f158) (code := code_ratchetbase_Number) E_ok (by kernel_rfl) (by kernel_rfl) (by kernel_rfl) (Nat.le_of_ble_eq_true rfl) (good_ratchetbase_Number (.start a.1 a.2.1) r h)

/-! ### ratchet/ratchetref31.read -/
inductive P_ratchetref31_read where
 | start (s0 : ByteArray) (labels1 : (List ByteArray))
 | p244 (s0 : ByteArray) (labels1 : (List ByteArray)) (i8 : Int) (B0_0 : Int) (B0_1 : Int) (B0_2 : Int) (B0_3 : Int) (B0_4 : ByteArray) (B0_5 : ByteArray) (B1_0 : Int) (B1_1 : Int) (B1_2 : Int) (B1_3 : Int) (B1_4 : ByteArray) (B1_5 : ByteArray) (B2 : (List ByteArray))
 | p63 (s0 : ByteArray) (labels1 : (List ByteArray)) (w7 : (List ByteArray)) (B0_0 : Int) (B0_1 : Int) (B0_2 : Int) (B0_3 : Int) (B0_4 : ByteArray) (B0_5 : ByteArray) (B1_0 : Int) (B1_1 : Int) (B1_2 : Int) (B1_3 : Int) (B1_4 : ByteArray) (B1_5 : ByteArray)
 | p4084 (labels1 : (List ByteArray)) (w7 : (List ByteArray)) (labelled10 : Bool) (op11 : Int) (i12 : Int) (B0_0 : Int) (B0_1 : Int) (B0_2 : Int) (B0_3 : Int) (B0_4 : ByteArray) (B0_5 : ByteArray) (B1_0 : Int) (B1_1 : Int) (B1_2 : Int) (B1_3 : Int) (B1_4 : ByteArray) (B1_5 : ByteArray)
 | p1023 (labels1 : (List ByteArray)) (w7 : (List ByteArray)) (labelled10 : Bool) (op11 : Int) (B0_0 : Int) (B0_1 : Int) (B0_2 : Int) (B0_3 : Int) (B0_4 : ByteArray) (B0_5 : ByteArray) (B1_0 : Int) (B1_1 : Int) (B1_2 : Int) (B1_3 : Int) (B1_4 : ByteArray) (B1_5 : ByteArray)
 | p65524 (labels1 : (List ByteArray)) (w7 : (List ByteArray)) (labelled10 : Bool) (op11 : Int) (large13 : Bool) (k14 : Int) (B0_0 : Int) (B0_1 : Int) (B0_2 : Int) (B0_3 : Int) (B0_4 : ByteArray) (B0_5 : ByteArray) (B1_0 : Int) (B1_1 : Int) (B1_2 : Int) (B1_3 : Int) (B1_4 : ByteArray) (B1_5 : ByteArray)
 | p8387149 (labels1 : (List ByteArray)) (w7 : (List ByteArray)) (labelled10 : Bool) (op11 : Int) (large13 : Bool) (k14 : Int) (x15 : ByteArray) (s149 : Bool) (B0_0 : Int) (B0_1 : Int) (B0_2 : Int) (B0_3 : Int) (B0_4 : ByteArray) (B0_5 : ByteArray) (B1_0 : Int) (B1_1 : Int) (B1_2 : Int) (B1_3 : Int) (B1_4 : ByteArray) (B1_5 : ByteArray)
 | p134194397 (labels1 : (List ByteArray)) (w7 : (List ByteArray)) (labelled10 : Bool) (op11 : Int) (large13 : Bool) (k14 : Int) (x15 : ByteArray) (place18 : Bool) (s118 : Bool) (B0_0 : Int) (B0_1 : Int) (B0_2 : Int) (B0_3 : Int) (B0_4 : ByteArray) (B0_5 : ByteArray) (B1_0 : Int) (B1_1 : Int) (B1_2 : Int) (B1_3 : Int) (B1_4 : ByteArray) (B1_5 : ByteArray)
 | p268388799 (labels1 : (List ByteArray)) (w7 : (List ByteArray)) (labelled10 : Bool) (op11 : Int) (k14 : Int) (place18 : Bool) (n19 : Int) (B0_0 : Int) (B0_1 : Int) (B0_2 : Int) (B0_3 : Int) (B0_4 : ByteArray) (B0_5 : ByteArray) (B1_0 : Int) (B1_1 : Int) (B1_2 : Int) (B1_3 : Int) (B1_4 : ByteArray) (B1_5 : ByteArray)
 | p16383 (large13 : Bool) (B0_0 : Int) (B0_1 : Int) (B0_2 : Int) (B0_3 : Int) (B0_4 : ByteArray) (B0_5 : ByteArray) (B1_0 : Int) (B1_1 : Int) (B1_2 : Int) (B1_3 : Int) (B1_4 : ByteArray) (B1_5 : ByteArray)
noncomputable def place_ratchetref31_read : P_ratchetref31_read → List Bool
 | .start .. => []
 | .p244 .. => [false, false, true, false, true, true, true]
 | .p63 .. => [true, true, true, true, true]
 | .p4084 .. => [false, false, true, false, true, true, true, true, true, true, true]
 | .p1023 .. => [true, true, true, true, true, true, true, true, true]
 | .p65524 .. => [false, false, true, false, true, true, true, true, true, true, true, true, true, true, true]
 | .p8387149 .. => [true, false, true, true, false, false, true, false, false, true, false, true, true, true, true, true, true, true, true, true, true, true]
 | .p134194397 .. => [true, false, true, true, true, false, true, true, false, false, true, false, false, true, false, true, true, true, true, true, true, true, true, true, true, true]
 | .p268388799 .. => [true, true, true, true, true, true, false, true, true, false, false, true, false, false, true, false, true, true, true, true, true, true, true, true, true, true, true]
 | .p16383 .. => [true, true, true, true, true, true, true, true, true, true, true, true, true]
noncomputable def st_ratchetref31_read : P_ratchetref31_read → St E.S
 | .start s0 labels1 => st0 185 [.v (.string s0), .sl 9 labels1 false] []
 | .p244 s0 labels1 i8 B0_0 B0_1 B0_2 B0_3 B0_4 B0_5 B1_0 B1_1 B1_2 B1_3 B1_4 B1_5 B2 => mkSt 185 [0, 1, 4, 6, 7, 8] [.v (.string s0), .sl 9 labels1 false, .bp 0 0, .bp 1 0, .rw 2, .v (.int .i64 i8)] [.var 172 [.v (.int .i64 B0_0), .v (.int .i64 B0_1), .v (.int .i64 B0_2), .v (.int .i64 B0_3), .v (.string B0_4), .v (.string B0_5)], .var 172 [.v (.int .i64 B1_0), .v (.int .i64 B1_1), .v (.int .i64 B1_2), .v (.int .i64 B1_3), .v (.string B1_4), .v (.string B1_5)], .row 9 B2 true]
 | .p63 s0 labels1 w7 B0_0 B0_1 B0_2 B0_3 B0_4 B0_5 B1_0 B1_1 B1_2 B1_3 B1_4 B1_5 => mkSt 185 [0, 1, 4, 6, 7] [.v (.string s0), .sl 9 labels1 false, .bp 0 0, .bp 1 0, .sl 9 w7 false] [.var 172 [.v (.int .i64 B0_0), .v (.int .i64 B0_1), .v (.int .i64 B0_2), .v (.int .i64 B0_3), .v (.string B0_4), .v (.string B0_5)], .var 172 [.v (.int .i64 B1_0), .v (.int .i64 B1_1), .v (.int .i64 B1_2), .v (.int .i64 B1_3), .v (.string B1_4), .v (.string B1_5)]]
 | .p4084 labels1 w7 labelled10 op11 i12 B0_0 B0_1 B0_2 B0_3 B0_4 B0_5 B1_0 B1_1 B1_2 B1_3 B1_4 B1_5 => mkSt 185 [1, 4, 6, 7, 10, 11, 12] [.sl 9 labels1 false, .bp 0 0, .bp 1 0, .sl 9 w7 false, .v (.bool labelled10), .v (.int .i64 op11), .v (.int .i64 i12)] [.var 172 [.v (.int .i64 B0_0), .v (.int .i64 B0_1), .v (.int .i64 B0_2), .v (.int .i64 B0_3), .v (.string B0_4), .v (.string B0_5)], .var 172 [.v (.int .i64 B1_0), .v (.int .i64 B1_1), .v (.int .i64 B1_2), .v (.int .i64 B1_3), .v (.string B1_4), .v (.string B1_5)]]
 | .p1023 labels1 w7 labelled10 op11 B0_0 B0_1 B0_2 B0_3 B0_4 B0_5 B1_0 B1_1 B1_2 B1_3 B1_4 B1_5 => mkSt 185 [1, 4, 6, 7, 10, 11] [.sl 9 labels1 false, .bp 0 0, .bp 1 0, .sl 9 w7 false, .v (.bool labelled10), .v (.int .i64 op11)] [.var 172 [.v (.int .i64 B0_0), .v (.int .i64 B0_1), .v (.int .i64 B0_2), .v (.int .i64 B0_3), .v (.string B0_4), .v (.string B0_5)], .var 172 [.v (.int .i64 B1_0), .v (.int .i64 B1_1), .v (.int .i64 B1_2), .v (.int .i64 B1_3), .v (.string B1_4), .v (.string B1_5)]]
 | .p65524 labels1 w7 labelled10 op11 large13 k14 B0_0 B0_1 B0_2 B0_3 B0_4 B0_5 B1_0 B1_1 B1_2 B1_3 B1_4 B1_5 => mkSt 185 [1, 4, 6, 7, 10, 11, 13, 14] [.sl 9 labels1 false, .bp 0 0, .bp 1 0, .sl 9 w7 false, .v (.bool labelled10), .v (.int .i64 op11), .v (.bool large13), .v (.int .i64 k14)] [.var 172 [.v (.int .i64 B0_0), .v (.int .i64 B0_1), .v (.int .i64 B0_2), .v (.int .i64 B0_3), .v (.string B0_4), .v (.string B0_5)], .var 172 [.v (.int .i64 B1_0), .v (.int .i64 B1_1), .v (.int .i64 B1_2), .v (.int .i64 B1_3), .v (.string B1_4), .v (.string B1_5)]]
 | .p8387149 labels1 w7 labelled10 op11 large13 k14 x15 s149 B0_0 B0_1 B0_2 B0_3 B0_4 B0_5 B1_0 B1_1 B1_2 B1_3 B1_4 B1_5 => mkSt 185 [1, 4, 6, 7, 10, 11, 13, 14, 15, 149] [.sl 9 labels1 false, .bp 0 0, .bp 1 0, .sl 9 w7 false, .v (.bool labelled10), .v (.int .i64 op11), .v (.bool large13), .v (.int .i64 k14), .v (.string x15), .v (.bool s149)] [.var 172 [.v (.int .i64 B0_0), .v (.int .i64 B0_1), .v (.int .i64 B0_2), .v (.int .i64 B0_3), .v (.string B0_4), .v (.string B0_5)], .var 172 [.v (.int .i64 B1_0), .v (.int .i64 B1_1), .v (.int .i64 B1_2), .v (.int .i64 B1_3), .v (.string B1_4), .v (.string B1_5)]]
 | .p134194397 labels1 w7 labelled10 op11 large13 k14 x15 place18 s118 B0_0 B0_1 B0_2 B0_3 B0_4 B0_5 B1_0 B1_1 B1_2 B1_3 B1_4 B1_5 => mkSt 185 [1, 4, 6, 7, 10, 11, 13, 14, 15, 18, 118] [.sl 9 labels1 false, .bp 0 0, .bp 1 0, .sl 9 w7 false, .v (.bool labelled10), .v (.int .i64 op11), .v (.bool large13), .v (.int .i64 k14), .v (.string x15), .v (.bool place18), .v (.bool s118)] [.var 172 [.v (.int .i64 B0_0), .v (.int .i64 B0_1), .v (.int .i64 B0_2), .v (.int .i64 B0_3), .v (.string B0_4), .v (.string B0_5)], .var 172 [.v (.int .i64 B1_0), .v (.int .i64 B1_1), .v (.int .i64 B1_2), .v (.int .i64 B1_3), .v (.string B1_4), .v (.string B1_5)]]
 | .p268388799 labels1 w7 labelled10 op11 k14 place18 n19 B0_0 B0_1 B0_2 B0_3 B0_4 B0_5 B1_0 B1_1 B1_2 B1_3 B1_4 B1_5 => mkSt 185 [1, 4, 6, 7, 10, 11, 14, 18, 19] [.sl 9 labels1 false, .bp 0 0, .bp 1 0, .sl 9 w7 false, .v (.bool labelled10), .v (.int .i64 op11), .v (.int .i64 k14), .v (.bool place18), .v (.int .i64 n19)] [.var 172 [.v (.int .i64 B0_0), .v (.int .i64 B0_1), .v (.int .i64 B0_2), .v (.int .i64 B0_3), .v (.string B0_4), .v (.string B0_5)], .var 172 [.v (.int .i64 B1_0), .v (.int .i64 B1_1), .v (.int .i64 B1_2), .v (.int .i64 B1_3), .v (.string B1_4), .v (.string B1_5)]]
 | .p16383 large13 B0_0 B0_1 B0_2 B0_3 B0_4 B0_5 B1_0 B1_1 B1_2 B1_3 B1_4 B1_5 => mkSt 185 [4, 6, 13] [.bp 0 0, .bp 1 0, .v (.bool large13)] [.var 172 [.v (.int .i64 B0_0), .v (.int .i64 B0_1), .v (.int .i64 B0_2), .v (.int .i64 B0_3), .v (.string B0_4), .v (.string B0_5)], .var 172 [.v (.int .i64 B1_0), .v (.int .i64 B1_1), .v (.int .i64 B1_2), .v (.int .i64 B1_3), .v (.string B1_4), .v (.string B1_5)]]
abbrev R_ratchetref31_read : Type := (((Int × (Int × (Int × (Int × (ByteArray × (ByteArray × Unit)))))) × (Int × Unit)) × Unit)
noncomputable def res_ratchetref31_read : Res E ((Int × (Int × (Int × (Int × (ByteArray × (ByteArray × Unit)))))) × (Int × Unit)) Unit := { rows := [], flat := [], keep := 0, done := [0, 1], rl := (RdL.cons (Rd.agg (RdL.cons (Rd.int .i64) (RdL.cons (Rd.int .i64) (RdL.cons (Rd.int .i64) (RdL.cons (Rd.int .i64) (RdL.cons Rd.str (RdL.cons Rd.str RdL.nil))))))) (RdL.cons (Rd.int .i64) RdL.nil)), rb := RdBL.nil }
noncomputable def run_ratchetref31_read : P_ratchetref31_read → Option R_ratchetref31_read
 | .start s0 labels1 =>
   (run_ratchetbase_Cut (.start s0 (32 : Int))) >>= fun t1 =>
   run_ratchetref31_read (.p244 s0 labels1 (0 : Int) (0 : Int) (0 : Int) (0 : Int) (0 : Int) (⟨#[]⟩ : ByteArray) (⟨#[]⟩ : ByteArray) (0 : Int) (0 : Int) (0 : Int) (0 : Int) (⟨#[]⟩ : ByteArray) (⟨#[]⟩ : ByteArray) t1.2.1)
 | .p244 s0 labels1 i8 B0_0 B0_1 B0_2 B0_3 B0_4 B0_5 B1_0 B1_1 B1_2 B1_3 B1_4 B1_5 B2 =>
   if (decide (i8 < (List.length B2 : Int))) = true then
     if (decide ((0 : Int) ≤ i8) && decide (i8 < (List.length B2 : Int))) = true then
       (idx B2 i8) >>= fun t1 =>
       if (seq t1 (⟨#[]⟩ : ByteArray)) = true then
         some (((B1_0, (B1_1, (B1_2, (B1_3, (B1_4, (B1_5, ())))))), ((7 : Int), ())), ())
       else
         run_ratchetref31_read (.p244 s0 labels1 (IntKind.wrap .i64 (i8 + (1 : Int))) B0_0 B0_1 B0_2 B0_3 B0_4 B0_5 B1_0 B1_1 B1_2 B1_3 B1_4 B1_5 B2)
     else none
   else
     if (decide ((0 : Int) ≤ (0 : Int)) && decide ((0 : Int) < (List.length B2 : Int))) = true then
       (idx B2 (0 : Int)) >>= fun t2 =>
       if (decide ((0 : Int) ≤ (0 : Int)) && decide ((0 : Int) < (List.length B2 : Int))) = true then
         (idx B2 (0 : Int)) >>= fun t3 =>
         (sidx t3 (IntKind.wrap .i64 ((t2.size : Int) - (1 : Int)))) >>= fun t4 =>
         if (t4 == (58 : Int)) = true then
           if (decide ((0 : Int) ≤ (0 : Int)) && decide ((0 : Int) < (List.length B2 : Int))) = true then
             (idx B2 (0 : Int)) >>= fun t5 =>
             (span t5.size (0 : Int) (IntKind.wrap .i64 ((t2.size : Int) - (1 : Int)))) >>= fun t6 =>
             (span (List.length B2) (1 : Int) (List.length B2 : Int)) >>= fun t7 =>
             if ((List.length (cut B2 t7) : Int) == (0 : Int)) = true then
               some (((B1_0, (B1_1, (B1_2, (B1_3, (t5.extract t6.1 t6.2, (B1_5, ())))))), ((7 : Int), ())), ())
             else
               run_ratchetref31_read (.p63 s0 labels1 (cut B2 t7) B0_0 B0_1 B0_2 B0_3 B0_4 B0_5 B1_0 B1_1 B1_2 B1_3 (t5.extract t6.1 t6.2) B1_5)
           else none
         else
           run_ratchetref31_read (.p63 s0 labels1 B2 B0_0 B0_1 B0_2 B0_3 B0_4 B0_5 B1_0 B1_1 B1_2 B1_3 (⟨#[]⟩ : ByteArray) B1_5)
       else none
     else none
 | .p63 s0 labels1 w7 B0_0 B0_1 B0_2 B0_3 B0_4 B0_5 B1_0 B1_1 B1_2 B1_3 B1_4 B1_5 =>
   (run_ratchetbase_Cut (.start s0 (32 : Int))) >>= fun t1 =>
   run_ratchetref31_read (.p4084 labels1 w7 (decide ((List.length w7 : Int) < (List.length t1.2.1 : Int))) (-1 : Int) (0 : Int) B0_0 B0_1 B0_2 B0_3 B0_4 B0_5 B1_0 B1_1 B1_2 B1_3 B1_4 B1_5)
 | .p4084 labels1 w7 labelled10 op11 i12 B0_0 B0_1 B0_2 B0_3 B0_4 B0_5 B1_0 B1_1 B1_2 B1_3 B1_4 B1_5 =>
   if (decide (i12 < (10 : Int))) = true then
     (run_ratchetref31_word (.start i12)) >>= fun t1 =>
     (idx w7 (0 : Int)) >>= fun t2 =>
     if (seq t1.1.1 t2) = true then
       run_ratchetref31_read (.p4084 labels1 w7 labelled10 i12 (IntKind.wrap .i64 (i12 + (1 : Int))) B0_0 B0_1 B0_2 B0_3 B0_4 B0_5 B1_0 B1_1 B1_2 B1_3 B1_4 B1_5)
     else
       run_ratchetref31_read (.p4084 labels1 w7 labelled10 op11 (IntKind.wrap .i64 (i12 + (1 : Int))) B0_0 B0_1 B0_2 B0_3 B0_4 B0_5 B1_0 B1_1 B1_2 B1_3 B1_4 B1_5)
   else
     if (decide (op11 < (0 : Int))) = true then
       some (((B1_0, (B1_1, (B1_2, (B1_3, (B1_4, (B1_5, ())))))), ((7 : Int), ())), ())
     else
       (run_ratchetref31_shape (.start op11)) >>= fun t3 =>
       if ((IntKind.wrap .i64 ((List.length w7 : Int) - (1 : Int))) != (t3.1.1.size : Int)) = true then
         some (((B1_0, (B1_1, (B1_2, (B1_3, (B1_4, (B1_5, ())))))), ((7 : Int), ())), ())
       else
         run_ratchetref31_read (.p1023 labels1 w7 labelled10 op11 B0_0 B0_1 B0_2 B0_3 B0_4 B0_5 B1_0 B1_1 B1_2 B1_3 B1_4 B1_5)
 | .p1023 labels1 w7 labelled10 op11 B0_0 B0_1 B0_2 B0_3 B0_4 B0_5 B1_0 B1_1 B1_2 B1_3 B1_4 B1_5 =>
   run_ratchetref31_read (.p65524 labels1 w7 labelled10 op11 false (0 : Int) B0_0 B0_1 B0_2 B0_3 B0_4 B0_5 op11 B1_1 B1_2 B1_3 B1_4 B1_5)
 | .p65524 labels1 w7 labelled10 op11 large13 k14 B0_0 B0_1 B0_2 B0_3 B0_4 B0_5 B1_0 B1_1 B1_2 B1_3 B1_4 B1_5 =>
   (run_ratchetref31_shape (.start op11)) >>= fun t1 =>
   if (decide (k14 < (t1.1.1.size : Int))) = true then
     (idx w7 (IntKind.wrap .i64 (k14 + (1 : Int)))) >>= fun t2 =>
     (run_ratchetref31_shape (.start op11)) >>= fun t3 =>
     (sidx t3.1.1 k14) >>= fun t4 =>
     if (t4 == (97 : Int)) = true then
       run_ratchetref31_read (.p8387149 labels1 w7 labelled10 op11 large13 k14 t2 (t4 == (97 : Int)) B0_0 B0_1 B0_2 B0_3 B0_4 B0_5 B1_0 B1_1 B1_2 B1_3 B1_4 B1_5)
     else
       run_ratchetref31_read (.p8387149 labels1 w7 labelled10 op11 large13 k14 t2 (t4 == (98 : Int)) B0_0 B0_1 B0_2 B0_3 B0_4 B0_5 B1_0 B1_1 B1_2 B1_3 B1_4 B1_5)
   else
     if labelled10 = true then
       (run_ratchetbase_IsName (.start B1_4)) >>= fun t5 =>
       if (!t5.1.1) = true then
         some (((B1_0, (B1_1, (B1_2, (B1_3, (B1_4, (B1_5, ())))))), ((4 : Int), ())), ())
       else
         (run_ratchetbase_HasText (.start labels1 B1_4)) >>= fun t6 =>
         if t6.1.1 = true then
           some (((B1_0, (B1_1, (B1_2, (B1_3, (B1_4, (B1_5, ())))))), ((5 : Int), ())), ())
         else
           run_ratchetref31_read (.p16383 large13 B0_0 B0_1 B0_2 B0_3 B0_4 B0_5 B1_0 B1_1 B1_2 B1_3 B1_4 B1_5)
     else
       run_ratchetref31_read (.p16383 large13 B0_0 B0_1 B0_2 B0_3 B0_4 B0_5 B1_0 B1_1 B1_2 B1_3 B1_4 B1_5)
 | .p8387149 labels1 w7 labelled10 op11 large13 k14 x15 s149 B0_0 B0_1 B0_2 B0_3 B0_4 B0_5 B1_0 B1_1 B1_2 B1_3 B1_4 B1_5 =>
   if s149 = true then
     (run_ratchetref31_register (.start x15)) >>= fun t1 =>
     if (!t1.1.2.1) = true then
       some (((B1_0, (B1_1, (B1_2, (B1_3, (B1_4, (B1_5, ())))))), ((7 : Int), ())), ())
     else
       (run_ratchetref31_shape (.start op11)) >>= fun t2 =>
       (sidx t2.1.1 k14) >>= fun t3 =>
       if (t3 == (97 : Int)) = true then
         run_ratchetref31_read (.p65524 labels1 w7 labelled10 op11 large13 (IntKind.wrap .i64 (k14 + (1 : Int))) B0_0 B0_1 B0_2 B0_3 B0_4 B0_5 B1_0 t1.1.1 B1_2 B1_3 B1_4 B1_5)
       else
         run_ratchetref31_read (.p65524 labels1 w7 labelled10 op11 large13 (IntKind.wrap .i64 (k14 + (1 : Int))) B0_0 B0_1 B0_2 B0_3 B0_4 B0_5 B1_0 B1_1 t1.1.1 B1_3 B1_4 B1_5)
   else
     (run_ratchetref31_shape (.start op11)) >>= fun t4 =>
     (sidx t4.1.1 k14) >>= fun t5 =>
     if (t5 == (112 : Int)) = true then
       (run_ratchetref31_isNumeric (.start x15)) >>= fun t6 =>
       run_ratchetref31_read (.p134194397 labels1 w7 labelled10 op11 large13 k14 x15 (t5 == (112 : Int)) (!t6.1.1) B0_0 B0_1 B0_2 B0_3 B0_4 B0_5 B1_0 B1_1 B1_2 B1_3 B1_4 B1_5)
     else
       run_ratchetref31_read (.p134194397 labels1 w7 labelled10 op11 large13 k14 x15 (t5 == (112 : Int)) false B0_0 B0_1 B0_2 B0_3 B0_4 B0_5 B1_0 B1_1 B1_2 B1_3 B1_4 B1_5)
 | .p134194397 labels1 w7 labelled10 op11 large13 k14 x15 place18 s118 B0_0 B0_1 B0_2 B0_3 B0_4 B0_5 B1_0 B1_1 B1_2 B1_3 B1_4 B1_5 =>
   if s118 = true then
     (run_ratchetbase_IsName (.start x15)) >>= fun t1 =>
     if (!t1.1.1) = true then
       some (((B1_0, (B1_1, (B1_2, (B1_3, (B1_4, (B1_5, ())))))), ((7 : Int), ())), ())
     else
       run_ratchetref31_read (.p65524 labels1 w7 labelled10 op11 large13 (IntKind.wrap .i64 (k14 + (1 : Int))) B0_0 B0_1 B0_2 B0_3 B0_4 B0_5 B1_0 B1_1 B1_2 B1_3 B1_4 x15)
   else
     (run_ratchetbase_Number (.start x15 (3 : Int))) >>= fun t2 =>
     if (!t2.1.2.1) = true then
       some (((B1_0, (B1_1, (B1_2, (B1_3, (B1_4, (B1_5, ())))))), ((7 : Int), ())), ())
     else
       if (decide (t2.1.1 < (0 : Int))) = true then
         some (((B1_0, (B1_1, (B1_2, (B1_3, (B1_4, (B1_5, ())))))), ((7 : Int), ())), ())
       else
         run_ratchetref31_read (.p268388799 labels1 w7 labelled10 op11 k14 place18 t2.1.1 B0_0 B0_1 B0_2 B0_3 B0_4 B0_5 B1_0 B1_1 B1_2 B1_3 B1_4 B1_5)
 | .p268388799 labels1 w7 labelled10 op11 k14 place18 n19 B0_0 B0_1 B0_2 B0_3 B0_4 B0_5 B1_0 B1_1 B1_2 B1_3 B1_4 B1_5 =>
   if (decide (n19 > (255 : Int))) = true then
     run_ratchetref31_read (.p65524 labels1 w7 labelled10 op11 true (IntKind.wrap .i64 (k14 + (1 : Int))) B0_0 B0_1 B0_2 B0_3 B0_4 B0_5 B1_0 B1_1 B1_2 n19 B1_4 B1_5)
   else
     if place18 = true then
       run_ratchetref31_read (.p65524 labels1 w7 labelled10 op11 (decide (n19 ≥ (16 : Int))) (IntKind.wrap .i64 (k14 + (1 : Int))) B0_0 B0_1 B0_2 B0_3 B0_4 B0_5 B1_0 B1_1 B1_2 n19 B1_4 B1_5)
     else
       run_ratchetref31_read (.p65524 labels1 w7 labelled10 op11 false (IntKind.wrap .i64 (k14 + (1 : Int))) B0_0 B0_1 B0_2 B0_3 B0_4 B0_5 B1_0 B1_1 B1_2 n19 B1_4 B1_5)
 | .p16383 large13 B0_0 B0_1 B0_2 B0_3 B0_4 B0_5 B1_0 B1_1 B1_2 B1_3 B1_4 B1_5 =>
   if large13 = true then
     some (((B1_0, (B1_1, (B1_2, (B1_3, (B1_4, (B1_5, ())))))), ((2 : Int), ())), ())
   else
     some (((B1_0, (B1_1, (B1_2, (B1_3, (B1_4, (B1_5, ())))))), ((0 : Int), ())), ())
  partial_fixpoint
noncomputable def tab_ratchetref31_read : List (Plc E P_ratchetref31_read) := [⟨244, [false, false, true, false, true, true, true], { slots := [0, 1, 4, 6, 7, 8], rows := [], flat := [], keep := 0 }, (ByteArray × ((List ByteArray) × (Unit × (Unit × (Unit × (Int × Unit)))))), ((Int × (Int × (Int × (Int × (ByteArray × (ByteArray × Unit)))))) × ((Int × (Int × (Int × (Int × (ByteArray × (ByteArray × Unit)))))) × ((List ByteArray) × Unit))), (RdL.cons Rd.str (RdL.cons (Rd.sl 9 false) (RdL.cons (Rd.bp 0 0) (RdL.cons (Rd.bp 1 0) (RdL.cons (Rd.rw 2) (RdL.cons (Rd.int .i64) RdL.nil)))))), (RdBL.cons (RdB.var 172 (RdL.cons (Rd.int .i64) (RdL.cons (Rd.int .i64) (RdL.cons (Rd.int .i64) (RdL.cons (Rd.int .i64) (RdL.cons Rd.str (RdL.cons Rd.str RdL.nil))))))) (RdBL.cons (RdB.var 172 (RdL.cons (Rd.int .i64) (RdL.cons (Rd.int .i64) (RdL.cons (Rd.int .i64) (RdL.cons (Rd.int .i64) (RdL.cons Rd.str (RdL.cons Rd.str RdL.nil))))))) (RdBL.cons (RdB.row 9 true) RdBL.nil))), fun a b => .p244 a.1 a.2.1 a.2.2.2.2.2.1 b.1.1 b.1.2.1 b.1.2.2.1 b.1.2.2.2.1 b.1.2.2.2.2.1 b.1.2.2.2.2.2.1 b.2.1.1 b.2.1.2.1 b.2.1.2.2.1 b.2.1.2.2.2.1 b.2.1.2.2.2.2.1 b.2.1.2.2.2.2.2.1 b.2.2.1⟩,
  ⟨63, [true, true, true, true, true], { slots := [0, 1, 4, 6, 7], rows := [], flat := [(7, 9)], keep := 0, done := [7] }, (ByteArray × ((List ByteArray) × (Unit × (Unit × ((List ByteArray) × Unit))))), ((Int × (Int × (Int × (Int × (ByteArray × (ByteArray × Unit)))))) × ((Int × (Int × (Int × (Int × (ByteArray × (ByteArray × Unit)))))) × Unit)), (RdL.cons Rd.str (RdL.cons (Rd.sl 9 false) (RdL.cons (Rd.bp 0 0) (RdL.cons (Rd.bp 1 0) (RdL.cons (Rd.sl 9 false) RdL.nil))))), (RdBL.cons (RdB.var 172 (RdL.cons (Rd.int .i64) (RdL.cons (Rd.int .i64) (RdL.cons (Rd.int .i64) (RdL.cons (Rd.int .i64) (RdL.cons Rd.str (RdL.cons Rd.str RdL.nil))))))) (RdBL.cons (RdB.var 172 (RdL.cons (Rd.int .i64) (RdL.cons (Rd.int .i64) (RdL.cons (Rd.int .i64) (RdL.cons (Rd.int .i64) (RdL.cons Rd.str (RdL.cons Rd.str RdL.nil))))))) RdBL.nil)), fun a b => .p63 a.1 a.2.1 a.2.2.2.2.1 b.1.1 b.1.2.1 b.1.2.2.1 b.1.2.2.2.1 b.1.2.2.2.2.1 b.1.2.2.2.2.2.1 b.2.1.1 b.2.1.2.1 b.2.1.2.2.1 b.2.1.2.2.2.1 b.2.1.2.2.2.2.1 b.2.1.2.2.2.2.2.1⟩,
  ⟨4084, [false, false, true, false, true, true, true, true, true, true, true], { slots := [1, 4, 6, 7, 10, 11, 12], rows := [], flat := [], keep := 0 }, ((List ByteArray) × (Unit × (Unit × ((List ByteArray) × (Bool × (Int × (Int × Unit))))))), ((Int × (Int × (Int × (Int × (ByteArray × (ByteArray × Unit)))))) × ((Int × (Int × (Int × (Int × (ByteArray × (ByteArray × Unit)))))) × Unit)), (RdL.cons (Rd.sl 9 false) (RdL.cons (Rd.bp 0 0) (RdL.cons (Rd.bp 1 0) (RdL.cons (Rd.sl 9 false) (RdL.cons Rd.bool (RdL.cons (Rd.int .i64) (RdL.cons (Rd.int .i64) RdL.nil))))))), (RdBL.cons (RdB.var 172 (RdL.cons (Rd.int .i64) (RdL.cons (Rd.int .i64) (RdL.cons (Rd.int .i64) (RdL.cons (Rd.int .i64) (RdL.cons Rd.str (RdL.cons Rd.str RdL.nil))))))) (RdBL.cons (RdB.var 172 (RdL.cons (Rd.int .i64) (RdL.cons (Rd.int .i64) (RdL.cons (Rd.int .i64) (RdL.cons (Rd.int .i64) (RdL.cons Rd.str (RdL.cons Rd.str RdL.nil))))))) RdBL.nil)), fun a b => .p4084 a.1 a.2.2.2.1 a.2.2.2.2.1 a.2.2.2.2.2.1 a.2.2.2.2.2.2.1 b.1.1 b.1.2.1 b.1.2.2.1 b.1.2.2.2.1 b.1.2.2.2.2.1 b.1.2.2.2.2.2.1 b.2.1.1 b.2.1.2.1 b.2.1.2.2.1 b.2.1.2.2.2.1 b.2.1.2.2.2.2.1 b.2.1.2.2.2.2.2.1⟩,
  ⟨1023, [true, true, true, true, true, true, true, true, true], { slots := [1, 4, 6, 7, 10, 11], rows := [], flat := [], keep := 0 }, ((List ByteArray) × (Unit × (Unit × ((List ByteArray) × (Bool × (Int × Unit)))))), ((Int × (Int × (Int × (Int × (ByteArray × (ByteArray × Unit)))))) × ((Int × (Int × (Int × (Int × (ByteArray × (ByteArray × Unit)))))) × Unit)), (RdL.cons (Rd.sl 9 false) (RdL.cons (Rd.bp 0 0) (RdL.cons (Rd.bp 1 0) (RdL.cons (Rd.sl 9 false) (RdL.cons Rd.bool (RdL.cons (Rd.int .i64) RdL.nil)))))), (RdBL.cons (RdB.var 172 (RdL.cons (Rd.int .i64) (RdL.cons (Rd.int .i64) (RdL.cons (Rd.int .i64) (RdL.cons (Rd.int .i64) (RdL.cons Rd.str (RdL.cons Rd.str RdL.nil))))))) (RdBL.cons (RdB.var 172 (RdL.cons (Rd.int .i64) (RdL.cons (Rd.int .i64) (RdL.cons (Rd.int .i64) (RdL.cons (Rd.int .i64) (RdL.cons Rd.str (RdL.cons Rd.str RdL.nil))))))) RdBL.nil)), fun a b => .p1023 a.1 a.2.2.2.1 a.2.2.2.2.1 a.2.2.2.2.2.1 b.1.1 b.1.2.1 b.1.2.2.1 b.1.2.2.2.1 b.1.2.2.2.2.1 b.1.2.2.2.2.2.1 b.2.1.1 b.2.1.2.1 b.2.1.2.2.1 b.2.1.2.2.2.1 b.2.1.2.2.2.2.1 b.2.1.2.2.2.2.2.1⟩,
  ⟨65524, [false, false, true, false, true, true, true, true, true, true, true, true, true, true, true], { slots := [1, 4, 6, 7, 10, 11, 13, 14], rows := [], flat := [], keep := 0 }, ((List ByteArray) × (Unit × (Unit × ((List ByteArray) × (Bool × (Int × (Bool × (Int × Unit)))))))), ((Int × (Int × (Int × (Int × (ByteArray × (ByteArray × Unit)))))) × ((Int × (Int × (Int × (Int × (ByteArray × (ByteArray × Unit)))))) × Unit)), (RdL.cons (Rd.sl 9 false) (RdL.cons (Rd.bp 0 0) (RdL.cons (Rd.bp 1 0) (RdL.cons (Rd.sl 9 false) (RdL.cons Rd.bool (RdL.cons (Rd.int .i64) (RdL.cons Rd.bool (RdL.cons (Rd.int .i64) RdL.nil)))))))), (RdBL.cons (RdB.var 172 (RdL.cons (Rd.int .i64) (RdL.cons (Rd.int .i64) (RdL.cons (Rd.int .i64) (RdL.cons (Rd.int .i64) (RdL.cons Rd.str (RdL.cons Rd.str RdL.nil))))))) (RdBL.cons (RdB.var 172 (RdL.cons (Rd.int .i64) (RdL.cons (Rd.int .i64) (RdL.cons (Rd.int .i64) (RdL.cons (Rd.int .i64) (RdL.cons Rd.str (RdL.cons Rd.str RdL.nil))))))) RdBL.nil)), fun a b => .p65524 a.1 a.2.2.2.1 a.2.2.2.2.1 a.2.2.2.2.2.1 a.2.2.2.2.2.2.1 a.2.2.2.2.2.2.2.1 b.1.1 b.1.2.1 b.1.2.2.1 b.1.2.2.2.1 b.1.2.2.2.2.1 b.1.2.2.2.2.2.1 b.2.1.1 b.2.1.2.1 b.2.1.2.2.1 b.2.1.2.2.2.1 b.2.1.2.2.2.2.1 b.2.1.2.2.2.2.2.1⟩,
  ⟨8387149, [true, false, true, true, false, false, true, false, false, true, false, true, true, true, true, true, true, true, true, true, true, true], { slots := [1, 4, 6, 7, 10, 11, 13, 14, 15, 149], rows := [], flat := [], keep := 0 }, ((List ByteArray) × (Unit × (Unit × ((List ByteArray) × (Bool × (Int × (Bool × (Int × (ByteArray × (Bool × Unit)))))))))), ((Int × (Int × (Int × (Int × (ByteArray × (ByteArray × Unit)))))) × ((Int × (Int × (Int × (Int × (ByteArray × (ByteArray × Unit)))))) × Unit)), (RdL.cons (Rd.sl 9 false) (RdL.cons (Rd.bp 0 0) (RdL.cons (Rd.bp 1 0) (RdL.cons (Rd.sl 9 false) (RdL.cons Rd.bool (RdL.cons (Rd.int .i64) (RdL.cons Rd.bool (RdL.cons (Rd.int .i64) (RdL.cons Rd.str (RdL.cons Rd.bool RdL.nil)))))))))), (RdBL.cons (RdB.var 172 (RdL.cons (Rd.int .i64) (RdL.cons (Rd.int .i64) (RdL.cons (Rd.int .i64) (RdL.cons (Rd.int .i64) (RdL.cons Rd.str (RdL.cons Rd.str RdL.nil))))))) (RdBL.cons (RdB.var 172 (RdL.cons (Rd.int .i64) (RdL.cons (Rd.int .i64) (RdL.cons (Rd.int .i64) (RdL.cons (Rd.int .i64) (RdL.cons Rd.str (RdL.cons Rd.str RdL.nil))))))) RdBL.nil)), fun a b => .p8387149 a.1 a.2.2.2.1 a.2.2.2.2.1 a.2.2.2.2.2.1 a.2.2.2.2.2.2.1 a.2.2.2.2.2.2.2.1 a.2.2.2.2.2.2.2.2.1 a.2.2.2.2.2.2.2.2.2.1 b.1.1 b.1.2.1 b.1.2.2.1 b.1.2.2.2.1 b.1.2.2.2.2.1 b.1.2.2.2.2.2.1 b.2.1.1 b.2.1.2.1 b.2.1.2.2.1 b.2.1.2.2.2.1 b.2.1.2.2.2.2.1 b.2.1.2.2.2.2.2.1⟩,
  ⟨134194397, [true, false, true, true, true, false, true, true, false, false, true, false, false, true, false, true, true, true, true, true, true, true, true, true, true, true], { slots := [1, 4, 6, 7, 10, 11, 13, 14, 15, 18, 118], rows := [], flat := [], keep := 0 }, ((List ByteArray) × (Unit × (Unit × ((List ByteArray) × (Bool × (Int × (Bool × (Int × (ByteArray × (Bool × (Bool × Unit))))))))))), ((Int × (Int × (Int × (Int × (ByteArray × (ByteArray × Unit)))))) × ((Int × (Int × (Int × (Int × (ByteArray × (ByteArray × Unit)))))) × Unit)), (RdL.cons (Rd.sl 9 false) (RdL.cons (Rd.bp 0 0) (RdL.cons (Rd.bp 1 0) (RdL.cons (Rd.sl 9 false) (RdL.cons Rd.bool (RdL.cons (Rd.int .i64) (RdL.cons Rd.bool (RdL.cons (Rd.int .i64) (RdL.cons Rd.str (RdL.cons Rd.bool (RdL.cons Rd.bool RdL.nil))))))))))), (RdBL.cons (RdB.var 172 (RdL.cons (Rd.int .i64) (RdL.cons (Rd.int .i64) (RdL.cons (Rd.int .i64) (RdL.cons (Rd.int .i64) (RdL.cons Rd.str (RdL.cons Rd.str RdL.nil))))))) (RdBL.cons (RdB.var 172 (RdL.cons (Rd.int .i64) (RdL.cons (Rd.int .i64) (RdL.cons (Rd.int .i64) (RdL.cons (Rd.int .i64) (RdL.cons Rd.str (RdL.cons Rd.str RdL.nil))))))) RdBL.nil)), fun a b => .p134194397 a.1 a.2.2.2.1 a.2.2.2.2.1 a.2.2.2.2.2.1 a.2.2.2.2.2.2.1 a.2.2.2.2.2.2.2.1 a.2.2.2.2.2.2.2.2.1 a.2.2.2.2.2.2.2.2.2.1 a.2.2.2.2.2.2.2.2.2.2.1 b.1.1 b.1.2.1 b.1.2.2.1 b.1.2.2.2.1 b.1.2.2.2.2.1 b.1.2.2.2.2.2.1 b.2.1.1 b.2.1.2.1 b.2.1.2.2.1 b.2.1.2.2.2.1 b.2.1.2.2.2.2.1 b.2.1.2.2.2.2.2.1⟩,
  ⟨268388799, [true, true, true, true, true, true, false, true, true, false, false, true, false, false, true, false, true, true, true, true, true, true, true, true, true, true, true], { slots := [1, 4, 6, 7, 10, 11, 14, 18, 19], rows := [], flat := [], keep := 0 }, ((List ByteArray) × (Unit × (Unit × ((List ByteArray) × (Bool × (Int × (Int × (Bool × (Int × Unit))))))))), ((Int × (Int × (Int × (Int × (ByteArray × (ByteArray × Unit)))))) × ((Int × (Int × (Int × (Int × (ByteArray × (ByteArray × Unit)))))) × Unit)), (RdL.cons (Rd.sl 9 false) (RdL.cons (Rd.bp 0 0) (RdL.cons (Rd.bp 1 0) (RdL.cons (Rd.sl 9 false) (RdL.cons Rd.bool (RdL.cons (Rd.int .i64) (RdL.cons (Rd.int .i64) (RdL.cons Rd.bool (RdL.cons (Rd.int .i64) RdL.nil))))))))), (RdBL.cons (RdB.var 172 (RdL.cons (Rd.int .i64) (RdL.cons (Rd.int .i64) (RdL.cons (Rd.int .i64) (RdL.cons (Rd.int .i64) (RdL.cons Rd.str (RdL.cons Rd.str RdL.nil))))))) (RdBL.cons (RdB.var 172 (RdL.cons (Rd.int .i64) (RdL.cons (Rd.int .i64) (RdL.cons (Rd.int .i64) (RdL.cons (Rd.int .i64) (RdL.cons Rd.str (RdL.cons Rd.str RdL.nil))))))) RdBL.nil)), fun a b => .p268388799 a.1 a.2.2.2.1 a.2.2.2.2.1 a.2.2.2.2.2.1 a.2.2.2.2.2.2.1 a.2.2.2.2.2.2.2.1 a.2.2.2.2.2.2.2.2.1 b.1.1 b.1.2.1 b.1.2.2.1 b.1.2.2.2.1 b.1.2.2.2.2.1 b.1.2.2.2.2.2.1 b.2.1.1 b.2.1.2.1 b.2.1.2.2.1 b.2.1.2.2.2.1 b.2.1.2.2.2.2.1 b.2.1.2.2.2.2.2.1⟩,
  ⟨16383, [true, true, true, true, true, true, true, true, true, true, true, true, true], { slots := [4, 6, 13], rows := [], flat := [], keep := 0 }, (Unit × (Unit × (Bool × Unit))), ((Int × (Int × (Int × (Int × (ByteArray × (ByteArray × Unit)))))) × ((Int × (Int × (Int × (Int × (ByteArray × (ByteArray × Unit)))))) × Unit)), (RdL.cons (Rd.bp 0 0) (RdL.cons (Rd.bp 1 0) (RdL.cons Rd.bool RdL.nil))), (RdBL.cons (RdB.var 172 (RdL.cons (Rd.int .i64) (RdL.cons (Rd.int .i64) (RdL.cons (Rd.int .i64) (RdL.cons (Rd.int .i64) (RdL.cons Rd.str (RdL.cons Rd.str RdL.nil))))))) (RdBL.cons (RdB.var 172 (RdL.cons (Rd.int .i64) (RdL.cons (Rd.int .i64) (RdL.cons (Rd.int .i64) (RdL.cons (Rd.int .i64) (RdL.cons Rd.str (RdL.cons Rd.str RdL.nil))))))) RdBL.nil)), fun a b => .p16383 a.2.2.1 b.1.1 b.1.2.1 b.1.2.2.1 b.1.2.2.2.1 b.1.2.2.2.2.1 b.1.2.2.2.2.2.1 b.2.1.1 b.2.1.2.1 b.2.1.2.2.1 b.2.1.2.2.2.1 b.2.1.2.2.2.2.1 b.2.1.2.2.2.2.2.1⟩]
theorem tab_ratchetref31_read_ok : All (PlcOk 185 0 place_ratchetref31_read st_ratchetref31_read) tab_ratchetref31_read := ⟨⟨rfl, rfl, fun _ _ => rfl, fun _ _ => rfl⟩, ⟨⟨rfl, rfl, fun _ _ => rfl, fun _ _ => rfl⟩, ⟨⟨rfl, rfl, fun _ _ => rfl, fun _ _ => rfl⟩, ⟨⟨rfl, rfl, fun _ _ => rfl, fun _ _ => rfl⟩, ⟨⟨rfl, rfl, fun _ _ => rfl, fun _ _ => rfl⟩, ⟨⟨rfl, rfl, fun _ _ => rfl, fun _ _ => rfl⟩, ⟨⟨rfl, rfl, fun _ _ => rfl, fun _ _ => rfl⟩, ⟨⟨rfl, rfl, fun _ _ => rfl, fun _ _ => rfl⟩, ⟨⟨rfl, rfl, fun _ _ => rfl, fun _ _ => rfl⟩, trivial⟩⟩⟩⟩⟩⟩⟩⟩⟩
noncomputable def code_ratchetref31_read : Code := Tryz.f104.body.getD .skip
noncomputable def spec_ratchetref31_read : Spec E.S := (Con.add con_ratchetbase_Number (Con.add con_ratchetref31_isNumeric (Con.add con_ratchetref31_register (Con.add con_ratchetbase_HasText (Con.add con_ratchetbase_IsName (Con.add con_ratchetref31_shape (Con.add con_ratchetref31_word (Con.add con_ratchetbase_Cut noSpec))))))))
theorem spec_ratchetref31_read_ok : SpecOk E spec_ratchetref31_read := (Con.add_ok con_ratchetbase_Number_ok (Con.add_ok con_ratchetref31_isNumeric_ok (Con.add_ok con_ratchetref31_register_ok (Con.add_ok con_ratchetbase_HasText_ok (Con.add_ok con_ratchetbase_IsName_ok (Con.add_ok con_ratchetref31_shape_ok (Con.add_ok con_ratchetref31_word_ok (Con.add_ok con_ratchetbase_Cut_ok noSpec_ok))))))))
theorem good_ratchetref31_read : ∀ pt r, run_ratchetref31_read pt = some r → Good E Tryz.f104 code_ratchetref31_read 0 (res_ratchetref31_read.av r) (res_ratchetref31_read.bx r) (place_ratchetref31_read pt) (st_ratchetref31_read pt) := by
  refine run_ratchetref31_read.partial_correctness (fun pt r => Good E Tryz.f104 code_ratchetref31_read 0 (res_ratchetref31_read.av r) (res_ratchetref31_read.bx r) (place_ratchetref31_read pt) (st_ratchetref31_read pt)) ?_
  intro run' ih pt r hr
  cases pt <;> exact fn_step (spec := spec_ratchetref31_read) (wr := (mkWr [] [])) (l := tab_ratchetref31_read) (z := 185) (p := res_ratchetref31_read) E_ok tab_ratchetref31_read_ok.mem rfl spec_ratchetref31_read_ok ih (Eq.trans (by kernel_rfl) hr)
noncomputable def con_ratchetref31_read : Con E := ⟨104, (ByteArray × ((List ByteArray) × Unit)), Unit, (RwL.cons Rd.str.w (RwL.cons (Rw.sl 9) RwL.nil)), RdBL.nil, 0, R_ratchetref31_read, fun a b => run_ratchetref31_read (.start a.1 a.2.1), res_ratchetref31_read.av, res_ratchetref31_read.bx⟩
theorem con_ratchetref31_read_ok : con_ratchetref31_read.Ok := fun a b r h => fn_ok (fn := Tryz.f104) (code := code_ratchetref31_read) E_ok (by kernel_rfl) (by kernel_rfl) (by kernel_rfl) (Nat.le_of_ble_eq_true rfl) (good_ratchetref31_read (.start a.1 a.2.1) r h)

/-! ### ratchet/ratchetref31.Assembled -/
inductive P_ratchetref31_Assembled where
 | start (s0 : ByteArray)
 | p4084 (i9 : Int) (B0 : (List ByteArray)) (B1 : (List ratchetref31_line)) (B2 : (List ByteArray)) (B3 : (List Int))
 | p16372 (i13 : Int) (B0 : (List ratchetref31_line)) (B1 : (List ByteArray)) (B2 : (List Int)) (B3 : (List api_MachineCode))
 | p67062100 (i13 : Int) (found15 : Bool) (k16 : Int) (B0 : (List ratchetref31_line)) (B1 : (List ByteArray)) (B2 : (List Int)) (B3 : (List api_MachineCode)) (B4_0 : Int) (B4_1 : Int) (B4_2 : Int) (B4_3 : Int)
noncomputable def place_ratchetref31_Assembled : P_ratchetref31_Assembled → List Bool
 | .start .. => []
 | .p4084 .. => [false, false, true, false, true, true, true, true, true, true, true]
 | .p16372 .. => [false, false, true, false, true, true, true, true, true, true, true, true, true]
 | .p67062100 .. => [false, false, true, false, true, false, true, false, true, false, false, true, false, false, true, false, true, true, true, true, true, true, true, true, true]
noncomputable def st_ratchetref31_Assembled : P_ratchetref31_Assembled → St E.S
 | .start s0 => st0 108 [.v (.string s0)] []
 | .p4084 i9 B0 B1 B2 B3 => mkSt 108 [5, 6, 7, 8, 9] [.rw 0, .rw 1, .rw 2, .rw 3, .v (.int .i64 i9)] [.row 9 B0 true, .row 172 B1 false, .row 9 B2 true, .row 3 B3 false]
 | .p16372 i13 B0 B1 B2 B3 => mkSt 108 [6, 7, 8, 12, 13] [.rw 0, .rw 1, .rw 2, .rw 3, .v (.int .i64 i13)] [.row 172 B0 false, .row 9 B1 true, .row 3 B2 false, .row 40 B3 false]
 | .p67062100 i13 found15 k16 B0 B1 B2 B3 B4_0 B4_1 B4_2 B4_3 => mkSt 108 [6, 7, 8, 12, 13, 14, 15, 16] [.rw 0, .rw 1, .rw 2, .rw 3, .v (.int .i64 i13), .bp 4 0, .v (.bool found15), .v (.int .i64 k16)] [.row 172 B0 false, .row 9 B1 true, .row 3 B2 false, .row 40 B3 false, .var 40 [.v (.int .i64 B4_0), .v (.int .i64 B4_1), .v (.int .i64 B4_2), .v (.int .i64 B4_3)]]
abbrev R_ratchetref31_Assembled : Type := ((Unit × (Int × (Int × Unit))) × ((List api_MachineCode) × Unit))
noncomputable def res_ratchetref31_Assembled : Res E (Unit × (Int × (Int × Unit))) ((List api_MachineCode) × Unit) := { rows := [(0, 40)], flat := [], keep := 0, done := [0, 1, 2], rl := (RdL.cons (Rd.rw 0) (RdL.cons (Rd.int .i64) (RdL.cons (Rd.int .i64) RdL.nil))), rb := (RdBL.cons (RdB.row 40 true) RdBL.nil) }
noncomputable def run_ratchetref31_Assembled : P_ratchetref31_Assembled → Option R_ratchetref31_Assembled
 | .start s0 =>
   if (decide ((s0.size : Int) > (60000 : Int))) = true then
     some (((), ((0 : Int), ((8 : Int), ()))), (([] : List api_MachineCode), ()))
   else
     (run_ratchetbase_Cut (.start s0 (10 : Int))) >>= fun t1 =>
     if (decide ((List.length t1.2.1 : Int) > (16 : Int))) = true then
       some (((), ((0 : Int), ((8 : Int), ()))), (([] : List api_MachineCode), ()))
     else
       run_ratchetref31_Assembled (.p4084 (0 : Int) t1.2.1 ([] : List ratchetref31_line) ([] : List ByteArray) ([] : List Int))
 | .p4084 i9 B0 B1 B2 B3 =>
   if (decide (i9 < (List.length B0 : Int))) = true then
     if (decide ((0 : Int) ≤ i9) && decide (i9 < (List.length B0 : Int))) = true then
       (idx B0 i9) >>= fun t1 =>
       (run_ratchetref31_read (.start t1 B2)) >>= fun t2 =>
       if (t2.1.2.1 != (0 : Int)) = true then
         some (((), (IntKind.wrap .i64 (i9 + (1 : Int)), (t2.1.2.1, ()))), (([] : List api_MachineCode), ()))
       else
         if (fits (List.length B1) (List.length ([(⟨(⟨t2.1.1.1, t2.1.1.2.1, t2.1.1.2.2.1, t2.1.1.2.2.2.1⟩ : api_MachineCode), t2.1.1.2.2.2.2.1, t2.1.1.2.2.2.2.2.1⟩ : ratchetref31_line)] : List ratchetref31_line)) 64) = true then
           if (!(seq t2.1.1.2.2.2.2.1 (⟨#[]⟩ : ByteArray))) = true then
             if (fits (List.length B2) (List.length ([t2.1.1.2.2.2.2.1] : List ByteArray)) 16) = true then
               if (fits (List.length B3) (List.length ([i9] : List Int)) 8) = true then
                 run_ratchetref31_Assembled (.p4084 (IntKind.wrap .i64 (i9 + (1 : Int))) B0 (B1 ++ ([(⟨(⟨t2.1.1.1, t2.1.1.2.1, t2.1.1.2.2.1, t2.1.1.2.2.2.1⟩ : api_MachineCode), t2.1.1.2.2.2.2.1, t2.1.1.2.2.2.2.2.1⟩ : ratchetref31_line)] : List ratchetref31_line)) (B2 ++ ([t2.1.1.2.2.2.2.1] : List ByteArray)) (B3 ++ ([i9] : List Int)))
               else none
             else none
           else
             run_ratchetref31_Assembled (.p4084 (IntKind.wrap .i64 (i9 + (1 : Int))) B0 (B1 ++ ([(⟨(⟨t2.1.1.1, t2.1.1.2.1, t2.1.1.2.2.1, t2.1.1.2.2.2.1⟩ : api_MachineCode), t2.1.1.2.2.2.2.1, t2.1.1.2.2.2.2.2.1⟩ : ratchetref31_line)] : List ratchetref31_line)) B2 B3)
         else none
     else none
   else
     run_ratchetref31_Assembled (.p16372 (0 : Int) B1 B2 B3 ([] : List api_MachineCode))
 | .p16372 i13 B0 B1 B2 B3 =>
   if (decide (i13 < (List.length B0 : Int))) = true then
     if (decide ((0 : Int) ≤ i13) && decide (i13 < (List.length B0 : Int))) = true then
       (idx B0 i13) >>= fun t1 =>
       if (decide ((0 : Int) ≤ i13) && decide (i13 < (List.length B0 : Int))) = true then
         (idx B0 i13) >>= fun t2 =>
         if (!(seq t2.jump (⟨#[]⟩ : ByteArray))) = true then
           run_ratchetref31_Assembled (.p67062100 i13 false (0 : Int) B0 B1 B2 B3 t1.code.Op t1.code.A t1.code.B t1.code.N)
         else
           if (fits (List.length B3) (List.length ([(⟨t1.code.Op, t1.code.A, t1.code.B, t1.code.N⟩ : api_MachineCode)] : List api_MachineCode)) 32) = true then
             run_ratchetref31_Assembled (.p16372 (IntKind.wrap .i64 (i13 + (1 : Int))) B0 B1 B2 (B3 ++ ([(⟨t1.code.Op, t1.code.A, t1.code.B, t1.code.N⟩ : api_MachineCode)] : List api_MachineCode)))
           else none
       else none
     else none
   else
     some (((), ((0 : Int), ((0 : Int), ()))), (B3, ()))
 | .p67062100 i13 found15 k16 B0 B1 B2 B3 B4_0 B4_1 B4_2 B4_3 =>
   if (decide (k16 < (List.length B1 : Int))) = true then
     if (decide ((0 : Int) ≤ k16) && decide (k16 < (List.length B1 : Int))) = true then
       (idx B1 k16) >>= fun t1 =>
       if (decide ((0 : Int) ≤ i13) && decide (i13 < (List.length B0 : Int))) = true then
         (idx B0 i13) >>= fun t2 =>
         if (seq t1 t2.jump) = true then
           if (decide ((0 : Int) ≤ k16) && decide (k16 < (List.length B2 : Int))) = true then
             (idx B2 k16) >>= fun t3 =>
             run_ratchetref31_Assembled (.p67062100 i13 true (IntKind.wrap .i64 (k16 + (1 : Int))) B0 B1 B2 B3 B4_0 B4_1 B4_2 t3)
           else none
         else
           run_ratchetref31_Assembled (.p67062100 i13 found15 (IntKind.wrap .i64 (k16 + (1 : Int))) B0 B1 B2 B3 B4_0 B4_1 B4_2 B4_3)
       else none
     else none
   else
     if (!found15) = true then
       some (((), (IntKind.wrap .i64 (i13 + (1 : Int)), ((6 : Int), ()))), (([] : List api_MachineCode), ()))
     else
       if (fits (List.length B3) (List.length ([(⟨B4_0, B4_1, B4_2, B4_3⟩ : api_MachineCode)] : List api_MachineCode)) 32) = true then
         run_ratchetref31_Assembled (.p16372 (IntKind.wrap .i64 (i13 + (1 : Int))) B0 B1 B2 (B3 ++ ([(⟨B4_0, B4_1, B4_2, B4_3⟩ : api_MachineCode)] : List api_MachineCode)))
       else none
  partial_fixpoint
noncomputable def tab_ratchetref31_Assembled : List (Plc E P_ratchetref31_Assembled) := [⟨4084, [false, false, true, false, true, true, true, true, true, true, true], { slots := [5, 6, 7, 8, 9], rows := [(6, 172), (7, 9), (8, 3)], flat := [], keep := 0, done := [7] }, (Unit × (Unit × (Unit × (Unit × (Int × Unit))))), ((List ByteArray) × ((List ratchetref31_line) × ((List ByteArray) × ((List Int) × Unit)))), (RdL.cons (Rd.rw 0) (RdL.cons (Rd.rw 1) (RdL.cons (Rd.rw 2) (RdL.cons (Rd.rw 3) (RdL.cons (Rd.int .i64) RdL.nil))))), (RdBL.cons (RdB.row 9 true) (RdBL.cons (RdB.row 172 false) (RdBL.cons (RdB.row 9 true) (RdBL.cons (RdB.row 3 false) RdBL.nil)))), fun a b => .p4084 a.2.2.2.2.1 b.1 b.2.1 b.2.2.1 b.2.2.2.1⟩,
  ⟨16372, [false, false, true, false, true, true, true, true, true, true, true, true, true], { slots := [6, 7, 8, 12, 13], rows := [(12, 40)], flat := [], keep := 0 }, (Unit × (Unit × (Unit × (Unit × (Int × Unit))))), ((List ratchetref31_line) × ((List ByteArray) × ((List Int) × ((List api_MachineCode) × Unit)))), (RdL.cons (Rd.rw 0) (RdL.cons (Rd.rw 1) (RdL.cons (Rd.rw 2) (RdL.cons (Rd.rw 3) (RdL.cons (Rd.int .i64) RdL.nil))))), (RdBL.cons (RdB.row 172 false) (RdBL.cons (RdB.row 9 true) (RdBL.cons (RdB.row 3 false) (RdBL.cons (RdB.row 40 false) RdBL.nil)))), fun a b => .p16372 a.2.2.2.2.1 b.1 b.2.1 b.2.2.1 b.2.2.2.1⟩,
  ⟨67062100, [false, false, true, false, true, false, true, false, true, false, false, true, false, false, true, false, true, true, true, true, true, true, true, true, true], { slots := [6, 7, 8, 12, 13, 14, 15, 16], rows := [], flat := [], keep := 0 }, (Unit × (Unit × (Unit × (Unit × (Int × (Unit × (Bool × (Int × Unit)))))))), ((List ratchetref31_line) × ((List ByteArray) × ((List Int) × ((List api_MachineCode) × ((Int × (Int × (Int × (Int × Unit)))) × Unit))))), (RdL.cons (Rd.rw 0) (RdL.cons (Rd.rw 1) (RdL.cons (Rd.rw 2) (RdL.cons (Rd.rw 3) (RdL.cons (Rd.int .i64) (RdL.cons (Rd.bp 4 0) (RdL.cons Rd.bool (RdL.cons (Rd.int .i64) RdL.nil)))))))), (RdBL.cons (RdB.row 172 false) (RdBL.cons (RdB.row 9 true) (RdBL.cons (RdB.row 3 false) (RdBL.cons (RdB.row 40 false) (RdBL.cons (RdB.var 40 (RdL.cons (Rd.int .i64) (RdL.cons (Rd.int .i64) (RdL.cons (Rd.int .i64) (RdL.cons (Rd.int .i64) RdL.nil))))) RdBL.nil))))), fun a b => .p67062100 a.2.2.2.2.1 a.2.2.2.2.2.2.1 a.2.2.2.2.2.2.2.1 b.1 b.2.1 b.2.2.1 b.2.2.2.1 b.2.2.2.2.1.1 b.2.2.2.2.1.2.1 b.2.2.2.2.1.2.2.1 b.2.2.2.2.1.2.2.2.1⟩]
theorem tab_ratchetref31_Assembled_ok : All (PlcOk 108 0 place_ratchetref31_Assembled st_ratchetref31_Assembled) tab_ratchetref31_Assembled := ⟨⟨rfl, rfl, fun _ _ => rfl, fun _ _ => rfl⟩, ⟨⟨rfl, rfl, fun _ _ => rfl, fun _ _ => rfl⟩, ⟨⟨rfl, rfl, fun _ _ => rfl, fun _ _ => rfl⟩, trivial⟩⟩⟩
noncomputable def code_ratchetref31_Assembled : Code := Tryz.f51.body.getD .skip
noncomputable def spec_ratchetref31_Assembled : Spec E.S := (Con.add con_ratchetref31_read (Con.add con_ratchetbase_Cut noSpec))
theorem spec_ratchetref31_Assembled_ok : SpecOk E spec_ratchetref31_Assembled := (Con.add_ok con_ratchetref31_read_ok (Con.add_ok con_ratchetbase_Cut_ok noSpec_ok))
theorem good_ratchetref31_Assembled : ∀ pt r, run_ratchetref31_Assembled pt = some r → Good E Tryz.f51 code_ratchetref31_Assembled 0 (res_ratchetref31_Assembled.av r) (res_ratchetref31_Assembled.bx r) (place_ratchetref31_Assembled pt) (st_ratchetref31_Assembled pt) := by
  refine run_ratchetref31_Assembled.partial_correctness (fun pt r => Good E Tryz.f51 code_ratchetref31_Assembled 0 (res_ratchetref31_Assembled.av r) (res_ratchetref31_Assembled.bx r) (place_ratchetref31_Assembled pt) (st_ratchetref31_Assembled pt)) ?_
  intro run' ih pt r hr
  cases pt <;> exact fn_step (spec := spec_ratchetref31_Assembled) (wr := (mkWr [] [(65352, [7])])) (l := tab_ratchetref31_Assembled) (z := 108) (p := res_ratchetref31_Assembled) E_ok tab_ratchetref31_Assembled_ok.mem rfl spec_ratchetref31_Assembled_ok ih (Eq.trans (by kernel_rfl) hr)
noncomputable def con_ratchetref31_Assembled : Con E := ⟨51, (ByteArray × Unit), Unit, (RwL.cons Rd.str.w RwL.nil), RdBL.nil, 0, R_ratchetref31_Assembled, fun a b => run_ratchetref31_Assembled (.start a.1), res_ratchetref31_Assembled.av, res_ratchetref31_Assembled.bx⟩
theorem con_ratchetref31_Assembled_ok : con_ratchetref31_Assembled.Ok := fun a b r h => fn_ok (fn := Tryz.f51) (code := code_ratchetref31_Assembled) E_ok (by kernel_rfl) (by kernel_rfl) (by kernel_rfl) (Nat.le_of_ble_eq_true rfl) (good_ratchetref31_Assembled (.start a.1) r h)

/-! ### ratchet/ratchetref31.SameProgram -/
inductive P_ratchetref31_SameProgram where
 | start (a0 : (List api_MachineCode)) (b1 : (List api_MachineCode))
 | p116 (a0 : (List api_MachineCode)) (b1 : (List api_MachineCode)) (i5 : Int)
noncomputable def place_ratchetref31_SameProgram : P_ratchetref31_SameProgram → List Bool
 | .start .. => []
 | .p116 .. => [false, false, true, false, true, true]
noncomputable def st_ratchetref31_SameProgram : P_ratchetref31_SameProgram → St E.S
 | .start a0 b1 => st0 26 [.sl 40 a0 false, .sl 40 b1 false] []
 | .p116 a0 b1 i5 => mkSt 26 [0, 1, 5] [.sl 40 a0 false, .sl 40 b1 false, .v (.int .i64 i5)] []
abbrev R_ratchetref31_SameProgram : Type := ((Bool × Unit) × Unit)
noncomputable def res_ratchetref31_SameProgram : Res E (Bool × Unit) Unit := { rows := [], flat := [], keep := 0, done := [0], rl := (RdL.cons Rd.bool RdL.nil), rb := RdBL.nil }
noncomputable def run_ratchetref31_SameProgram : P_ratchetref31_SameProgram → Option R_ratchetref31_SameProgram
 | .start a0 b1 =>
   if ((List.length a0 : Int) != (List.length b1 : Int)) = true then
     some ((false, ()), ())
   else
     run_ratchetref31_SameProgram (.p116 a0 b1 (0 : Int))
 | .p116 a0 b1 i5 =>
   if (decide (i5 < (List.length a0 : Int))) = true then
     (idx a0 i5) >>= fun t1 =>
     (idx b1 i5) >>= fun t2 =>
     if (!((t1.Op == t2.Op) && ((t1.A == t2.A) && ((t1.B == t2.B) && ((t1.N == t2.N) && true))))) = true then
       some ((false, ()), ())
     else
       run_ratchetref31_SameProgram (.p116 a0 b1 (IntKind.wrap .i64 (i5 + (1 : Int))))
   else
     some ((true, ()), ())
  partial_fixpoint
noncomputable def tab_ratchetref31_SameProgram : List (Plc E P_ratchetref31_SameProgram) := [⟨116, [false, false, true, false, true, true], { slots := [0, 1, 5], rows := [], flat := [], keep := 0 }, ((List api_MachineCode) × ((List api_MachineCode) × (Int × Unit))), Unit, (RdL.cons (Rd.sl 40 false) (RdL.cons (Rd.sl 40 false) (RdL.cons (Rd.int .i64) RdL.nil))), RdBL.nil, fun a b => .p116 a.1 a.2.1 a.2.2.1⟩]
theorem tab_ratchetref31_SameProgram_ok : All (PlcOk 26 0 place_ratchetref31_SameProgram st_ratchetref31_SameProgram) tab_ratchetref31_SameProgram := ⟨⟨rfl, rfl, fun _ _ => rfl, fun _ _ => rfl⟩, trivial⟩
noncomputable def code_ratchetref31_SameProgram : Code := Tryz.f52.body.getD .skip
noncomputable def spec_ratchetref31_SameProgram : Spec E.S := noSpec
theorem spec_ratchetref31_SameProgram_ok : SpecOk E spec_ratchetref31_SameProgram := noSpec_ok
theorem good_ratchetref31_SameProgram : ∀ pt r, run_ratchetref31_SameProgram pt = some r → Good E Tryz.f52 code_ratchetref31_SameProgram 0 (res_ratchetref31_SameProgram.av r) (res_ratchetref31_SameProgram.bx r) (place_ratchetref31_SameProgram pt) (st_ratchetref31_SameProgram pt) := by
  refine run_ratchetref31_SameProgram.partial_correctness (fun pt r => Good E Tryz.f52 code_ratchetref31_SameProgram 0 (res_ratchetref31_SameProgram.av r) (res_ratchetref31_SameProgram.bx r) (place_ratchetref31_SameProgram pt) (st_ratchetref31_SameProgram pt)) ?_
  intro run' ih pt r hr
  cases pt <;> exact fn_step (spec := spec_ratchetref31_SameProgram) (wr := (mkWr [] [])) (l := tab_ratchetref31_SameProgram) (z := 26) (p := res_ratchetref31_SameProgram) E_ok tab_ratchetref31_SameProgram_ok.mem rfl spec_ratchetref31_SameProgram_ok ih (Eq.trans (by kernel_rfl) hr)
noncomputable def con_ratchetref31_SameProgram : Con E := ⟨52, ((List api_MachineCode) × ((List api_MachineCode) × Unit)), Unit, (RwL.cons (Rw.sl 40) (RwL.cons (Rw.sl 40) RwL.nil)), RdBL.nil, 0, R_ratchetref31_SameProgram, fun a b => run_ratchetref31_SameProgram (.start a.1 a.2.1), res_ratchetref31_SameProgram.av, res_ratchetref31_SameProgram.bx⟩
theorem con_ratchetref31_SameProgram_ok : con_ratchetref31_SameProgram.Ok := fun a b r h => fn_ok (fn := Tryz.f52) (code := code_ratchetref31_SameProgram) E_ok (by kernel_rfl) (by kernel_rfl) (by kernel_rfl) (Nat.le_of_ble_eq_true rfl) (good_ratchetref31_SameProgram (.start a.1 a.2.1) r h)

/-! ### ratchet/ratchetbase.Within -/
inductive P_ratchetbase_Within where
 | start (n0 : Int) (lo1 : Int) (hi2 : Int)
noncomputable def place_ratchetbase_Within : P_ratchetbase_Within → List Bool
 | .start .. => []
noncomputable def st_ratchetbase_Within : P_ratchetbase_Within → St E.S
 | .start n0 lo1 hi2 => st0 15 [.v (.int .i64 n0), .v (.int .i64 lo1), .v (.int .i64 hi2)] []
abbrev R_ratchetbase_Within : Type := ((Bool × Unit) × Unit)
noncomputable def res_ratchetbase_Within : Res E (Bool × Unit) Unit := { rows := [], flat := [], keep := 0, done := [0], rl := (RdL.cons Rd.bool RdL.nil), rb := RdBL.nil }
noncomputable def run_ratchetbase_Within : P_ratchetbase_Within → Option R_ratchetbase_Within
 | .start n0 lo1 hi2 =>
   if (decide (lo1 ≤ n0)) = true then
     some ((decide (n0 ≤ hi2), ()), ())
   else
     some ((false, ()), ())
noncomputable def tab_ratchetbase_Within : List (Plc E P_ratchetbase_Within) := []
theorem tab_ratchetbase_Within_ok : All (PlcOk 15 0 place_ratchetbase_Within st_ratchetbase_Within) tab_ratchetbase_Within := trivial
noncomputable def code_ratchetbase_Within : Code := Tryz.f54.body.getD .skip
noncomputable def spec_ratchetbase_Within : Spec E.S := noSpec
theorem spec_ratchetbase_Within_ok : SpecOk E spec_ratchetbase_Within := noSpec_ok
theorem good_ratchetbase_Within : ∀ pt r, run_ratchetbase_Within pt = some r → Good E Tryz.f54 code_ratchetbase_Within 0 (res_ratchetbase_Within.av r) (res_ratchetbase_Within.bx r) (place_ratchetbase_Within pt) (st_ratchetbase_Within pt) := by
  intro pt r hr
  cases pt <;> exact fn_step (spec := spec_ratchetbase_Within) (wr := (mkWr [] [])) (l := tab_ratchetbase_Within) (z := 15) (p := res_ratchetbase_Within) (run' := fun _ => none) E_ok tab_ratchetbase_Within_ok.mem rfl spec_ratchetbase_Within_ok (fun _ _ h => by cases h) (Eq.trans (by kernel_rfl) hr)
noncomputable def con_ratchetbase_Within : Con E := ⟨54, (Int × (Int × (Int × Unit))), Unit, (RwL.cons (Rd.int .i64).w (RwL.cons (Rd.int .i64).w (RwL.cons (Rd.int .i64).w RwL.nil))), RdBL.nil, 0, R_ratchetbase_Within, fun a b => run_ratchetbase_Within (.start a.1 a.2.1 a.2.2.1), res_ratchetbase_Within.av, res_ratchetbase_Within.bx⟩
theorem con_ratchetbase_Within_ok : con_ratchetbase_Within.Ok := fun a b r h => fn_ok (fn := Tryz.f54) (code := code_ratchetbase_Within) E_ok (by kernel_rfl) (by kernel_rfl) (by kernel_rfl) (Nat.le_of_ble_eq_true rfl) (good_ratchetbase_Within (.start a.1 a.2.1 a.2.2.1) r h)

/-! ### ratchet/ratchetref31.uses -/
inductive P_ratchetref31_uses where
 | start (op0 : Int) (kind1 : Int)
 | p116 (kind1 : Int) (s5 : ByteArray) (i6 : Int)
noncomputable def place_ratchetref31_uses : P_ratchetref31_uses → List Bool
 | .start .. => []
 | .p116 .. => [false, false, true, false, true, true]
noncomputable def st_ratchetref31_uses : P_ratchetref31_uses → St E.S
 | .start op0 kind1 => st0 20 [.v (.int .i64 op0), .v (.int .u8 kind1)] []
 | .p116 kind1 s5 i6 => mkSt 20 [1, 5, 6] [.v (.int .u8 kind1), .v (.string s5), .v (.int .i64 i6)] []
abbrev R_ratchetref31_uses : Type := ((Bool × Unit) × Unit)
noncomputable def res_ratchetref31_uses : Res E (Bool × Unit) Unit := { rows := [], flat := [], keep := 0, done := [0], rl := (RdL.cons Rd.bool RdL.nil), rb := RdBL.nil }
noncomputable def run_ratchetref31_uses : P_ratchetref31_uses → Option R_ratchetref31_uses
 | .start op0 kind1 =>
   (run_ratchetref31_shape (.start op0)) >>= fun t1 =>
   run_ratchetref31_uses (.p116 kind1 t1.1.1 (0 : Int))
 | .p116 kind1 s5 i6 =>
   if (decide (i6 < (s5.size : Int))) = true then
     (sidx s5 i6) >>= fun t1 =>
     if (t1 == kind1) = true then
       some ((true, ()), ())
     else
       run_ratchetref31_uses (.p116 kind1 s5 (IntKind.wrap .i64 (i6 + (1 : Int))))
   else
     some ((false, ()), ())
  partial_fixpoint
noncomputable def tab_ratchetref31_uses : List (Plc E P_ratchetref31_uses) := [⟨116, [false, false, true, false, true, true], { slots := [1, 5, 6], rows := [], flat := [], keep := 0 }, (Int × (ByteArray × (Int × Unit))), Unit, (RdL.cons (Rd.int .u8) (RdL.cons Rd.str (RdL.cons (Rd.int .i64) RdL.nil))), RdBL.nil, fun a b => .p116 a.1 a.2.1 a.2.2.1⟩]
theorem tab_ratchetref31_uses_ok : All (PlcOk 20 0 place_ratchetref31_uses st_ratchetref31_uses) tab_ratchetref31_uses := ⟨⟨rfl, rfl, fun _ _ => rfl, fun _ _ => rfl⟩, trivial⟩
noncomputable def code_ratchetref31_uses : Code := Tryz.f76.body.getD .skip
noncomputable def spec_ratchetref31_uses : Spec E.S := (Con.add con_ratchetref31_shape noSpec)
theorem spec_ratchetref31_uses_ok : SpecOk E spec_ratchetref31_uses := (Con.add_ok con_ratchetref31_shape_ok noSpec_ok)
theorem good_ratchetref31_uses : ∀ pt r, run_ratchetref31_uses pt = some r → Good E Tryz.f76 code_ratchetref31_uses 0 (res_ratchetref31_uses.av r) (res_ratchetref31_uses.bx r) (place_ratchetref31_uses pt) (st_ratchetref31_uses pt) := by
  refine run_ratchetref31_uses.partial_correctness (fun pt r => Good E Tryz.f76 code_ratchetref31_uses 0 (res_ratchetref31_uses.av r) (res_ratchetref31_uses.bx r) (place_ratchetref31_uses pt) (st_ratchetref31_uses pt)) ?_
  intro run' ih pt r hr
  cases pt <;> exact fn_step (spec := spec_ratchetref31_uses) (wr := (mkWr [] [])) (l := tab_ratchetref31_uses) (z := 20) (p := res_ratchetref31_uses) E_ok tab_ratchetref31_uses_ok.mem rfl spec_ratchetref31_uses_ok ih (Eq.trans (by kernel_rfl) hr)
noncomputable def con_ratchetref31_uses : Con E := ⟨76, (Int × (Int × Unit)), Unit, (RwL.cons (Rd.int .i64).w (RwL.cons (Rd.int .u8).w RwL.nil)), RdBL.nil, 0, R_ratchetref31_uses, fun a b => run_ratchetref31_uses (.start a.1 a.2.1), res_ratchetref31_uses.av, res_ratchetref31_uses.bx⟩
theorem con_ratchetref31_uses_ok : con_ratchetref31_uses.Ok := fun a b r h => fn_ok (fn := Tryz.f76) (code := code_ratchetref31_uses) E_ok (by kernel_rfl) (by kernel_rfl) (by kernel_rfl) (Nat.le_of_ble_eq_true rfl) (good_ratchetref31_uses (.start a.1 a.2.1) r h)

/-! ### ratchet/ratchetref31.CodeErr -/
inductive P_ratchetref31_CodeErr where
 | start (c0_0 : Int) (c0_1 : Int) (c0_2 : Int) (c0_3 : Int)
 | p31 (most3 : Int) (B0_0 : Int) (B0_1 : Int) (B0_2 : Int) (B0_3 : Int)
 | p63 (B0_0 : Int) (B0_1 : Int) (B0_2 : Int) (B0_3 : Int)
noncomputable def place_ratchetref31_CodeErr : P_ratchetref31_CodeErr → List Bool
 | .start .. => []
 | .p31 .. => [true, true, true, true]
 | .p63 .. => [true, true, true, true, true]
noncomputable def st_ratchetref31_CodeErr : P_ratchetref31_CodeErr → St E.S
 | .start c0_0 c0_1 c0_2 c0_3 => st0 65 [.agg [.v (.int .i64 c0_0), .v (.int .i64 c0_1), .v (.int .i64 c0_2), .v (.int .i64 c0_3)]] []
 | .p31 most3 B0_0 B0_1 B0_2 B0_3 => mkSt 65 [1, 3] [.bp 0 0, .v (.int .i64 most3)] [.var 40 [.v (.int .i64 B0_0), .v (.int .i64 B0_1), .v (.int .i64 B0_2), .v (.int .i64 B0_3)]]
 | .p63 B0_0 B0_1 B0_2 B0_3 => mkSt 65 [1] [.bp 0 0] [.var 40 [.v (.int .i64 B0_0), .v (.int .i64 B0_1), .v (.int .i64 B0_2), .v (.int .i64 B0_3)]]
abbrev R_ratchetref31_CodeErr : Type := ((Int × Unit) × Unit)
noncomputable def res_ratchetref31_CodeErr : Res E (Int × Unit) Unit := { rows := [], flat := [], keep := 0, done := [0], rl := (RdL.cons (Rd.int .i64) RdL.nil), rb := RdBL.nil }
noncomputable def run_ratchetref31_CodeErr : P_ratchetref31_CodeErr → Option R_ratchetref31_CodeErr
 | .start c0_0 c0_1 c0_2 c0_3 =>
   (run_ratchetbase_Within (.start c0_0 (0 : Int) (9 : Int))) >>= fun t1 =>
   if (!t1.1.1) = true then
     some (((15 : Int), ()), ())
   else
     (run_ratchetref31_uses (.start c0_0 (112 : Int))) >>= fun t2 =>
     if t2.1.1 = true then
       run_ratchetref31_CodeErr (.p31 (15 : Int) c0_0 c0_1 c0_2 c0_3)
     else
       run_ratchetref31_CodeErr (.p31 (255 : Int) c0_0 c0_1 c0_2 c0_3)
 | .p31 most3 B0_0 B0_1 B0_2 B0_3 =>
   (run_ratchetbase_Within (.start B0_1 (0 : Int) (3 : Int))) >>= fun t1 =>
   if (!t1.1.1) = true then
     some (((2 : Int), ()), ())
   else
     (run_ratchetbase_Within (.start B0_2 (0 : Int) (3 : Int))) >>= fun t2 =>
     if (!t2.1.1) = true then
       some (((2 : Int), ()), ())
     else
       (run_ratchetbase_Within (.start B0_3 (0 : Int) most3)) >>= fun t3 =>
       if (!t3.1.1) = true then
         some (((2 : Int), ()), ())
       else
         run_ratchetref31_CodeErr (.p63 B0_0 B0_1 B0_2 B0_3)
 | .p63 B0_0 B0_1 B0_2 B0_3 =>
   if (B0_1 != (0 : Int)) = true then
     (run_ratchetref31_uses (.start B0_0 (97 : Int))) >>= fun t1 =>
     if (!t1.1.1) = true then
       some (((3 : Int), ()), ())
     else
       if (B0_2 != (0 : Int)) = true then
         (run_ratchetref31_uses (.start B0_0 (98 : Int))) >>= fun t2 =>
         if (!t2.1.1) = true then
           some (((3 : Int), ()), ())
         else
           if (B0_3 != (0 : Int)) = true then
             (run_ratchetref31_uses (.start B0_0 (110 : Int))) >>= fun t3 =>
             if (!t3.1.1) = true then
               (run_ratchetref31_uses (.start B0_0 (112 : Int))) >>= fun t4 =>
               if (!t4.1.1) = true then
                 some (((3 : Int), ()), ())
               else
                 some (((0 : Int), ()), ())
             else
               some (((0 : Int), ()), ())
           else
             some (((0 : Int), ()), ())
       else
         if (B0_3 != (0 : Int)) = true then
           (run_ratchetref31_uses (.start B0_0 (110 : Int))) >>= fun t5 =>
           if (!t5.1.1) = true then
             (run_ratchetref31_uses (.start B0_0 (112 : Int))) >>= fun t6 =>
             if (!t6.1.1) = true then
               some (((3 : Int), ()), ())
             else
               some (((0 : Int), ()), ())
           else
             some (((0 : Int), ()), ())
         else
           some (((0 : Int), ()), ())
   else
     if (B0_2 != (0 : Int)) = true then
       (run_ratchetref31_uses (.start B0_0 (98 : Int))) >>= fun t7 =>
       if (!t7.1.1) = true then
         some (((3 : Int), ()), ())
       else
         if (B0_3 != (0 : Int)) = true then
           (run_ratchetref31_uses (.start B0_0 (110 : Int))) >>= fun t8 =>
           if (!t8.1.1) = true then
             (run_ratchetref31_uses (.start B0_0 (112 : Int))) >>= fun t9 =>
             if (!t9.1.1) = true then
               some (((3 : Int), ()), ())
             else
               some (((0 : Int), ()), ())
           else
             some (((0 : Int), ()), ())
         else
           some (((0 : Int), ()), ())
     else
       if (B0_3 != (0 : Int)) = true then
         (run_ratchetref31_uses (.start B0_0 (110 : Int))) >>= fun t10 =>
         if (!t10.1.1) = true then
           (run_ratchetref31_uses (.start B0_0 (112 : Int))) >>= fun t11 =>
           if (!t11.1.1) = true then
             some (((3 : Int), ()), ())
           else
             some (((0 : Int), ()), ())
         else
           some (((0 : Int), ()), ())
       else
         some (((0 : Int), ()), ())
  partial_fixpoint
noncomputable def tab_ratchetref31_CodeErr : List (Plc E P_ratchetref31_CodeErr) := [⟨31, [true, true, true, true], { slots := [1, 3], rows := [], flat := [], keep := 0 }, (Unit × (Int × Unit)), ((Int × (Int × (Int × (Int × Unit)))) × Unit), (RdL.cons (Rd.bp 0 0) (RdL.cons (Rd.int .i64) RdL.nil)), (RdBL.cons (RdB.var 40 (RdL.cons (Rd.int .i64) (RdL.cons (Rd.int .i64) (RdL.cons (Rd.int .i64) (RdL.cons (Rd.int .i64) RdL.nil))))) RdBL.nil), fun a b => .p31 a.2.1 b.1.1 b.1.2.1 b.1.2.2.1 b.1.2.2.2.1⟩,
  ⟨63, [true, true, true, true, true], { slots := [1], rows := [], flat := [], keep := 0 }, (Unit × Unit), ((Int × (Int × (Int × (Int × Unit)))) × Unit), (RdL.cons (Rd.bp 0 0) RdL.nil), (RdBL.cons (RdB.var 40 (RdL.cons (Rd.int .i64) (RdL.cons (Rd.int .i64) (RdL.cons (Rd.int .i64) (RdL.cons (Rd.int .i64) RdL.nil))))) RdBL.nil), fun a b => .p63 b.1.1 b.1.2.1 b.1.2.2.1 b.1.2.2.2.1⟩]
theorem tab_ratchetref31_CodeErr_ok : All (PlcOk 65 0 place_ratchetref31_CodeErr st_ratchetref31_CodeErr) tab_ratchetref31_CodeErr := ⟨⟨rfl, rfl, fun _ _ => rfl, fun _ _ => rfl⟩, ⟨⟨rfl, rfl, fun _ _ => rfl, fun _ _ => rfl⟩, trivial⟩⟩
noncomputable def code_ratchetref31_CodeErr : Code := Tryz.f25.body.getD .skip
noncomputable def spec_ratchetref31_CodeErr : Spec E.S := (Con.add con_ratchetref31_uses (Con.add con_ratchetbase_Within noSpec))
theorem spec_ratchetref31_CodeErr_ok : SpecOk E spec_ratchetref31_CodeErr := (Con.add_ok con_ratchetref31_uses_ok (Con.add_ok con_ratchetbase_Within_ok noSpec_ok))
theorem good_ratchetref31_CodeErr : ∀ pt r, run_ratchetref31_CodeErr pt = some r → Good E Tryz.f25 code_ratchetref31_CodeErr 0 (res_ratchetref31_CodeErr.av r) (res_ratchetref31_CodeErr.bx r) (place_ratchetref31_CodeErr pt) (st_ratchetref31_CodeErr pt) := by
  refine run_ratchetref31_CodeErr.partial_correctness (fun pt r => Good E Tryz.f25 code_ratchetref31_CodeErr 0 (res_ratchetref31_CodeErr.av r) (res_ratchetref31_CodeErr.bx r) (place_ratchetref31_CodeErr pt) (st_ratchetref31_CodeErr pt)) ?_
  intro run' ih pt r hr
  cases pt <;> exact fn_step (spec := spec_ratchetref31_CodeErr) (wr := (mkWr [] [])) (l := tab_ratchetref31_CodeErr) (z := 65) (p := res_ratchetref31_CodeErr) E_ok tab_ratchetref31_CodeErr_ok.mem rfl spec_ratchetref31_CodeErr_ok ih (Eq.trans (by kernel_rfl) hr)
noncomputable def con_ratchetref31_CodeErr : Con E := ⟨25, ((Int × (Int × (Int × (Int × Unit)))) × Unit), Unit, (RwL.cons (Rw.agg (RwL.cons (Rd.int .i64).w (RwL.cons (Rd.int .i64).w (RwL.cons (Rd.int .i64).w (RwL.cons (Rd.int .i64).w RwL.nil))))) RwL.nil), RdBL.nil, 0, R_ratchetref31_CodeErr, fun a b => run_ratchetref31_CodeErr (.start a.1.1 a.1.2.1 a.1.2.2.1 a.1.2.2.2.1), res_ratchetref31_CodeErr.av, res_ratchetref31_CodeErr.bx⟩
theorem con_ratchetref31_CodeErr_ok : con_ratchetref31_CodeErr.Ok := fun a b r h => fn_ok (fn := Tryz.f25) (code := code_ratchetref31_CodeErr) E_ok (by kernel_rfl) (by kernel_rfl) (by kernel_rfl) (Nat.le_of_ble_eq_true rfl) (good_ratchetref31_CodeErr (.start a.1.1 a.1.2.1 a.1.2.2.1 a.1.2.2.2.1) r h)

/-! ### ratchet/ratchetref31.CheckProgram -/
inductive P_ratchetref31_CheckProgram where
 | start (l0 : (List api_MachineCode))
 | p116 (l0 : (List api_MachineCode)) (i4 : Int)
noncomputable def place_ratchetref31_CheckProgram : P_ratchetref31_CheckProgram → List Bool
 | .start .. => []
 | .p116 .. => [false, false, true, false, true, true]
noncomputable def st_ratchetref31_CheckProgram : P_ratchetref31_CheckProgram → St E.S
 | .start l0 => st0 24 [.sl 40 l0 false] []
 | .p116 l0 i4 => mkSt 24 [0, 4] [.sl 40 l0 false, .v (.int .i64 i4)] []
abbrev R_ratchetref31_CheckProgram : Type := ((Int × (Int × Unit)) × Unit)
noncomputable def res_ratchetref31_CheckProgram : Res E (Int × (Int × Unit)) Unit := { rows := [], flat := [], keep := 0, done := [0, 1], rl := (RdL.cons (Rd.int .i64) (RdL.cons (Rd.int .i64) RdL.nil)), rb := RdBL.nil }
noncomputable def run_ratchetref31_CheckProgram : P_ratchetref31_CheckProgram → Option R_ratchetref31_CheckProgram
 | .start l0 =>
   if (decide ((List.length l0 : Int) > (16 : Int))) = true then
     some (((0 : Int), ((8 : Int), ())), ())
   else
     run_ratchetref31_CheckProgram (.p116 l0 (0 : Int))
 | .p116 l0 i4 =>
   if (decide (i4 < (List.length l0 : Int))) = true then
     (idx l0 i4) >>= fun t1 =>
     (run_ratchetref31_CodeErr (.start t1.Op t1.A t1.B t1.N)) >>= fun t2 =>
     if (t2.1.1 != (0 : Int)) = true then
       some ((i4, (t2.1.1, ())), ())
     else
       run_ratchetref31_CheckProgram (.p116 l0 (IntKind.wrap .i64 (i4 + (1 : Int))))
   else
     some (((0 : Int), ((0 : Int), ())), ())
  partial_fixpoint
noncomputable def tab_ratchetref31_CheckProgram : List (Plc E P_ratchetref31_CheckProgram) := [⟨116, [false, false, true, false, true, true], { slots := [0, 4], rows := [], flat := [], keep := 0 }, ((List api_MachineCode) × (Int × Unit)), Unit, (RdL.cons (Rd.sl 40 false) (RdL.cons (Rd.int .i64) RdL.nil)), RdBL.nil, fun a b => .p116 a.1 a.2.1⟩]
theorem tab_ratchetref31_CheckProgram_ok : All (PlcOk 24 0 place_ratchetref31_CheckProgram st_ratchetref31_CheckProgram) tab_ratchetref31_CheckProgram := ⟨⟨rfl, rfl, fun _ _ => rfl, fun _ _ => rfl⟩, trivial⟩
noncomputable def code_ratchetref31_CheckProgram : Code := Tryz.f23.body.getD .skip
noncomputable def spec_ratchetref31_CheckProgram : Spec E.S := (Con.add con_ratchetref31_CodeErr noSpec)
theorem spec_ratchetref31_CheckProgram_ok : SpecOk E spec_ratchetref31_CheckProgram := (Con.add_ok con_ratchetref31_CodeErr_ok noSpec_ok)
theorem good_ratchetref31_CheckProgram : ∀ pt r, run_ratchetref31_CheckProgram pt = some r → Good E Tryz.f23 code_ratchetref31_CheckProgram 0 (res_ratchetref31_CheckProgram.av r) (res_ratchetref31_CheckProgram.bx r) (place_ratchetref31_CheckProgram pt) (st_ratchetref31_CheckProgram pt) := by
  refine run_ratchetref31_CheckProgram.partial_correctness (fun pt r => Good E Tryz.f23 code_ratchetref31_CheckProgram 0 (res_ratchetref31_CheckProgram.av r) (res_ratchetref31_CheckProgram.bx r) (place_ratchetref31_CheckProgram pt) (st_ratchetref31_CheckProgram pt)) ?_
  intro run' ih pt r hr
  cases pt <;> exact fn_step (spec := spec_ratchetref31_CheckProgram) (wr := (mkWr [] [])) (l := tab_ratchetref31_CheckProgram) (z := 24) (p := res_ratchetref31_CheckProgram) E_ok tab_ratchetref31_CheckProgram_ok.mem rfl spec_ratchetref31_CheckProgram_ok ih (Eq.trans (by kernel_rfl) hr)
noncomputable def con_ratchetref31_CheckProgram : Con E := ⟨23, ((List api_MachineCode) × Unit), Unit, (RwL.cons (Rw.sl 40) RwL.nil), RdBL.nil, 0, R_ratchetref31_CheckProgram, fun a b => run_ratchetref31_CheckProgram (.start a.1), res_ratchetref31_CheckProgram.av, res_ratchetref31_CheckProgram.bx⟩
theorem con_ratchetref31_CheckProgram_ok : con_ratchetref31_CheckProgram.Ok := fun a b r h => fn_ok (fn := Tryz.f23) (code := code_ratchetref31_CheckProgram) E_ok (by kernel_rfl) (by kernel_rfl) (by kernel_rfl) (Nat.le_of_ble_eq_true rfl) (good_ratchetref31_CheckProgram (.start a.1) r h)

/-! ### ratchet/ratchetref31.ProgramErr -/
inductive P_ratchetref31_ProgramErr where
 | start (l0 : (List api_MachineCode))
noncomputable def place_ratchetref31_ProgramErr : P_ratchetref31_ProgramErr → List Bool
 | .start .. => []
noncomputable def st_ratchetref31_ProgramErr : P_ratchetref31_ProgramErr → St E.S
 | .start l0 => st0 11 [.sl 40 l0 false] []
abbrev R_ratchetref31_ProgramErr : Type := ((Int × Unit) × Unit)
noncomputable def res_ratchetref31_ProgramErr : Res E (Int × Unit) Unit := { rows := [], flat := [], keep := 0, done := [0], rl := (RdL.cons (Rd.int .i64) RdL.nil), rb := RdBL.nil }
noncomputable def run_ratchetref31_ProgramErr : P_ratchetref31_ProgramErr → Option R_ratchetref31_ProgramErr
 | .start l0 =>
   (run_ratchetref31_CheckProgram (.start l0)) >>= fun t1 =>
   some ((t1.1.2.1, ()), ())
noncomputable def tab_ratchetref31_ProgramErr : List (Plc E P_ratchetref31_ProgramErr) := []
theorem tab_ratchetref31_ProgramErr_ok : All (PlcOk 11 0 place_ratchetref31_ProgramErr st_ratchetref31_ProgramErr) tab_ratchetref31_ProgramErr := trivial
noncomputable def code_ratchetref31_ProgramErr : Code := Tryz.f16.body.getD .skip
noncomputable def spec_ratchetref31_ProgramErr : Spec E.S := (Con.add con_ratchetref31_CheckProgram noSpec)
theorem spec_ratchetref31_ProgramErr_ok : SpecOk E spec_ratchetref31_ProgramErr := (Con.add_ok con_ratchetref31_CheckProgram_ok noSpec_ok)
theorem good_ratchetref31_ProgramErr : ∀ pt r, run_ratchetref31_ProgramErr pt = some r → Good E Tryz.f16 code_ratchetref31_ProgramErr 0 (res_ratchetref31_ProgramErr.av r) (res_ratchetref31_ProgramErr.bx r) (place_ratchetref31_ProgramErr pt) (st_ratchetref31_ProgramErr pt) := by
  intro pt r hr
  cases pt <;> exact fn_step (spec := spec_ratchetref31_ProgramErr) (wr := (mkWr [] [])) (l := tab_ratchetref31_ProgramErr) (z := 11) (p := res_ratchetref31_ProgramErr) (run' := fun _ => none) E_ok tab_ratchetref31_ProgramErr_ok.mem rfl spec_ratchetref31_ProgramErr_ok (fun _ _ h => by cases h) (Eq.trans (by kernel_rfl) hr)
noncomputable def con_ratchetref31_ProgramErr : Con E := ⟨16, ((List api_MachineCode) × Unit), Unit, (RwL.cons (Rw.sl 40) RwL.nil), RdBL.nil, 0, R_ratchetref31_ProgramErr, fun a b => run_ratchetref31_ProgramErr (.start a.1), res_ratchetref31_ProgramErr.av, res_ratchetref31_ProgramErr.bx⟩
theorem con_ratchetref31_ProgramErr_ok : con_ratchetref31_ProgramErr.Ok := fun a b r h => fn_ok (fn := Tryz.f16) (code := code_ratchetref31_ProgramErr) E_ok (by kernel_rfl) (by kernel_rfl) (by kernel_rfl) (Nat.le_of_ble_eq_true rfl) (good_ratchetref31_ProgramErr (.start a.1) r h)

/-! ### ratchet/ratchetbase.Size -/
inductive P_ratchetbase_Size where
 | start (n0 : Int)
noncomputable def place_ratchetbase_Size : P_ratchetbase_Size → List Bool
 | .start .. => []
noncomputable def st_ratchetbase_Size : P_ratchetbase_Size → St E.S
 | .start n0 => st0 7 [.v (.int .i64 n0)] []
abbrev R_ratchetbase_Size : Type := ((Int × Unit) × Unit)
noncomputable def res_ratchetbase_Size : Res E (Int × Unit) Unit := { rows := [], flat := [], keep := 0, done := [0], rl := (RdL.cons (Rd.int .i64) RdL.nil), rb := RdBL.nil }
noncomputable def run_ratchetbase_Size : P_ratchetbase_Size → Option R_ratchetbase_Size
 | .start n0 =>
   some ((if (IntKind.wrap .i64 (0 - n0)) > n0 then (IntKind.wrap .i64 (0 - n0)) else n0, ()), ())
noncomputable def tab_ratchetbase_Size : List (Plc E P_ratchetbase_Size) := []
theorem tab_ratchetbase_Size_ok : All (PlcOk 7 0 place_ratchetbase_Size st_ratchetbase_Size) tab_ratchetbase_Size := trivial
noncomputable def code_ratchetbase_Size : Code := Tryz.f160.body.getD .skip
noncomputable def spec_ratchetbase_Size : Spec E.S := noSpec
theorem spec_ratchetbase_Size_ok : SpecOk E spec_ratchetbase_Size := noSpec_ok
theorem good_ratchetbase_Size : ∀ pt r, run_ratchetbase_Size pt = some r → Good E Tryz.f160 code_ratchetbase_Size 0 (res_ratchetbase_Size.av r) (res_ratchetbase_Size.bx r) (place_ratchetbase_Size pt) (st_ratchetbase_Size pt) := by
  intro pt r hr
  cases pt <;> exact fn_step (spec := spec_ratchetbase_Size) (wr := (mkWr [] [])) (l := tab_ratchetbase_Size) (z := 7) (p := res_ratchetbase_Size) (run' := fun _ => none) E_ok tab_ratchetbase_Size_ok.mem rfl spec_ratchetbase_Size_ok (fun _ _ h => by cases h) (Eq.trans (by kernel_rfl) hr)
noncomputable def con_ratchetbase_Size : Con E := ⟨160, (Int × Unit), Unit, (RwL.cons (Rd.int .i64).w RwL.nil), RdBL.nil, 0, R_ratchetbase_Size, fun a b => run_ratchetbase_Size (.start a.1), res_ratchetbase_Size.av, res_ratchetbase_Size.bx⟩
theorem con_ratchetbase_Size_ok : con_ratchetbase_Size.Ok := fun a b r h => fn_ok (fn := Tryz.f160) (code := code_ratchetbase_Size) E_ok (by kernel_rfl) (by kernel_rfl) (by kernel_rfl) (Nat.le_of_ble_eq_true rfl) (good_ratchetbase_Size (.start a.1) r h)

/-! ### ratchet/ratchetbase.Decimal -/
inductive P_ratchetbase_Decimal where
 | start (n0 : Int)
 | p31 (n0 : Int) (s3 : ByteArray) (sign4 : ByteArray)
 | p248 (n0 : Int) (s3 : ByteArray) (sign4 : ByteArray)
noncomputable def place_ratchetbase_Decimal : P_ratchetbase_Decimal → List Bool
 | .start .. => []
 | .p31 .. => [true, true, true, true]
 | .p248 .. => [false, false, false, true, true, true, true]
noncomputable def st_ratchetbase_Decimal : P_ratchetbase_Decimal → St E.S
 | .start n0 => st0 27 [.v (.int .i64 n0)] []
 | .p31 n0 s3 sign4 => mkSt 27 [0, 3, 4] [.v (.int .i64 n0), .v (.string s3), .v (.string sign4)] []
 | .p248 n0 s3 sign4 => mkSt 27 [0, 3, 4] [.v (.int .i64 n0), .v (.string s3), .v (.string sign4)] []
abbrev R_ratchetbase_Decimal : Type := ((ByteArray × Unit) × Unit)
noncomputable def res_ratchetbase_Decimal : Res E (ByteArray × Unit) Unit := { rows := [], flat := [], keep := 0, done := [0], rl := (RdL.cons Rd.str RdL.nil), rb := RdBL.nil }
noncomputable def run_ratchetbase_Decimal : P_ratchetbase_Decimal → Option R_ratchetbase_Decimal
 | .start n0 =>
   if (n0 == (0 : Int)) = true then
     some (((⟨#[48]⟩ : ByteArray), ()), ())
   else
     if (decide (n0 < (0 : Int))) = true then
       run_ratchetbase_Decimal (.p31 n0 (⟨#[]⟩ : ByteArray) (⟨#[45]⟩ : ByteArray))
     else
       run_ratchetbase_Decimal (.p31 n0 (⟨#[]⟩ : ByteArray) (⟨#[]⟩ : ByteArray))
 | .p31 n0 s3 sign4 =>
   run_ratchetbase_Decimal (.p248 n0 s3 sign4)
 | .p248 n0 s3 sign4 =>
   if (n0 != (0 : Int)) = true then
     if (!((10 : Int) == (0 : Int))) = true then
       (run_ratchetbase_Size (.start (Int.tmod n0 (10 : Int)))) >>= fun t1 =>
       if (Nat.ble ((bytesStr ([IntKind.wrap .u8 (IntKind.wrap .i64 ((48 : Int) + t1.1.1))] : List Int)).size + s3.size) 9223372036854775807) = true then
         if (!((10 : Int) == (0 : Int))) = true then
           run_ratchetbase_Decimal (.p248 (IntKind.wrap .i64 (Int.tdiv n0 (10 : Int))) ((bytesStr ([IntKind.wrap .u8 (IntKind.wrap .i64 ((48 : Int) + t1.1.1))] : List Int)) ++ s3) sign4)
         else none
       else none
     else none
   else
     if (Nat.ble (sign4.size + s3.size) 9223372036854775807) = true then
       some ((sign4 ++ s3, ()), ())
     else none
  partial_fixpoint
noncomputable def tab_ratchetbase_Decimal : List (Plc E P_ratchetbase_Decimal) := [⟨31, [true, true, true, true], { slots := [0, 3, 4], rows := [], flat := [], keep := 0 }, (Int × (ByteArray × (ByteArray × Unit))), Unit, (RdL.cons (Rd.int .i64) (RdL.cons Rd.str (RdL.cons Rd.str RdL.nil))), RdBL.nil, fun a b => .p31 a.1 a.2.1 a.2.2.1⟩,
  ⟨248, [false, false, false, true, true, true, true], { slots := [0, 3, 4], rows := [], flat := [], keep := 0 }, (Int × (ByteArray × (ByteArray × Unit))), Unit, (RdL.cons (Rd.int .i64) (RdL.cons Rd.str (RdL.cons Rd.str RdL.nil))), RdBL.nil, fun a b => .p248 a.1 a.2.1 a.2.2.1⟩]
theorem tab_ratchetbase_Decimal_ok : All (PlcOk 27 0 place_ratchetbase_Decimal st_ratchetbase_Decimal) tab_ratchetbase_Decimal := ⟨⟨rfl, rfl, fun _ _ => rfl, fun _ _ => rfl⟩, ⟨⟨rfl, rfl, fun _ _ => rfl, fun _ _ => rfl⟩, trivial⟩⟩
noncomputable def code_ratchetbase_Decimal : Code := Tryz.f107.body.getD .skip
noncomputable def spec_ratchetbase_Decimal : Spec E.S := (Con.add con_ratchetbase_Size noSpec)
theorem spec_ratchetbase_Decimal_ok : SpecOk E spec_ratchetbase_Decimal := (Con.add_ok con_ratchetbase_Size_ok noSpec_ok)
theorem good_ratchetbase_Decimal : ∀ pt r, run_ratchetbase_Decimal pt = some r → Good E Tryz.f107 code_ratchetbase_Decimal 0 (res_ratchetbase_Decimal.av r) (res_ratchetbase_Decimal.bx r) (place_ratchetbase_Decimal pt) (st_ratchetbase_Decimal pt) := by
  refine run_ratchetbase_Decimal.partial_correctness (fun pt r => Good E Tryz.f107 code_ratchetbase_Decimal 0 (res_ratchetbase_Decimal.av r) (res_ratchetbase_Decimal.bx r) (place_ratchetbase_Decimal pt) (st_ratchetbase_Decimal pt)) ?_
  intro run' ih pt r hr
  cases pt <;> exact fn_step (spec := spec_ratchetbase_Decimal) (wr := (mkWr [] [])) (l := tab_ratchetbase_Decimal) (z := 27) (p := res_ratchetbase_Decimal) E_ok tab_ratchetbase_Decimal_ok.mem rfl spec_ratchetbase_Decimal_ok ih (Eq.trans (by kernel_rfl) hr)
noncomputable def con_ratchetbase_Decimal : Con E := ⟨107, (Int × Unit), Unit, (RwL.cons (Rd.int .i64).w RwL.nil), RdBL.nil, 0, R_ratchetbase_Decimal, fun a b => run_ratchetbase_Decimal (.start a.1), res_ratchetbase_Decimal.av, res_ratchetbase_Decimal.bx⟩
theorem con_ratchetbase_Decimal_ok : con_ratchetbase_Decimal.Ok := fun a b r h => fn_ok (fn := Tryz.f107) (code := code_ratchetbase_Decimal) E_ok (by kernel_rfl) (by kernel_rfl) (by kernel_rfl) (Nat.le_of_ble_eq_true rfl) (good_ratchetbase_Decimal (.start a.1) r h)

/-! ### ratchet/ratchetref31.Text -/
inductive P_ratchetref31_Text where
 | start (l0 : (List api_MachineCode))
 | p116 (l0 : (List api_MachineCode)) (out3 : ByteArray) (i4 : Int)
 | p1865 (l0 : (List api_MachineCode)) (out3 : ByteArray) (i4 : Int)
 | p119420 (l0 : (List api_MachineCode)) (out3 : ByteArray) (i4 : Int) (s6 : ByteArray) (k7 : Int) (B0_0 : Int) (B0_1 : Int) (B0_2 : Int) (B0_3 : Int)
noncomputable def place_ratchetref31_Text : P_ratchetref31_Text → List Bool
 | .start .. => []
 | .p116 .. => [false, false, true, false, true, true]
 | .p1865 .. => [true, false, false, true, false, false, true, false, true, true]
 | .p119420 .. => [false, false, true, true, true, true, true, false, false, true, false, false, true, false, true, true]
noncomputable def st_ratchetref31_Text : P_ratchetref31_Text → St E.S
 | .start l0 => st0 62 [.sl 40 l0 false] []
 | .p116 l0 out3 i4 => mkSt 62 [0, 3, 4] [.sl 40 l0 false, .v (.string out3), .v (.int .i64 i4)] []
 | .p1865 l0 out3 i4 => mkSt 62 [0, 3, 4] [.sl 40 l0 false, .v (.string out3), .v (.int .i64 i4)] []
 | .p119420 l0 out3 i4 s6 k7 B0_0 B0_1 B0_2 B0_3 => mkSt 62 [0, 3, 4, 5, 6, 7] [.sl 40 l0 false, .v (.string out3), .v (.int .i64 i4), .bp 0 0, .v (.string s6), .v (.int .i64 k7)] [.var 40 [.v (.int .i64 B0_0), .v (.int .i64 B0_1), .v (.int .i64 B0_2), .v (.int .i64 B0_3)]]
abbrev R_ratchetref31_Text : Type := ((ByteArray × Unit) × Unit)
noncomputable def res_ratchetref31_Text : Res E (ByteArray × Unit) Unit := { rows := [], flat := [], keep := 0, done := [0], rl := (RdL.cons Rd.str RdL.nil), rb := RdBL.nil }
noncomputable def run_ratchetref31_Text : P_ratchetref31_Text → Option R_ratchetref31_Text
 | .start l0 =>
   run_ratchetref31_Text (.p116 l0 (⟨#[]⟩ : ByteArray) (0 : Int))
 | .p116 l0 out3 i4 =>
   if (decide (i4 < (List.length l0 : Int))) = true then
     if (decide (i4 > (0 : Int))) = true then
       if (Nat.ble (out3.size + (⟨#[10]⟩ : ByteArray).size) 9223372036854775807) = true then
         run_ratchetref31_Text (.p1865 l0 (out3 ++ (⟨#[10]⟩ : ByteArray)) i4)
       else none
     else
       run_ratchetref31_Text (.p1865 l0 out3 i4)
   else
     some ((out3, ()), ())
 | .p1865 l0 out3 i4 =>
   (idx l0 i4) >>= fun t1 =>
   (run_ratchetref31_word (.start t1.Op)) >>= fun t2 =>
   if (Nat.ble (out3.size + t2.1.1.size) 9223372036854775807) = true then
     (run_ratchetref31_shape (.start t1.Op)) >>= fun t3 =>
     run_ratchetref31_Text (.p119420 l0 (out3 ++ t2.1.1) i4 t3.1.1 (0 : Int) t1.Op t1.A t1.B t1.N)
   else none
 | .p119420 l0 out3 i4 s6 k7 B0_0 B0_1 B0_2 B0_3 =>
   if (decide (k7 < (s6.size : Int))) = true then
     (sidx s6 k7) >>= fun t1 =>
     if (t1 == (97 : Int)) = true then
       if (Nat.ble (out3.size + (⟨#[32, 114]⟩ : ByteArray).size) 9223372036854775807) = true then
         (run_ratchetbase_Decimal (.start B0_1)) >>= fun t2 =>
         if (Nat.ble ((out3 ++ (⟨#[32, 114]⟩ : ByteArray)).size + t2.1.1.size) 9223372036854775807) = true then
           run_ratchetref31_Text (.p119420 l0 ((out3 ++ (⟨#[32, 114]⟩ : ByteArray)) ++ t2.1.1) i4 s6 (IntKind.wrap .i64 (k7 + (1 : Int))) B0_0 B0_1 B0_2 B0_3)
         else none
       else none
     else
       if (t1 == (98 : Int)) = true then
         if (Nat.ble (out3.size + (⟨#[32, 114]⟩ : ByteArray).size) 9223372036854775807) = true then
           (run_ratchetbase_Decimal (.start B0_2)) >>= fun t3 =>
           if (Nat.ble ((out3 ++ (⟨#[32, 114]⟩ : ByteArray)).size + t3.1.1.size) 9223372036854775807) = true then
             run_ratchetref31_Text (.p119420 l0 ((out3 ++ (⟨#[32, 114]⟩ : ByteArray)) ++ t3.1.1) i4 s6 (IntKind.wrap .i64 (k7 + (1 : Int))) B0_0 B0_1 B0_2 B0_3)
           else none
         else none
       else
         if (Nat.ble (out3.size + (⟨#[32]⟩ : ByteArray).size) 9223372036854775807) = true then
           (run_ratchetbase_Decimal (.start B0_3)) >>= fun t4 =>
           if (Nat.ble ((out3 ++ (⟨#[32]⟩ : ByteArray)).size + t4.1.1.size) 9223372036854775807) = true then
             run_ratchetref31_Text (.p119420 l0 ((out3 ++ (⟨#[32]⟩ : ByteArray)) ++ t4.1.1) i4 s6 (IntKind.wrap .i64 (k7 + (1 : Int))) B0_0 B0_1 B0_2 B0_3)
           else none
         else none
   else
     run_ratchetref31_Text (.p116 l0 out3 (IntKind.wrap .i64 (i4 + (1 : Int))))
  partial_fixpoint
noncomputable def tab_ratchetref31_Text : List (Plc E P_ratchetref31_Text) := [⟨116, [false, false, true, false, true, true], { slots := [0, 3, 4], rows := [], flat := [], keep := 0 }, ((List api_MachineCode) × (ByteArray × (Int × Unit))), Unit, (RdL.cons (Rd.sl 40 false) (RdL.cons Rd.str (RdL.cons (Rd.int .i64) RdL.nil))), RdBL.nil, fun a b => .p116 a.1 a.2.1 a.2.2.1⟩,
  ⟨1865, [true, false, false, true, false, false, true, false, true, true], { slots := [0, 3, 4], rows := [], flat := [], keep := 0 }, ((List api_MachineCode) × (ByteArray × (Int × Unit))), Unit, (RdL.cons (Rd.sl 40 false) (RdL.cons Rd.str (RdL.cons (Rd.int .i64) RdL.nil))), RdBL.nil, fun a b => .p1865 a.1 a.2.1 a.2.2.1⟩,
  ⟨119420, [false, false, true, true, true, true, true, false, false, true, false, false, true, false, true, true], { slots := [0, 3, 4, 5, 6, 7], rows := [], flat := [], keep := 0 }, ((List api_MachineCode) × (ByteArray × (Int × (Unit × (ByteArray × (Int × Unit)))))), ((Int × (Int × (Int × (Int × Unit)))) × Unit), (RdL.cons (Rd.sl 40 false) (RdL.cons Rd.str (RdL.cons (Rd.int .i64) (RdL.cons (Rd.bp 0 0) (RdL.cons Rd.str (RdL.cons (Rd.int .i64) RdL.nil)))))), (RdBL.cons (RdB.var 40 (RdL.cons (Rd.int .i64) (RdL.cons (Rd.int .i64) (RdL.cons (Rd.int .i64) (RdL.cons (Rd.int .i64) RdL.nil))))) RdBL.nil), fun a b => .p119420 a.1 a.2.1 a.2.2.1 a.2.2.2.2.1 a.2.2.2.2.2.1 b.1.1 b.1.2.1 b.1.2.2.1 b.1.2.2.2.1⟩]
theorem tab_ratchetref31_Text_ok : All (PlcOk 62 0 place_ratchetref31_Text st_ratchetref31_Text) tab_ratchetref31_Text := ⟨⟨rfl, rfl, fun _ _ => rfl, fun _ _ => rfl⟩, ⟨⟨rfl, rfl, fun _ _ => rfl, fun _ _ => rfl⟩, ⟨⟨rfl, rfl, fun _ _ => rfl, fun _ _ => rfl⟩, trivial⟩⟩⟩
noncomputable def code_ratchetref31_Text : Code := Tryz.f53.body.getD .skip
noncomputable def spec_ratchetref31_Text : Spec E.S := (Con.add con_ratchetbase_Decimal (Con.add con_ratchetref31_shape (Con.add con_ratchetref31_word noSpec)))
theorem spec_ratchetref31_Text_ok : SpecOk E spec_ratchetref31_Text := (Con.add_ok con_ratchetbase_Decimal_ok (Con.add_ok con_ratchetref31_shape_ok (Con.add_ok con_ratchetref31_word_ok noSpec_ok)))
theorem good_ratchetref31_Text : ∀ pt r, run_ratchetref31_Text pt = some r → Good E Tryz.f53 code_ratchetref31_Text 0 (res_ratchetref31_Text.av r) (res_ratchetref31_Text.bx r) (place_ratchetref31_Text pt) (st_ratchetref31_Text pt) := by
  refine run_ratchetref31_Text.partial_correctness (fun pt r => Good E Tryz.f53 code_ratchetref31_Text 0 (res_ratchetref31_Text.av r) (res_ratchetref31_Text.bx r) (place_ratchetref31_Text pt) (st_ratchetref31_Text pt)) ?_
  intro run' ih pt r hr
  cases pt <;> exact fn_step (spec := spec_ratchetref31_Text) (wr := (mkWr [] [])) (l := tab_ratchetref31_Text) (z := 62) (p := res_ratchetref31_Text) E_ok tab_ratchetref31_Text_ok.mem rfl spec_ratchetref31_Text_ok ih (Eq.trans (by kernel_rfl) hr)
noncomputable def con_ratchetref31_Text : Con E := ⟨53, ((List api_MachineCode) × Unit), Unit, (RwL.cons (Rw.sl 40) RwL.nil), RdBL.nil, 0, R_ratchetref31_Text, fun a b => run_ratchetref31_Text (.start a.1), res_ratchetref31_Text.av, res_ratchetref31_Text.bx⟩
theorem con_ratchetref31_Text_ok : con_ratchetref31_Text.Ok := fun a b r h => fn_ok (fn := Tryz.f53) (code := code_ratchetref31_Text) E_ok (by kernel_rfl) (by kernel_rfl) (by kernel_rfl) (Nat.le_of_ble_eq_true rfl) (good_ratchetref31_Text (.start a.1) r h)

end Go.Proofs.YtjededkgblbamaaGreatDoor.Ev.F
