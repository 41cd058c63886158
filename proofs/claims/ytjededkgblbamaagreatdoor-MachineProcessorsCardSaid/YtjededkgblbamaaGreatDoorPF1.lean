/- PRINTED by wip/gen/evp.py: what the functions come to. -/
import Derived.Test.YtjededkgblbamaaGreatDoorPEvShelf
import Derived.Test.YtjededkgblbamaaGreatDoorPEvSplit
import Derived.Test.YtjededkgblbamaaGreatDoorPShelf
import Derived.Test.YtjededkgblbamaaGreatDoorPEvLib
import Derived.Test.YtjededkgblbamaaGreatDoorPEvRun
import Derived.Test.YtjededkgblbamaaGreatDoorProg
set_option linter.unusedVariables false
set_option maxRecDepth 100000
namespace Go.Proofs.YtjededkgblbamaaGreatDoor.Ev.F
open Go.Proofs Go.Proofs.YtjededkgblbamaaGreatDoor.Ev

/-- api.MachineCode -/
structure api_MachineCode where
  Op : Int
  A : Int
  B : Int
  N : Int
/-- machine.form -/
structure machine_form where
  name : ByteArray
  a : Bool
  b : Bool
  n : Bool
/-- api.Element -/
structure api_Element where
  Name : ByteArray
  Kind : Int
  Width : Int
  Init : Int
  Clock : Int
/-- machine.signal -/
structure machine_signal where
  node : Int
  width : Int
/-- api.Node -/
structure api_Node where
  Op : Int
  Width : Int
  Args : (List Int)
  Value : Int
/-- api.Write -/
structure api_Write where
  Element : Int
  When : Int
  Value : Int
/-- api.Rule -/
structure api_Rule where
  Name : ByteArray
  Guard : Int
  Writes : (List api_Write)
/-- api.Port -/
structure api_Port where
  Name : ByteArray
  Width : Int
/-- api.Output -/
structure api_Output where
  Name : ByteArray
  Node : Int
/-- api.Attribute -/
structure api_Attribute where
  Kind : Int
  Rules : (List Int)
/-- machine.line -/
structure machine_line where
  code : api_MachineCode
  target : ByteArray
  label : ByteArray
  jumps : Bool
  labelled : Bool
/-- utf8.acceptRange -/
structure utf8_acceptRange where
  lo : Int
  hi : Int
noncomputable def S : Nat → Type
 | 3 => Int
 | 5 => Int
 | 9 => ByteArray
 | 23 => (List Int)
 | 28 => Int
 | 40 => api_MachineCode
 | 82 => api_Element
 | 85 => api_Rule
 | 133 => machine_signal
 | 146 => api_Attribute
 | 151 => api_Write
 | 157 => machine_line
 | 166 => machine_form
 | 190 => api_Output
 | 206 => api_Port
 | 208 => api_Node
 | 230 => Bool
 | 255 => Int
 | 278 => utf8_acceptRange
 | _ => Unit
noncomputable def pk (e : Nat) : Pk S (S e) :=
  if h : e = 3 then h ▸ ((Pk.int .i64) : Pk S Int) else
  if h : e = 5 then h ▸ ((Pk.int .u8) : Pk S Int) else
  if h : e = 9 then h ▸ (Pk.str : Pk S ByteArray) else
  if h : e = 23 then h ▸ ((Pk.sl 3) : Pk S (List Int)) else
  if h : e = 28 then h ▸ ((Pk.int .i64) : Pk S Int) else
  if h : e = 40 then h ▸ ((Pk.iso (Pk.cons (Pk.int .i64) (Pk.cons (Pk.int .i64) (Pk.cons (Pk.int .i64) (Pk.cons (Pk.int .i64) Pk.unit)))) (fun a => (⟨a.1, a.2.1, a.2.2.1, a.2.2.2.1⟩ : api_MachineCode)) (fun x => (x.Op, x.A, x.B, x.N, ())) (fun _ => rfl)) : Pk S api_MachineCode) else
  if h : e = 82 then h ▸ ((Pk.iso (Pk.cons Pk.str (Pk.cons (Pk.int .i64) (Pk.cons (Pk.int .i64) (Pk.cons (Pk.int .i64) (Pk.cons (Pk.int .i64) Pk.unit))))) (fun a => (⟨a.1, a.2.1, a.2.2.1, a.2.2.2.1, a.2.2.2.2.1⟩ : api_Element)) (fun x => (x.Name, x.Kind, x.Width, x.Init, x.Clock, ())) (fun _ => rfl)) : Pk S api_Element) else
  if h : e = 85 then h ▸ ((Pk.iso (Pk.cons Pk.str (Pk.cons (Pk.int .i64) (Pk.cons (Pk.sl 151) Pk.unit))) (fun a => (⟨a.1, a.2.1, a.2.2.1⟩ : api_Rule)) (fun x => (x.Name, x.Guard, x.Writes, ())) (fun _ => rfl)) : Pk S api_Rule) else
  if h : e = 133 then h ▸ ((Pk.iso (Pk.cons (Pk.int .i64) (Pk.cons (Pk.int .i64) Pk.unit)) (fun a => (⟨a.1, a.2.1⟩ : machine_signal)) (fun x => (x.node, x.width, ())) (fun _ => rfl)) : Pk S machine_signal) else
  if h : e = 146 then h ▸ ((Pk.iso (Pk.cons (Pk.int .i64) (Pk.cons (Pk.sl 3) Pk.unit)) (fun a => (⟨a.1, a.2.1⟩ : api_Attribute)) (fun x => (x.Kind, x.Rules, ())) (fun _ => rfl)) : Pk S api_Attribute) else
  if h : e = 151 then h ▸ ((Pk.iso (Pk.cons (Pk.int .i64) (Pk.cons (Pk.int .i64) (Pk.cons (Pk.int .i64) Pk.unit))) (fun a => (⟨a.1, a.2.1, a.2.2.1⟩ : api_Write)) (fun x => (x.Element, x.When, x.Value, ())) (fun _ => rfl)) : Pk S api_Write) else
  if h : e = 157 then h ▸ ((Pk.iso (Pk.cons (Pk.iso (Pk.cons (Pk.int .i64) (Pk.cons (Pk.int .i64) (Pk.cons (Pk.int .i64) (Pk.cons (Pk.int .i64) Pk.unit)))) (fun a => (⟨a.1, a.2.1, a.2.2.1, a.2.2.2.1⟩ : api_MachineCode)) (fun x => (x.Op, x.A, x.B, x.N, ())) (fun _ => rfl)) (Pk.cons Pk.str (Pk.cons Pk.str (Pk.cons Pk.bool (Pk.cons Pk.bool Pk.unit))))) (fun a => (⟨a.1, a.2.1, a.2.2.1, a.2.2.2.1, a.2.2.2.2.1⟩ : machine_line)) (fun x => (x.code, x.target, x.label, x.jumps, x.labelled, ())) (fun _ => rfl)) : Pk S machine_line) else
  if h : e = 166 then h ▸ ((Pk.iso (Pk.cons Pk.str (Pk.cons Pk.bool (Pk.cons Pk.bool (Pk.cons Pk.bool Pk.unit)))) (fun a => (⟨a.1, a.2.1, a.2.2.1, a.2.2.2.1⟩ : machine_form)) (fun x => (x.name, x.a, x.b, x.n, ())) (fun _ => rfl)) : Pk S machine_form) else
  if h : e = 190 then h ▸ ((Pk.iso (Pk.cons Pk.str (Pk.cons (Pk.int .i64) Pk.unit)) (fun a => (⟨a.1, a.2.1⟩ : api_Output)) (fun x => (x.Name, x.Node, ())) (fun _ => rfl)) : Pk S api_Output) else
  if h : e = 206 then h ▸ ((Pk.iso (Pk.cons Pk.str (Pk.cons (Pk.int .i64) Pk.unit)) (fun a => (⟨a.1, a.2.1⟩ : api_Port)) (fun x => (x.Name, x.Width, ())) (fun _ => rfl)) : Pk S api_Port) else
  if h : e = 208 then h ▸ ((Pk.iso (Pk.cons (Pk.int .i64) (Pk.cons (Pk.int .i64) (Pk.cons (Pk.sl 3) (Pk.cons (Pk.int .i64) Pk.unit)))) (fun a => (⟨a.1, a.2.1, a.2.2.1, a.2.2.2.1⟩ : api_Node)) (fun x => (x.Op, x.Width, x.Args, x.Value, ())) (fun _ => rfl)) : Pk S api_Node) else
  if h : e = 230 then h ▸ (Pk.err : Pk S Bool) else
  if h : e = 255 then h ▸ ((Pk.int .u64) : Pk S Int) else
  if h : e = 278 then h ▸ ((Pk.iso (Pk.cons (Pk.int .u8) (Pk.cons (Pk.int .u8) Pk.unit)) (fun a => (⟨a.1, a.2.1⟩ : utf8_acceptRange)) (fun x => (x.lo, x.hi, ())) (fun _ => rfl)) : Pk S utf8_acceptRange) else
  Pk.no (Tryz.prog.cellsOf e)
theorem pk_len (e : Nat) : (pk e).len = Tryz.prog.cellsOf e := by
  unfold pk
  by_cases h : e = 3
  · subst h; kernel_rfl
  refine (congrArg Pk.len (dif_neg h)).trans ?_; clear h
  by_cases h : e = 5
  · subst h; kernel_rfl
  refine (congrArg Pk.len (dif_neg h)).trans ?_; clear h
  by_cases h : e = 9
  · subst h; kernel_rfl
  refine (congrArg Pk.len (dif_neg h)).trans ?_; clear h
  by_cases h : e = 23
  · subst h; kernel_rfl
  refine (congrArg Pk.len (dif_neg h)).trans ?_; clear h
  by_cases h : e = 28
  · subst h; kernel_rfl
  refine (congrArg Pk.len (dif_neg h)).trans ?_; clear h
  by_cases h : e = 40
  · subst h; kernel_rfl
  refine (congrArg Pk.len (dif_neg h)).trans ?_; clear h
  by_cases h : e = 82
  · subst h; kernel_rfl
  refine (congrArg Pk.len (dif_neg h)).trans ?_; clear h
  by_cases h : e = 85
  · subst h; kernel_rfl
  refine (congrArg Pk.len (dif_neg h)).trans ?_; clear h
  by_cases h : e = 133
  · subst h; kernel_rfl
  refine (congrArg Pk.len (dif_neg h)).trans ?_; clear h
  by_cases h : e = 146
  · subst h; kernel_rfl
  refine (congrArg Pk.len (dif_neg h)).trans ?_; clear h
  by_cases h : e = 151
  · subst h; kernel_rfl
  refine (congrArg Pk.len (dif_neg h)).trans ?_; clear h
  by_cases h : e = 157
  · subst h; kernel_rfl
  refine (congrArg Pk.len (dif_neg h)).trans ?_; clear h
  by_cases h : e = 166
  · subst h; kernel_rfl
  refine (congrArg Pk.len (dif_neg h)).trans ?_; clear h
  by_cases h : e = 190
  · subst h; kernel_rfl
  refine (congrArg Pk.len (dif_neg h)).trans ?_; clear h
  by_cases h : e = 206
  · subst h; kernel_rfl
  refine (congrArg Pk.len (dif_neg h)).trans ?_; clear h
  by_cases h : e = 208
  · subst h; kernel_rfl
  refine (congrArg Pk.len (dif_neg h)).trans ?_; clear h
  by_cases h : e = 230
  · subst h; kernel_rfl
  refine (congrArg Pk.len (dif_neg h)).trans ?_; clear h
  by_cases h : e = 255
  · subst h; kernel_rfl
  refine (congrArg Pk.len (dif_neg h)).trans ?_; clear h
  by_cases h : e = 278
  · subst h; kernel_rfl
  refine (congrArg Pk.len (dif_neg h)).trans ?_; clear h
  exact Pk.no_len _
noncomputable def plain : Nat → Bool := fun t => mem t [206, 190, 82, 151, 157, 40]
noncomputable def byt (e : Nat) (s : ByteArray) : Option (List (S e)) := if h : e = 5 then some (h ▸ (strBytes s : List Int)) else none
theorem byt_ok : ∀ e s l, byt e s = some l → Tryz.prog.underlying e = some (.int .u8) ∧ Tryz.prog.cellsOf e = 1 ∧ l.length = s.size ∧ ∀ i x, l[i]? = some x → (pk e).wt x = [.v (.int .u8 ((s.data.toList.getD i 0).toNat : Int))] := by
  intro e s l h
  unfold byt at h
  split at h
  · rename_i he; subst he; obtain rfl := Option.some.inj h
    exact ⟨by kernel_rfl, by kernel_rfl, (strBytes_ok s).1, fun i x hx => by rw [(strBytes_ok s).2 i x hx]; kernel_rfl⟩
  cases h
def glob1 : List Int := [1, 10, 100, 1000, 10000, 100000, 1000000, 10000000, 100000000, 1000000000, 10000000000, 100000000000, 1000000000000, 10000000000000, 100000000000000, 1000000000000000, 10000000000000000, 100000000000000000, 1000000000000000000, 10000000000000000000]
def glob5 : List Int := [0, 1, 28, 2, 29, 14, 24, 3, 30, 22, 20, 15, 25, 17, 4, 8, 31, 27, 13, 23, 21, 19, 16, 7, 26, 12, 18, 6, 11, 5, 10, 9]
def glob6 : List Int := [0, 1, 56, 2, 57, 49, 28, 3, 61, 58, 42, 50, 38, 29, 17, 4, 62, 47, 59, 36, 45, 43, 51, 22, 53, 39, 33, 30, 24, 18, 12, 5, 63, 55, 48, 27, 60, 41, 37, 16, 46, 35, 44, 21, 52, 32, 23, 11, 54, 26, 40, 15, 34, 20, 31, 10, 25, 14, 19, 9, 13, 8, 7, 6]
def glob0 : List machine_form := [⟨⟨#[104, 97, 108, 116]⟩, false, false, false⟩, ⟨⟨#[115, 101, 116]⟩, true, false, true⟩, ⟨⟨#[109, 111, 118, 101]⟩, true, true, false⟩, ⟨⟨#[97, 100, 100]⟩, true, true, false⟩, ⟨⟨#[115, 117, 98]⟩, true, true, false⟩, ⟨⟨#[97, 110, 100]⟩, true, true, false⟩, ⟨⟨#[108, 111, 97, 100]⟩, true, true, false⟩, ⟨⟨#[115, 116, 111, 114, 101]⟩, true, true, false⟩, ⟨⟨#[106, 117, 109, 112]⟩, false, false, true⟩, ⟨⟨#[122, 101, 114, 111]⟩, true, false, true⟩]
def glob4 : List utf8_acceptRange := [⟨128, 191⟩, ⟨160, 191⟩, ⟨128, 159⟩, ⟨144, 191⟩, ⟨128, 143⟩, ⟨0, 0⟩, ⟨0, 0⟩, ⟨0, 0⟩, ⟨0, 0⟩, ⟨0, 0⟩, ⟨0, 0⟩, ⟨0, 0⟩, ⟨0, 0⟩, ⟨0, 0⟩, ⟨0, 0⟩, ⟨0, 0⟩]
noncomputable def globs : Nat → Option (AV S)
 | 0 => some (.ar 166 glob0)
 | 4 => some (.ar 278 glob4)
 | 1 => some (.ar 255 glob1)
 | 5 => some (.ar 5 glob5)
 | 6 => some (.ar 5 glob6)
 | 7 => some (.el 230 true 0)
 | 8 => some (.el 230 true 0)
 | _ => none
theorem globs_ok : ∀ g x, globs g = some x → idsV x = [] := by
  intro g x h
  unfold globs at h
  split at h <;> first | (cases h; done) | (obtain rfl := Option.some.inj h; rfl)
noncomputable def nums : (e : Nat) → List (S e) → Option (List Int)
 | 5, l => some l
 | _, _ => none
theorem nums_ok : ∀ e l xs, nums e l = some xs → Tryz.prog.underlying e = some (.int .u8) ∧ xs.length = l.length ∧ ∀ (i : Nat) x n, l[i]? = some x → xs[i]? = some n → (pk e).wt x = [.v (.int .u8 n)] := by
  intro e l xs h
  unfold nums at h
  split at h
  · obtain rfl := Option.some.inj h
    exact ⟨by kernel_rfl, rfl, fun i x n hx hn => by obtain rfl : x = n := Option.some.inj (hx.symm.trans hn); kernel_rfl⟩
  · cases h
noncomputable def held : Nat → Option (String × Array Value)
 | 1 => some ("internal/strconv.uint64pow10", (Go.Lib.pow10Tab.map fun z => Value.int .u64 z).toArray)
 | _ => none
noncomputable def ro : Nat → Bool := fun f => mem f [125]
noncomputable def rc : Nat → List Nat
 | _ => []
noncomputable def fr : Nat → Bool := fun f => mem f [47, 93, 94, 118]
noncomputable def flat : Nat → Bool := fun e => mem e []
noncomputable abbrev E : Env := mkEnv Tryz.prog S pk globs plain byt nums held ro rc fr flat
theorem E_ok : E.Ok := mkEnv_ok pk_len (by kernel_rfl) globs_ok (fun t h => mem_cases (Q := fun t => Tryz.prog.stoodInHeld t = false ∧ Tryz.prog.eqGuardType Tryz.prog.depth t = false) h ⟨⟨by kernel_rfl, by kernel_rfl⟩, ⟨⟨by kernel_rfl, by kernel_rfl⟩, ⟨⟨by kernel_rfl, by kernel_rfl⟩, ⟨⟨by kernel_rfl, by kernel_rfl⟩, ⟨⟨by kernel_rfl, by kernel_rfl⟩, ⟨⟨by kernel_rfl, by kernel_rfl⟩, trivial⟩⟩⟩⟩⟩⟩) byt_ok nums_ok (fun e h => by cases h)
noncomputable def con_strconv_Itoa : Con E := conItoa E 84
theorem con_strconv_Itoa_ok : con_strconv_Itoa.Ok := conItoa_ok (fn := Tryz.f84) (by kernel_rfl) (by kernel_rfl) (by kernel_rfl) (g := 1) rfl (fun n w h0 h1 ht => Tryz.strconv_Itoa n h0 h1 w ht)
noncomputable def con_strings_Split : Con E := conSplit E 95 9 splitRun
theorem con_strings_Split_ok : con_strings_Split.Ok := conSplit_ok (ρ := Tryz.lays146_ren) Tryz.lays146 rfl (by kernel_rfl) (fn := Tryz.f95) (by kernel_rfl) (by kernel_rfl) (by kernel_rfl) (fun s => s) (fun _ => rfl) (by kernel_rfl) (fun p u r h => ⟨r.1.1, h, congrArg (fun l => ((l, ()), ())) (List.map_id' r.1.1).symm⟩)
noncomputable def con_strings_Join : Con E := conJoin E 102 9 joinRun
theorem con_strings_Join_ok : con_strings_Join.Ok := conJoin_ok (fn := Tryz.f102) (by kernel_rfl) (by kernel_rfl) (by kernel_rfl) (fun x => x) (fun _ => rfl) (by kernel_rfl) (fun p u => congrArg (fun l => joinRun (l, p.2) u) (List.map_id' p.1).symm) (fun a c sep w => Tryz.strings_Join_none a c sep w) (fun bk o c xs sep w => Tryz.strings_Join bk o c xs sep w)
noncomputable def con_internal_stringslite_Index : Con E := conOne E 197 Go.Lib.indexByte
theorem con_internal_stringslite_Index_ok : con_internal_stringslite_Index.Ok := conOne_ok (fn := Tryz.f197) (by kernel_rfl) (by kernel_rfl) (by kernel_rfl) Tryz.stringslite_Index_one
noncomputable def con_strconv_Atoi : Con E := conAtoi E 200
theorem con_strconv_Atoi_ok : con_strconv_Atoi.Ok := conAtoi_ok (ρ := Tryz.laysC172_ren) Tryz.laysC172 rfl rfl rfl (g15 := 7) (g16 := 8) (fn := Tryz.f200) (by kernel_rfl) (by kernel_rfl) (by kernel_rfl) (e := 230) (x15 := (true : Bool)) (x16 := (true : Bool)) rfl rfl (by kernel_rfl) (by kernel_rfl)
noncomputable def con_internal_bytealg_IndexByteString : Con E := conIndexByteString E 219
theorem con_internal_bytealg_IndexByteString_ok : con_internal_bytealg_IndexByteString.Ok := conIndexByteString_ok 219 (fn := Tryz.f219) (by kernel_rfl) (by kernel_rfl) (by kernel_rfl) (by kernel_rfl) (by kernel_rfl)
noncomputable def base : Spec E.S := (Con.add con_internal_bytealg_IndexByteString (Con.add con_strconv_Atoi (Con.add con_internal_stringslite_Index (Con.add con_strings_Join (Con.add con_strings_Split (Con.add con_strconv_Itoa noSpec))))))
theorem base_ok : SpecOk E base := (Con.add_ok con_internal_bytealg_IndexByteString_ok (Con.add_ok con_strconv_Atoi_ok (Con.add_ok con_internal_stringslite_Index_ok (Con.add_ok con_strings_Join_ok (Con.add_ok con_strings_Split_ok (Con.add_ok con_strconv_Itoa_ok noSpec_ok))))))
noncomputable def con_ratchetlaw31_awake : Con E := conConst E 11 (.v (.bool true))
noncomputable def wrs_ratchetlaw31_awake : Nat → Wr
 | 11 => mkWr [] [(6, [12]), (14, [18, 19])]
 | 13 => mkWr [6, 10, 22, 25, 31, 32, 33, 36, 40] [(12, [13, 15, 17]), (14, [1, 24]), (15666, [0, 10, 30, 31])]
 | 35 => mkWr [] [(28, [18, 19, 20])]
 | 49 => mkWr [2, 10, 58, 62, 64] [(14, [18]), (523571, [60])]
 | 64 => mkWr [0, 7] [(6, [1, 2, 3, 4, 5, 6])]
 | 69 => mkWr [2, 3, 5, 6] [(6, [0, 4])]
 | 70 => mkWr [1, 3, 4, 7, 9, 10, 11, 12, 13, 14, 15, 16, 17, 18, 21, 22, 28, 32, 36, 37, 40, 41, 42, 45, 47, 48, 51, 56, 58, 61, 64, 67, 69, 72, 73, 74, 79, 82, 83, 84, 89, 92, 93, 97, 100, 101, 102, 104, 107, 108, 109, 111, 118, 119, 125, 126] [(6, [3, 10, 11, 13, 14]), (65454, [63]), (261822, [68]), (1047294, [78]), (4189182, [88]), (16756734, [96]), (67026942, [103]), (268107774, [110])]
 | 72 => mkWr [] [(3378, [17, 18])]
 | 73 => mkWr [] [(62, [58, 61])]
 | 95 => mkWr [4, 7] [(6, [5, 6])]
 | 96 => mkWr [] [(3378, [17, 18])]
 | 120 => mkWr [] [(14, [12, 15])]
 | 121 => mkWr [2, 5, 7] []
 | 124 => mkWr [] [(3378, [17, 18])]
 | 146 => mkWr [8, 9, 18, 31, 42, 49, 58, 61, 62, 65] [(116, [16, 17]), (2046, [60]), (130838, [48])]
 | 177 => mkWr [4, 6, 21, 33, 38, 44, 48, 49] [(506, [47]), (16018, [37])]
 | 187 => mkWr [] [(3378, [15])]
 | _ => mkWr [] []
theorem con_ratchetlaw31_awake_ok : con_ratchetlaw31_awake.Ok := conConst_ok E_ok base_ok wrs_ratchetlaw31_awake 400 60 (ys := [.v (.bool true)]) rfl (by kernel_rfl)

/-! ### ratchet/ratchetbase.CopyInts -/
inductive P_z0 where
 | start (l0 : (List Int))
noncomputable def place_z0 : P_z0 → List Bool
 | .start .. => []
noncomputable def st_z0 : P_z0 → St E.S
 | .start l0 => st0 6 [.sl 3 l0 false] []
abbrev R_z0 : Type := ((Unit × Unit) × ((List Int) × Unit))
noncomputable def res_z0 : Res E (Unit × Unit) ((List Int) × Unit) := { rows := [], flat := [], keep := 0, done := [0], rl := (RdL.cons (Rd.rw 0) RdL.nil), rb := (RdBL.cons (RdB.row 3 true) RdBL.nil) }
noncomputable def run_z0 : P_z0 → Option R_z0
 | .start l0 =>
   if (fits (List.length ([] : List Int)) (List.length l0) 8) = true then
     some (((), ()), (([] : List Int) ++ l0, ()))
   else none
noncomputable def tab_z0 : List (Plc E P_z0) := []
theorem tab_z0_ok : All (PlcOk 6 0 place_z0 st_z0) tab_z0 := trivial
noncomputable def code_z0 : Code := Tryz.f15.body.getD .skip
noncomputable def spec_z0 : Spec E.S := noSpec
theorem spec_z0_ok : SpecOk E spec_z0 := noSpec_ok
theorem good_z0 : ∀ pt r, run_z0 pt = some r → Good E Tryz.f15 code_z0 0 (res_z0.av r) (res_z0.bx r) (place_z0 pt) (st_z0 pt) := by
  intro pt r hr
  cases pt <;> exact fn_step (spec := spec_z0) (wr := (mkWr [] [])) (l := tab_z0) (z := 6) (p := res_z0) (run' := fun _ => none) E_ok tab_z0_ok.mem rfl spec_z0_ok (fun _ _ h => by cases h) (Eq.trans (by kernel_rfl) hr)
noncomputable def con_z0 : Con E := ⟨15, ((List Int) × Unit), Unit, (RwL.cons (Rw.sl 3) RwL.nil), RdBL.nil, 0, R_z0, fun a b => run_z0 (.start a.1), res_z0.av, res_z0.bx⟩
theorem con_z0_ok : con_z0.Ok := fun a b r h => fn_ok (fn := Tryz.f15) (code := code_z0) E_ok (by kernel_rfl) (by kernel_rfl) (by kernel_rfl) (Nat.le_of_ble_eq_true rfl) (good_z0 (.start a.1) r h)

/-! ### ratchet/machine.widths -/
inductive P_z1 where
 | start
 | p56 (B0 : (List Int))
noncomputable def place_z1 : P_z1 → List Bool
 | .start => []
 | .p56 .. => [false, false, false, true, true]
noncomputable def st_z1 : P_z1 → St E.S
 | .start => st0 10 [] []
 | .p56 B0 => mkSt 10 [1] [.rw 0] [.row 3 B0 true]
abbrev R_z1 : Type := ((Unit × Unit) × ((List Int) × Unit))
noncomputable def res_z1 : Res E (Unit × Unit) ((List Int) × Unit) := { rows := [], flat := [], keep := 0, done := [0], rl := (RdL.cons (Rd.rw 0) RdL.nil), rb := (RdBL.cons (RdB.row 3 true) RdBL.nil) }
noncomputable def run_z1 : P_z1 → Option R_z1
 | .start =>
   run_z1 (.p56 ([(4 : Int), (1 : Int), (1 : Int), (16 : Int)] : List Int))
 | .p56 B0 =>
   if (decide ((List.length B0 : Int) < (16 : Int))) = true then
     if (fits (List.length B0) (List.length ([(8 : Int)] : List Int)) 8) = true then
       run_z1 (.p56 (B0 ++ ([(8 : Int)] : List Int)))
     else none
   else
     some (((), ()), (B0, ()))
  partial_fixpoint
noncomputable def tab_z1 : List (Plc E P_z1) := [⟨56, [false, false, false, true, true], { slots := [1], rows := [(1, 3)], flat := [], keep := 0 }, (Unit × Unit), ((List Int) × Unit), (RdL.cons (Rd.rw 0) RdL.nil), (RdBL.cons (RdB.row 3 true) RdBL.nil), fun a b => .p56 b.1⟩]
theorem tab_z1_ok : All (PlcOk 10 0 place_z1 st_z1) tab_z1 := ⟨⟨rfl, rfl, fun _ _ => rfl, fun _ _ => rfl⟩, trivial⟩
noncomputable def code_z1 : Code := Tryz.f119.body.getD .skip
noncomputable def spec_z1 : Spec E.S := noSpec
theorem spec_z1_ok : SpecOk E spec_z1 := noSpec_ok
theorem good_z1 : ∀ pt r, run_z1 pt = some r → Good E Tryz.f119 code_z1 0 (res_z1.av r) (res_z1.bx r) (place_z1 pt) (st_z1 pt) := by
  refine run_z1.partial_correctness (fun pt r => Good E Tryz.f119 code_z1 0 (res_z1.av r) (res_z1.bx r) (place_z1 pt) (st_z1 pt)) ?_
  intro run' ih pt r hr
  cases pt <;> exact fn_step (spec := spec_z1) (wr := (mkWr [] [])) (l := tab_z1) (z := 10) (p := res_z1) E_ok tab_z1_ok.mem rfl spec_z1_ok ih (Eq.trans (by kernel_rfl) hr)
noncomputable def con_z1 : Con E := ⟨119, Unit, Unit, RwL.nil, RdBL.nil, 0, R_z1, fun a b => run_z1 (.start), res_z1.av, res_z1.bx⟩
theorem con_z1_ok : con_z1.Ok := fun a b r h => fn_ok (fn := Tryz.f119) (code := code_z1) E_ok (by kernel_rfl) (by kernel_rfl) (by kernel_rfl) (Nat.le_of_ble_eq_true rfl) (good_z1 (.start) r h)

/-! ### ratchet/machine.within -/
inductive P_z2 where
 | start (n0 : Int) (lo1 : Int) (hi2 : Int)
noncomputable def place_z2 : P_z2 → List Bool
 | .start .. => []
noncomputable def st_z2 : P_z2 → St E.S
 | .start n0 lo1 hi2 => st0 15 [.v (.int .i64 n0), .v (.int .i64 lo1), .v (.int .i64 hi2)] []
abbrev R_z2 : Type := ((Bool × Unit) × Unit)
noncomputable def res_z2 : Res E (Bool × Unit) Unit := { rows := [], flat := [], keep := 0, done := [0], rl := (RdL.cons Rd.bool RdL.nil), rb := RdBL.nil }
noncomputable def run_z2 : P_z2 → Option R_z2
 | .start n0 lo1 hi2 =>
   if (decide (lo1 ≤ n0)) = true then
     some ((decide (n0 ≤ hi2), ()), ())
   else
     some ((false, ()), ())
noncomputable def tab_z2 : List (Plc E P_z2) := []
theorem tab_z2_ok : All (PlcOk 15 0 place_z2 st_z2) tab_z2 := trivial
noncomputable def code_z2 : Code := Tryz.f75.body.getD .skip
noncomputable def spec_z2 : Spec E.S := noSpec
theorem spec_z2_ok : SpecOk E spec_z2 := noSpec_ok
theorem good_z2 : ∀ pt r, run_z2 pt = some r → Good E Tryz.f75 code_z2 0 (res_z2.av r) (res_z2.bx r) (place_z2 pt) (st_z2 pt) := by
  intro pt r hr
  cases pt <;> exact fn_step (spec := spec_z2) (wr := (mkWr [] [])) (l := tab_z2) (z := 15) (p := res_z2) (run' := fun _ => none) E_ok tab_z2_ok.mem rfl spec_z2_ok (fun _ _ h => by cases h) (Eq.trans (by kernel_rfl) hr)
noncomputable def con_z2 : Con E := ⟨75, (Int × (Int × (Int × Unit))), Unit, (RwL.cons (Rd.int .i64).w (RwL.cons (Rd.int .i64).w (RwL.cons (Rd.int .i64).w RwL.nil))), RdBL.nil, 0, R_z2, fun a b => run_z2 (.start a.1 a.2.1 a.2.2.1), res_z2.av, res_z2.bx⟩
theorem con_z2_ok : con_z2.Ok := fun a b r h => fn_ok (fn := Tryz.f75) (code := code_z2) E_ok (by kernel_rfl) (by kernel_rfl) (by kernel_rfl) (Nat.le_of_ble_eq_true rfl) (good_z2 (.start a.1 a.2.1 a.2.2.1) r h)

/-! ### ratchet/machine.unless -/
inductive P_z3 where
 | start (right0 : Bool) (e1 : Int)
noncomputable def place_z3 : P_z3 → List Bool
 | .start .. => []
noncomputable def st_z3 : P_z3 → St E.S
 | .start right0 e1 => st0 7 [.v (.bool right0), .v (.int .i64 e1)] []
abbrev R_z3 : Type := ((Int × Unit) × Unit)
noncomputable def res_z3 : Res E (Int × Unit) Unit := { rows := [], flat := [], keep := 0, done := [0], rl := (RdL.cons (Rd.int .i64) RdL.nil), rb := RdBL.nil }
noncomputable def run_z3 : P_z3 → Option R_z3
 | .start right0 e1 =>
   if right0 = true then
     some (((0 : Int), ()), ())
   else
     some ((e1, ()), ())
noncomputable def tab_z3 : List (Plc E P_z3) := []
theorem tab_z3_ok : All (PlcOk 7 0 place_z3 st_z3) tab_z3 := trivial
noncomputable def code_z3 : Code := Tryz.f99.body.getD .skip
noncomputable def spec_z3 : Spec E.S := noSpec
theorem spec_z3_ok : SpecOk E spec_z3 := noSpec_ok
theorem good_z3 : ∀ pt r, run_z3 pt = some r → Good E Tryz.f99 code_z3 0 (res_z3.av r) (res_z3.bx r) (place_z3 pt) (st_z3 pt) := by
  intro pt r hr
  cases pt <;> exact fn_step (spec := spec_z3) (wr := (mkWr [] [])) (l := tab_z3) (z := 7) (p := res_z3) (run' := fun _ => none) E_ok tab_z3_ok.mem rfl spec_z3_ok (fun _ _ h => by cases h) (Eq.trans (by kernel_rfl) hr)
noncomputable def con_z3 : Con E := ⟨99, (Bool × (Int × Unit)), Unit, (RwL.cons Rd.bool.w (RwL.cons (Rd.int .i64).w RwL.nil)), RdBL.nil, 0, R_z3, fun a b => run_z3 (.start a.1 a.2.1), res_z3.av, res_z3.bx⟩
theorem con_z3_ok : con_z3.Ok := fun a b r h => fn_ok (fn := Tryz.f99) (code := code_z3) E_ok (by kernel_rfl) (by kernel_rfl) (by kernel_rfl) (Nat.le_of_ble_eq_true rfl) (good_z3 (.start a.1 a.2.1) r h)

/-! ### ratchet/machine.valuesErr$1 -/
inductive P_z4 where
 | start (i0 : Int) (n1 : Int) (s2 : (List Int))
noncomputable def place_z4 : P_z4 → List Bool
 | .start .. => []
noncomputable def st_z4 : P_z4 → St E.S
 | .start i0 n1 s2 => st0 15 [.v (.int .i64 i0), .v (.int .i64 n1), .el 23 s2 0] []
abbrev R_z4 : Type := ((Int × Unit) × Unit)
noncomputable def res_z4 : Res E (Int × Unit) Unit := { rows := [], flat := [], keep := 0, done := [0], rl := (RdL.cons (Rd.int .i64) RdL.nil), rb := RdBL.nil }
noncomputable def run_z4 : P_z4 → Option R_z4
 | .start i0 n1 s2 =>
   (idx s2 i0) >>= fun t1 =>
   if (decide ((0 : Int) ≤ t1)) = true then
     (run_z2 (.start n1 (0 : Int) (IntKind.wrap .i64 ((shl .i64 (1 : Int) t1) - (1 : Int))))) >>= fun t2 =>
     (run_z3 (.start t2.1.1 (2 : Int))) >>= fun t3 =>
     some ((t3.1.1, ()), ())
   else none
noncomputable def tab_z4 : List (Plc E P_z4) := []
theorem tab_z4_ok : All (PlcOk 15 0 place_z4 st_z4) tab_z4 := trivial
noncomputable def code_z4 : Code := Tryz.f125.body.getD .skip
noncomputable def spec_z4 : Spec E.S := (Con.add con_z3 (Con.add con_z2 noSpec))
theorem spec_z4_ok : SpecOk E spec_z4 := (Con.add_ok con_z3_ok (Con.add_ok con_z2_ok noSpec_ok))
theorem good_z4 : ∀ pt r, run_z4 pt = some r → Good E Tryz.f125 code_z4 0 (res_z4.av r) (res_z4.bx r) (place_z4 pt) (st_z4 pt) := by
  intro pt r hr
  cases pt <;> exact fn_step (spec := spec_z4) (wr := (mkWr [] [])) (l := tab_z4) (z := 15) (p := res_z4) (run' := fun _ => none) E_ok tab_z4_ok.mem rfl spec_z4_ok (fun _ _ h => by cases h) (Eq.trans (by kernel_rfl) hr)
noncomputable def con_z4 : Con E := ⟨125, (Int × (Int × ((List Int) × Unit))), Unit, (RwL.cons (Rd.int .i64).w (RwL.cons (Rd.int .i64).w (RwL.cons (Rd.el 23 0).w RwL.nil))), RdBL.nil, 0, R_z4, fun a b => run_z4 (.start a.1 a.2.1 a.2.2.1), res_z4.av, res_z4.bx⟩
theorem con_z4_ok : con_z4.Ok := fun a b r h => fn_ok (fn := Tryz.f125) (code := code_z4) E_ok (by kernel_rfl) (by kernel_rfl) (by kernel_rfl) (Nat.le_of_ble_eq_true rfl) (good_z4 (.start a.1 a.2.1 a.2.2.1) r h)

/-! ### ratchet/machine.each[int] -/
inductive P_z5 where
 | start (l0 : (List Int)) (B0 : (List Int))
 | p52 (s9 : (List Int)) (s10 : Int) (s11 : Int) (B0 : (List Int))
noncomputable def place_z5 : P_z5 → List Bool
 | .start .. => []
 | .p52 .. => [false, false, true, false, true]
noncomputable def st_z5 : P_z5 → St E.S
 | .start l0 B0 => st0 25 [.sl 3 l0 false, .fn 125 [.bp 0 0]] [.var 23 [.sl 3 B0 false]]
 | .p52 s9 s10 s11 B0 => mkSt 25 [1, 9, 10, 11] [.fn 125 [.bp 0 0], .sl 3 s9 false, .v (.int .i64 s10), .v (.int .i64 s11)] [.var 23 [.sl 3 B0 false]]
abbrev R_z5 : Type := ((Int × (Int × Unit)) × (((List Int) × Unit) × Unit))
noncomputable def res_z5 : Res E (Int × (Int × Unit)) (((List Int) × Unit) × Unit) := { rows := [], flat := [], keep := 1, done := [0, 1], rl := (RdL.cons (Rd.int .i64) (RdL.cons (Rd.int .i64) RdL.nil)), rb := (RdBL.cons (RdB.var 23 (RdL.cons (Rd.sl 3 false) RdL.nil)) RdBL.nil) }
noncomputable def run_z5 : P_z5 → Option R_z5
 | .start l0 B0 =>
   run_z5 (.p52 l0 (List.length l0 : Int) (0 : Int) B0)
 | .p52 s9 s10 s11 B0 =>
   if (decide (s11 < s10)) = true then
     (idx s9 s11) >>= fun t1 =>
     (run_z4 (.start s11 t1 B0)) >>= fun t2 =>
     if (t2.1.1 != (0 : Int)) = true then
       some ((s11, (t2.1.1, ())), ((B0, ()), ()))
     else
       run_z5 (.p52 s9 s10 (IntKind.wrap .i64 (s11 + (1 : Int))) B0)
   else
     some (((0 : Int), ((0 : Int), ())), ((B0, ()), ()))
  partial_fixpoint
noncomputable def tab_z5 : List (Plc E P_z5) := [⟨52, [false, false, true, false, true], { slots := [1, 9, 10, 11], rows := [], flat := [], keep := 1 }, ((Unit × Unit) × ((List Int) × (Int × (Int × Unit)))), (((List Int) × Unit) × Unit), (RdL.cons (Rd.fn 125 (RdL.cons (Rd.bp 0 0) RdL.nil)) (RdL.cons (Rd.sl 3 false) (RdL.cons (Rd.int .i64) (RdL.cons (Rd.int .i64) RdL.nil)))), (RdBL.cons (RdB.var 23 (RdL.cons (Rd.sl 3 false) RdL.nil)) RdBL.nil), fun a b => .p52 a.2.1 a.2.2.1 a.2.2.2.1 b.1.1⟩]
theorem tab_z5_ok : All (PlcOk 25 1 place_z5 st_z5) tab_z5 := ⟨⟨rfl, rfl, fun _ _ => rfl, fun _ _ => rfl⟩, trivial⟩
noncomputable def code_z5 : Code := Tryz.f124.body.getD .skip
noncomputable def spec_z5 : Spec E.S := (Con.add con_z4 noSpec)
theorem spec_z5_ok : SpecOk E spec_z5 := (Con.add_ok con_z4_ok noSpec_ok)
theorem good_z5 : ∀ pt r, run_z5 pt = some r → Good E Tryz.f124 code_z5 1 (res_z5.av r) (res_z5.bx r) (place_z5 pt) (st_z5 pt) := by
  refine run_z5.partial_correctness (fun pt r => Good E Tryz.f124 code_z5 1 (res_z5.av r) (res_z5.bx r) (place_z5 pt) (st_z5 pt)) ?_
  intro run' ih pt r hr
  cases pt <;> exact fn_step (spec := spec_z5) (wr := (mkWr [] [])) (l := tab_z5) (z := 25) (p := res_z5) E_ok tab_z5_ok.mem rfl spec_z5_ok ih (Eq.trans (by kernel_rfl) hr)
noncomputable def con_z5 : Con E := ⟨124, ((List Int) × ((Unit × Unit) × Unit)), (((List Int) × Unit) × Unit), (RwL.cons (Rw.sl 3) (RwL.cons (Rd.fn 125 (RdL.cons (Rd.bp 0 0) RdL.nil)).w RwL.nil)), (RdBL.cons (RdB.var 23 (RdL.cons (Rd.sl 3 false) RdL.nil)) RdBL.nil), 1, R_z5, fun a b => run_z5 (.start a.1 b.1.1), res_z5.av, res_z5.bx⟩
theorem con_z5_ok : con_z5.Ok := fun a b r h => fn_ok (fn := Tryz.f124) (code := code_z5) E_ok (by kernel_rfl) (by kernel_rfl) (by kernel_rfl) (Nat.le_of_ble_eq_true rfl) (good_z5 (.start a.1 b.1.1) r h)

/-! ### ratchet/machine.valuesErr -/
inductive P_z6 where
 | start (l0 : (List Int)) (widths1 : (List Int))
noncomputable def place_z6 : P_z6 → List Bool
 | .start .. => []
noncomputable def st_z6 : P_z6 → St E.S
 | .start l0 widths1 => st0 19 [.sl 3 l0 false, .sl 3 widths1 false] []
abbrev R_z6 : Type := ((Int × Unit) × Unit)
noncomputable def res_z6 : Res E (Int × Unit) Unit := { rows := [], flat := [], keep := 0, done := [0], rl := (RdL.cons (Rd.int .i64) RdL.nil), rb := RdBL.nil }
noncomputable def run_z6 : P_z6 → Option R_z6
 | .start l0 widths1 =>
   if ((List.length l0 : Int) != (List.length widths1 : Int)) = true then
     some (((10 : Int), ()), ())
   else
     (run_z5 (.start l0 widths1)) >>= fun t1 =>
     some ((t1.1.2.1, ()), ())
noncomputable def tab_z6 : List (Plc E P_z6) := []
theorem tab_z6_ok : All (PlcOk 19 0 place_z6 st_z6) tab_z6 := trivial
noncomputable def code_z6 : Code := Tryz.f79.body.getD .skip
noncomputable def spec_z6 : Spec E.S := (Con.add con_z5 noSpec)
theorem spec_z6_ok : SpecOk E spec_z6 := (Con.add_ok con_z5_ok noSpec_ok)
theorem good_z6 : ∀ pt r, run_z6 pt = some r → Good E Tryz.f79 code_z6 0 (res_z6.av r) (res_z6.bx r) (place_z6 pt) (st_z6 pt) := by
  intro pt r hr
  cases pt <;> exact fn_step (spec := spec_z6) (wr := (mkWr [] [])) (l := tab_z6) (z := 19) (p := res_z6) (run' := fun _ => none) E_ok tab_z6_ok.mem rfl spec_z6_ok (fun _ _ h => by cases h) (Eq.trans (by kernel_rfl) hr)
noncomputable def con_z6 : Con E := ⟨79, ((List Int) × ((List Int) × Unit)), Unit, (RwL.cons (Rw.sl 3) (RwL.cons (Rw.sl 3) RwL.nil)), RdBL.nil, 0, R_z6, fun a b => run_z6 (.start a.1 a.2.1), res_z6.av, res_z6.bx⟩
theorem con_z6_ok : con_z6.Ok := fun a b r h => fn_ok (fn := Tryz.f79) (code := code_z6) E_ok (by kernel_rfl) (by kernel_rfl) (by kernel_rfl) (Nat.le_of_ble_eq_true rfl) (good_z6 (.start a.1 a.2.1) r h)

/-! ### slices.Clone[[]int,int] -/
inductive P_z7 where
 | start (s0 : (List Int))
noncomputable def place_z7 : P_z7 → List Bool
 | .start .. => []
noncomputable def st_z7 : P_z7 → St E.S
 | .start s0 => st0 8 [.sl 3 s0 false] []
abbrev R_z7 : Type := ((Unit × Unit) × ((List Int) × Unit))
noncomputable def res_z7 : Res E (Unit × Unit) ((List Int) × Unit) := { rows := [], flat := [], keep := 0, rl := (RdL.cons (Rd.rw 0) RdL.nil), rb := (RdBL.cons (RdB.row 3 false) RdBL.nil) }
noncomputable def run_z7 : P_z7 → Option R_z7
 | .start s0 =>
   if (!(List.isEmpty s0)) = true then
     if (fits (List.length ([] : List Int)) (List.length s0) 8) = true then
       some (((), ()), (([] : List Int) ++ s0, ()))
     else none
   else none
noncomputable def tab_z7 : List (Plc E P_z7) := []
theorem tab_z7_ok : All (PlcOk 8 0 place_z7 st_z7) tab_z7 := trivial
noncomputable def code_z7 : Code := Tryz.f121.body.getD .skip
noncomputable def spec_z7 : Spec E.S := noSpec
theorem spec_z7_ok : SpecOk E spec_z7 := noSpec_ok
theorem good_z7 : ∀ pt r, run_z7 pt = some r → Good E Tryz.f121 code_z7 0 (res_z7.av r) (res_z7.bx r) (place_z7 pt) (st_z7 pt) := by
  intro pt r hr
  cases pt <;> exact fn_step (spec := spec_z7) (wr := (mkWr [2, 5, 7] [])) (l := tab_z7) (z := 8) (p := res_z7) (run' := fun _ => none) E_ok tab_z7_ok.mem rfl spec_z7_ok (fun _ _ h => by cases h) (Eq.trans (by kernel_rfl) hr)
noncomputable def con_z7 : Con E := ⟨121, ((List Int) × Unit), Unit, (RwL.cons (Rw.sl 3) RwL.nil), RdBL.nil, 0, R_z7, fun a b => run_z7 (.start a.1), res_z7.av, res_z7.bx⟩
theorem con_z7_ok : con_z7.Ok := fun a b r h => fn_ok (fn := Tryz.f121) (code := code_z7) E_ok (by kernel_rfl) (by kernel_rfl) (by kernel_rfl) (Nat.le_of_ble_eq_true rfl) (good_z7 (.start a.1) r h)

/-! ### ratchet/machine.beginning -/
inductive P_z8 where
 | start (memory0 : (List Int))
noncomputable def place_z8 : P_z8 → List Bool
 | .start .. => []
noncomputable def st_z8 : P_z8 → St E.S
 | .start memory0 => st0 7 [.sl 3 memory0 false] []
abbrev R_z8 : Type := (((Int × (Int × (Unit × (Unit × Unit)))) × Unit) × ((List Int) × ((List Int) × Unit)))
noncomputable def res_z8 : Res E ((Int × (Int × (Unit × (Unit × Unit)))) × Unit) ((List Int) × ((List Int) × Unit)) := { rows := [], flat := [], keep := 0, rl := (RdL.cons (Rd.agg (RdL.cons (Rd.int .i64) (RdL.cons (Rd.int .i64) (RdL.cons (Rd.rw 0) (RdL.cons (Rd.rw 1) RdL.nil))))) RdL.nil), rb := (RdBL.cons (RdB.row 3 false) (RdBL.cons (RdB.row 3 false) RdBL.nil)) }
noncomputable def run_z8 : P_z8 → Option R_z8
 | .start memory0 =>
   if (fitsM (4 : Int) (4 : Int) 8) = true then
     (run_z7 (.start memory0)) >>= fun t1 =>
     some ((((0 : Int), ((0 : Int), ((), ((), ())))), ()), (List.replicate (Int.toNat (4 : Int)) (0 : Int), (t1.2.1, ())))
   else none
noncomputable def tab_z8 : List (Plc E P_z8) := []
theorem tab_z8_ok : All (PlcOk 7 0 place_z8 st_z8) tab_z8 := trivial
noncomputable def code_z8 : Code := Tryz.f69.body.getD .skip
noncomputable def spec_z8 : Spec E.S := (Con.add con_z7 noSpec)
theorem spec_z8_ok : SpecOk E spec_z8 := (Con.add_ok con_z7_ok noSpec_ok)
theorem good_z8 : ∀ pt r, run_z8 pt = some r → Good E Tryz.f69 code_z8 0 (res_z8.av r) (res_z8.bx r) (place_z8 pt) (st_z8 pt) := by
  intro pt r hr
  cases pt <;> exact fn_step (spec := spec_z8) (wr := (mkWr [2, 3, 5, 6] [])) (l := tab_z8) (z := 7) (p := res_z8) (run' := fun _ => none) E_ok tab_z8_ok.mem rfl spec_z8_ok (fun _ _ h => by cases h) (Eq.trans (by kernel_rfl) hr)
noncomputable def con_z8 : Con E := ⟨69, ((List Int) × Unit), Unit, (RwL.cons (Rw.sl 3) RwL.nil), RdBL.nil, 0, R_z8, fun a b => run_z8 (.start a.1), res_z8.av, res_z8.bx⟩
theorem con_z8_ok : con_z8.Ok := fun a b r h => fn_ok (fn := Tryz.f69) (code := code_z8) E_ok (by kernel_rfl) (by kernel_rfl) (by kernel_rfl) (Nat.le_of_ble_eq_true rfl) (good_z8 (.start a.1) r h)

/-! ### ratchet/machine.MachineIn -/
inductive P_z9 where
 | start (state0 : (List Int))
noncomputable def place_z9 : P_z9 → List Bool
 | .start .. => []
noncomputable def st_z9 : P_z9 → St E.S
 | .start state0 => st0 30 [.sl 3 state0 false] []
abbrev R_z9 : Type := (((Int × (Int × ((List Int) × ((List Int) × Unit)))) × (Int × Unit)) × Unit)
noncomputable def res_z9 : Res E ((Int × (Int × ((List Int) × ((List Int) × Unit)))) × (Int × Unit)) Unit := { rows := [], flat := [], keep := 0, deep := [(false, 0, 2, 3), (false, 0, 3, 3)], done := [0, 1], rl := (RdL.cons (Rd.agg (RdL.cons (Rd.int .i64) (RdL.cons (Rd.int .i64) (RdL.cons (Rd.sl 3 false) (RdL.cons (Rd.sl 3 false) RdL.nil))))) (RdL.cons (Rd.int .i64) RdL.nil)), rb := RdBL.nil }
noncomputable def run_z9 : P_z9 → Option R_z9
 | .start state0 =>
   (run_z1 .start) >>= fun t1 =>
   (run_z6 (.start state0 t1.2.1)) >>= fun t2 =>
   if (t2.1.1 != (0 : Int)) = true then
     some ((((0 : Int), ((0 : Int), ([], ([], ())))), (t2.1.1, ())), ())
   else
     (span (List.length state0) (8 : Int) (List.length state0 : Int)) >>= fun t3 =>
     (run_z8 (.start (cut state0 t3))) >>= fun t4 =>
     (idx state0 (0 : Int)) >>= fun t5 =>
     (idx state0 (1 : Int)) >>= fun t6 =>
     (span (List.length state0) (4 : Int) (8 : Int)) >>= fun t7 =>
     some (((t5, (t6, (over t4.2.1 (cut state0 t7), (t4.2.2.1, ())))), ((0 : Int), ())), ())
noncomputable def tab_z9 : List (Plc E P_z9) := []
theorem tab_z9_ok : All (PlcOk 30 0 place_z9 st_z9) tab_z9 := trivial
noncomputable def code_z9 : Code := Tryz.f60.body.getD .skip
noncomputable def spec_z9 : Spec E.S := (Con.add con_z8 (Con.add con_z6 (Con.add con_z1 noSpec)))
theorem spec_z9_ok : SpecOk E spec_z9 := (Con.add_ok con_z8_ok (Con.add_ok con_z6_ok (Con.add_ok con_z1_ok noSpec_ok)))
theorem good_z9 : ∀ pt r, run_z9 pt = some r → Good E Tryz.f60 code_z9 0 (res_z9.av r) (res_z9.bx r) (place_z9 pt) (st_z9 pt) := by
  intro pt r hr
  cases pt <;> exact fn_step (spec := spec_z9) (wr := (mkWr [2, 5, 11, 15, 22, 23, 24, 25, 29] [])) (l := tab_z9) (z := 30) (p := res_z9) (run' := fun _ => none) E_ok tab_z9_ok.mem rfl spec_z9_ok (fun _ _ h => by cases h) (Eq.trans (by kernel_rfl) hr)
noncomputable def con_z9 : Con E := ⟨60, ((List Int) × Unit), Unit, (RwL.cons (Rw.sl 3) RwL.nil), RdBL.nil, 0, R_z9, fun a b => run_z9 (.start a.1), res_z9.av, res_z9.bx⟩
theorem con_z9_ok : con_z9.Ok := fun a b r h => fn_ok (fn := Tryz.f60) (code := code_z9) E_ok (by kernel_rfl) (by kernel_rfl) (by kernel_rfl) (Nat.le_of_ble_eq_true rfl) (good_z9 (.start a.1) r h)

/-! ### ratchet/ratchetref31.Widths -/
inductive P_z10 where
 | start
noncomputable def place_z10 : P_z10 → List Bool
 | .start => []
noncomputable def st_z10 : P_z10 → St E.S
 | .start => st0 2 [] []
abbrev R_z10 : Type := (((List Int) × Unit) × Unit)
noncomputable def res_z10 : Res E ((List Int) × Unit) Unit := { rows := [], flat := [], keep := 0, done := [0], rl := (RdL.cons (Rd.sl 3 true) RdL.nil), rb := RdBL.nil }
noncomputable def run_z10 : P_z10 → Option R_z10
 | .start =>
   some ((([(4 : Int), (1 : Int), (1 : Int), (16 : Int), (8 : Int), (8 : Int), (8 : Int), (8 : Int), (8 : Int), (8 : Int), (8 : Int), (8 : Int), (8 : Int), (8 : Int), (8 : Int), (8 : Int)] : List Int), ()), ())
noncomputable def tab_z10 : List (Plc E P_z10) := []
theorem tab_z10_ok : All (PlcOk 2 0 place_z10 st_z10) tab_z10 := trivial
noncomputable def code_z10 : Code := Tryz.f62.body.getD .skip
noncomputable def spec_z10 : Spec E.S := noSpec
theorem spec_z10_ok : SpecOk E spec_z10 := noSpec_ok
theorem good_z10 : ∀ pt r, run_z10 pt = some r → Good E Tryz.f62 code_z10 0 (res_z10.av r) (res_z10.bx r) (place_z10 pt) (st_z10 pt) := by
  intro pt r hr
  cases pt <;> exact fn_step (spec := spec_z10) (wr := (mkWr [] [])) (l := tab_z10) (z := 2) (p := res_z10) (run' := fun _ => none) E_ok tab_z10_ok.mem rfl spec_z10_ok (fun _ _ h => by cases h) (Eq.trans (by kernel_rfl) hr)
noncomputable def con_z10 : Con E := ⟨62, Unit, Unit, RwL.nil, RdBL.nil, 0, R_z10, fun a b => run_z10 (.start), res_z10.av, res_z10.bx⟩
theorem con_z10_ok : con_z10.Ok := fun a b r h => fn_ok (fn := Tryz.f62) (code := code_z10) E_ok (by kernel_rfl) (by kernel_rfl) (by kernel_rfl) (Nat.le_of_ble_eq_true rfl) (good_z10 (.start) r h)

/-! ### ratchet/ratchetbase.Power -/
inductive P_z11 where
 | start (n0 : Int)
noncomputable def place_z11 : P_z11 → List Bool
 | .start .. => []
noncomputable def st_z11 : P_z11 → St E.S
 | .start n0 => st0 5 [.v (.int .i64 n0)] []
abbrev R_z11 : Type := ((Int × Unit) × Unit)
noncomputable def res_z11 : Res E (Int × Unit) Unit := { rows := [], flat := [], keep := 0, done := [0], rl := (RdL.cons (Rd.int .i64) RdL.nil), rb := RdBL.nil }
noncomputable def run_z11 : P_z11 → Option R_z11
 | .start n0 =>
   if (decide ((0 : Int) ≤ n0)) = true then
     some ((shl .i64 (1 : Int) n0, ()), ())
   else none
noncomputable def tab_z11 : List (Plc E P_z11) := []
theorem tab_z11_ok : All (PlcOk 5 0 place_z11 st_z11) tab_z11 := trivial
noncomputable def code_z11 : Code := Tryz.f92.body.getD .skip
noncomputable def spec_z11 : Spec E.S := noSpec
theorem spec_z11_ok : SpecOk E spec_z11 := noSpec_ok
theorem good_z11 : ∀ pt r, run_z11 pt = some r → Good E Tryz.f92 code_z11 0 (res_z11.av r) (res_z11.bx r) (place_z11 pt) (st_z11 pt) := by
  intro pt r hr
  cases pt <;> exact fn_step (spec := spec_z11) (wr := (mkWr [] [])) (l := tab_z11) (z := 5) (p := res_z11) (run' := fun _ => none) E_ok tab_z11_ok.mem rfl spec_z11_ok (fun _ _ h => by cases h) (Eq.trans (by kernel_rfl) hr)
noncomputable def con_z11 : Con E := ⟨92, (Int × Unit), Unit, (RwL.cons (Rd.int .i64).w RwL.nil), RdBL.nil, 0, R_z11, fun a b => run_z11 (.start a.1), res_z11.av, res_z11.bx⟩
theorem con_z11_ok : con_z11.Ok := fun a b r h => fn_ok (fn := Tryz.f92) (code := code_z11) E_ok (by kernel_rfl) (by kernel_rfl) (by kernel_rfl) (Nat.le_of_ble_eq_true rfl) (good_z11 (.start a.1) r h)

/-! ### ratchet/ratchetbase.Within -/
inductive P_z12 where
 | start (n0 : Int) (lo1 : Int) (hi2 : Int)
noncomputable def place_z12 : P_z12 → List Bool
 | .start .. => []
noncomputable def st_z12 : P_z12 → St E.S
 | .start n0 lo1 hi2 => st0 15 [.v (.int .i64 n0), .v (.int .i64 lo1), .v (.int .i64 hi2)] []
abbrev R_z12 : Type := ((Bool × Unit) × Unit)
noncomputable def res_z12 : Res E (Bool × Unit) Unit := { rows := [], flat := [], keep := 0, done := [0], rl := (RdL.cons Rd.bool RdL.nil), rb := RdBL.nil }
noncomputable def run_z12 : P_z12 → Option R_z12
 | .start n0 lo1 hi2 =>
   if (decide (lo1 ≤ n0)) = true then
     some ((decide (n0 ≤ hi2), ()), ())
   else
     some ((false, ()), ())
noncomputable def tab_z12 : List (Plc E P_z12) := []
theorem tab_z12_ok : All (PlcOk 15 0 place_z12 st_z12) tab_z12 := trivial
noncomputable def code_z12 : Code := Tryz.f54.body.getD .skip
noncomputable def spec_z12 : Spec E.S := noSpec
theorem spec_z12_ok : SpecOk E spec_z12 := noSpec_ok
theorem good_z12 : ∀ pt r, run_z12 pt = some r → Good E Tryz.f54 code_z12 0 (res_z12.av r) (res_z12.bx r) (place_z12 pt) (st_z12 pt) := by
  intro pt r hr
  cases pt <;> exact fn_step (spec := spec_z12) (wr := (mkWr [] [])) (l := tab_z12) (z := 15) (p := res_z12) (run' := fun _ => none) E_ok tab_z12_ok.mem rfl spec_z12_ok (fun _ _ h => by cases h) (Eq.trans (by kernel_rfl) hr)
noncomputable def con_z12 : Con E := ⟨54, (Int × (Int × (Int × Unit))), Unit, (RwL.cons (Rd.int .i64).w (RwL.cons (Rd.int .i64).w (RwL.cons (Rd.int .i64).w RwL.nil))), RdBL.nil, 0, R_z12, fun a b => run_z12 (.start a.1 a.2.1 a.2.2.1), res_z12.av, res_z12.bx⟩
theorem con_z12_ok : con_z12.Ok := fun a b r h => fn_ok (fn := Tryz.f54) (code := code_z12) E_ok (by kernel_rfl) (by kernel_rfl) (by kernel_rfl) (Nat.le_of_ble_eq_true rfl) (good_z12 (.start a.1 a.2.1 a.2.2.1) r h)

/-! ### ratchet/ratchetbase.Fits -/
inductive P_z13 where
 | start (n0 : Int) (width1 : Int)
noncomputable def place_z13 : P_z13 → List Bool
 | .start .. => []
noncomputable def st_z13 : P_z13 → St E.S
 | .start n0 width1 => st0 10 [.v (.int .i64 n0), .v (.int .i64 width1)] []
abbrev R_z13 : Type := ((Bool × Unit) × Unit)
noncomputable def res_z13 : Res E (Bool × Unit) Unit := { rows := [], flat := [], keep := 0, done := [0], rl := (RdL.cons Rd.bool RdL.nil), rb := RdBL.nil }
noncomputable def run_z13 : P_z13 → Option R_z13
 | .start n0 width1 =>
   (run_z11 (.start width1)) >>= fun t1 =>
   (run_z12 (.start n0 (0 : Int) (IntKind.wrap .i64 (t1.1.1 - (1 : Int))))) >>= fun t2 =>
   some ((t2.1.1, ()), ())
noncomputable def tab_z13 : List (Plc E P_z13) := []
theorem tab_z13_ok : All (PlcOk 10 0 place_z13 st_z13) tab_z13 := trivial
noncomputable def code_z13 : Code := Tryz.f126.body.getD .skip
noncomputable def spec_z13 : Spec E.S := (Con.add con_z12 (Con.add con_z11 noSpec))
theorem spec_z13_ok : SpecOk E spec_z13 := (Con.add_ok con_z12_ok (Con.add_ok con_z11_ok noSpec_ok))
theorem good_z13 : ∀ pt r, run_z13 pt = some r → Good E Tryz.f126 code_z13 0 (res_z13.av r) (res_z13.bx r) (place_z13 pt) (st_z13 pt) := by
  intro pt r hr
  cases pt <;> exact fn_step (spec := spec_z13) (wr := (mkWr [] [])) (l := tab_z13) (z := 10) (p := res_z13) (run' := fun _ => none) E_ok tab_z13_ok.mem rfl spec_z13_ok (fun _ _ h => by cases h) (Eq.trans (by kernel_rfl) hr)
noncomputable def con_z13 : Con E := ⟨126, (Int × (Int × Unit)), Unit, (RwL.cons (Rd.int .i64).w (RwL.cons (Rd.int .i64).w RwL.nil)), RdBL.nil, 0, R_z13, fun a b => run_z13 (.start a.1 a.2.1), res_z13.av, res_z13.bx⟩
theorem con_z13_ok : con_z13.Ok := fun a b r h => fn_ok (fn := Tryz.f126) (code := code_z13) E_ok (by kernel_rfl) (by kernel_rfl) (by kernel_rfl) (Nat.le_of_ble_eq_true rfl) (good_z13 (.start a.1 a.2.1) r h)

/-! ### ratchet/ratchetbase.IsValues -/
inductive P_z14 where
 | start (widths0 : (List Int)) (values1 : (List Int))
 | p116 (widths0 : (List Int)) (values1 : (List Int)) (i5 : Int)
noncomputable def place_z14 : P_z14 → List Bool
 | .start .. => []
 | .p116 .. => [false, false, true, false, true, true]
noncomputable def st_z14 : P_z14 → St E.S
 | .start widths0 values1 => st0 27 [.sl 3 widths0 false, .sl 3 values1 false] []
 | .p116 widths0 values1 i5 => mkSt 27 [0, 1, 5] [.sl 3 widths0 false, .sl 3 values1 false, .v (.int .i64 i5)] []
abbrev R_z14 : Type := ((Bool × Unit) × Unit)
noncomputable def res_z14 : Res E (Bool × Unit) Unit := { rows := [], flat := [], keep := 0, done := [0], rl := (RdL.cons Rd.bool RdL.nil), rb := RdBL.nil }
noncomputable def run_z14 : P_z14 → Option R_z14
 | .start widths0 values1 =>
   if ((List.length widths0 : Int) != (List.length values1 : Int)) = true then
     some ((false, ()), ())
   else
     run_z14 (.p116 widths0 values1 (0 : Int))
 | .p116 widths0 values1 i5 =>
   if (decide (i5 < (List.length values1 : Int))) = true then
     (idx values1 i5) >>= fun t1 =>
     (idx widths0 i5) >>= fun t2 =>
     (run_z13 (.start t1 t2)) >>= fun t3 =>
     if (!t3.1.1) = true then
       some ((false, ()), ())
     else
       run_z14 (.p116 widths0 values1 (IntKind.wrap .i64 (i5 + (1 : Int))))
   else
     some ((true, ()), ())
  partial_fixpoint
noncomputable def tab_z14 : List (Plc E P_z14) := [⟨116, [false, false, true, false, true, true], { slots := [0, 1, 5], rows := [], flat := [], keep := 0 }, ((List Int) × ((List Int) × (Int × Unit))), Unit, (RdL.cons (Rd.sl 3 false) (RdL.cons (Rd.sl 3 false) (RdL.cons (Rd.int .i64) RdL.nil))), RdBL.nil, fun a b => .p116 a.1 a.2.1 a.2.2.1⟩]
theorem tab_z14_ok : All (PlcOk 27 0 place_z14 st_z14) tab_z14 := ⟨⟨rfl, rfl, fun _ _ => rfl, fun _ _ => rfl⟩, trivial⟩
noncomputable def code_z14 : Code := Tryz.f82.body.getD .skip
noncomputable def spec_z14 : Spec E.S := (Con.add con_z13 noSpec)
theorem spec_z14_ok : SpecOk E spec_z14 := (Con.add_ok con_z13_ok noSpec_ok)
theorem good_z14 : ∀ pt r, run_z14 pt = some r → Good E Tryz.f82 code_z14 0 (res_z14.av r) (res_z14.bx r) (place_z14 pt) (st_z14 pt) := by
  refine run_z14.partial_correctness (fun pt r => Good E Tryz.f82 code_z14 0 (res_z14.av r) (res_z14.bx r) (place_z14 pt) (st_z14 pt)) ?_
  intro run' ih pt r hr
  cases pt <;> exact fn_step (spec := spec_z14) (wr := (mkWr [] [])) (l := tab_z14) (z := 27) (p := res_z14) E_ok tab_z14_ok.mem rfl spec_z14_ok ih (Eq.trans (by kernel_rfl) hr)
noncomputable def con_z14 : Con E := ⟨82, ((List Int) × ((List Int) × Unit)), Unit, (RwL.cons (Rw.sl 3) (RwL.cons (Rw.sl 3) RwL.nil)), RdBL.nil, 0, R_z14, fun a b => run_z14 (.start a.1 a.2.1), res_z14.av, res_z14.bx⟩
theorem con_z14_ok : con_z14.Ok := fun a b r h => fn_ok (fn := Tryz.f82) (code := code_z14) E_ok (by kernel_rfl) (by kernel_rfl) (by kernel_rfl) (Nat.le_of_ble_eq_true rfl) (good_z14 (.start a.1 a.2.1) r h)

/-! ### ratchet/ratchetref31.DesignStateErr -/
inductive P_z15 where
 | start (state0 : (List Int))
noncomputable def place_z15 : P_z15 → List Bool
 | .start .. => []
noncomputable def st_z15 : P_z15 → St E.S
 | .start state0 => st0 12 [.sl 3 state0 false] []
abbrev R_z15 : Type := ((Int × Unit) × Unit)
noncomputable def res_z15 : Res E (Int × Unit) Unit := { rows := [], flat := [], keep := 0, done := [0], rl := (RdL.cons (Rd.int .i64) RdL.nil), rb := RdBL.nil }
noncomputable def run_z15 : P_z15 → Option R_z15
 | .start state0 =>
   (run_z10 .start) >>= fun t1 =>
   if ((List.length state0 : Int) != (List.length t1.1.1 : Int)) = true then
     some (((10 : Int), ()), ())
   else
     (run_z10 .start) >>= fun t2 =>
     (run_z14 (.start t2.1.1 state0)) >>= fun t3 =>
     if (!t3.1.1) = true then
       some (((2 : Int), ()), ())
     else
       some (((0 : Int), ()), ())
noncomputable def tab_z15 : List (Plc E P_z15) := []
theorem tab_z15_ok : All (PlcOk 12 0 place_z15 st_z15) tab_z15 := trivial
noncomputable def code_z15 : Code := Tryz.f58.body.getD .skip
noncomputable def spec_z15 : Spec E.S := (Con.add con_z14 (Con.add con_z10 noSpec))
theorem spec_z15_ok : SpecOk E spec_z15 := (Con.add_ok con_z14_ok (Con.add_ok con_z10_ok noSpec_ok))
theorem good_z15 : ∀ pt r, run_z15 pt = some r → Good E Tryz.f58 code_z15 0 (res_z15.av r) (res_z15.bx r) (place_z15 pt) (st_z15 pt) := by
  intro pt r hr
  cases pt <;> exact fn_step (spec := spec_z15) (wr := (mkWr [] [])) (l := tab_z15) (z := 12) (p := res_z15) (run' := fun _ => none) E_ok tab_z15_ok.mem rfl spec_z15_ok (fun _ _ h => by cases h) (Eq.trans (by kernel_rfl) hr)
noncomputable def con_z15 : Con E := ⟨58, ((List Int) × Unit), Unit, (RwL.cons (Rw.sl 3) RwL.nil), RdBL.nil, 0, R_z15, fun a b => run_z15 (.start a.1), res_z15.av, res_z15.bx⟩
theorem con_z15_ok : con_z15.Ok := fun a b r h => fn_ok (fn := Tryz.f58) (code := code_z15) E_ok (by kernel_rfl) (by kernel_rfl) (by kernel_rfl) (Nat.le_of_ble_eq_true rfl) (good_z15 (.start a.1) r h)

/-! ### ratchet/ratchetbase.Ints -/
inductive P_z16 where
 | start (a0 : (List Int)) (b1 : (List Int))
 | p116 (a0 : (List Int)) (b1 : (List Int)) (i5 : Int)
noncomputable def place_z16 : P_z16 → List Bool
 | .start .. => []
 | .p116 .. => [false, false, true, false, true, true]
noncomputable def st_z16 : P_z16 → St E.S
 | .start a0 b1 => st0 26 [.sl 3 a0 false, .sl 3 b1 false] []
 | .p116 a0 b1 i5 => mkSt 26 [0, 1, 5] [.sl 3 a0 false, .sl 3 b1 false, .v (.int .i64 i5)] []
abbrev R_z16 : Type := ((Bool × Unit) × Unit)
noncomputable def res_z16 : Res E (Bool × Unit) Unit := { rows := [], flat := [], keep := 0, done := [0], rl := (RdL.cons Rd.bool RdL.nil), rb := RdBL.nil }
noncomputable def run_z16 : P_z16 → Option R_z16
 | .start a0 b1 =>
   if ((List.length a0 : Int) != (List.length b1 : Int)) = true then
     some ((false, ()), ())
   else
     run_z16 (.p116 a0 b1 (0 : Int))
 | .p116 a0 b1 i5 =>
   if (decide (i5 < (List.length a0 : Int))) = true then
     (idx a0 i5) >>= fun t1 =>
     (idx b1 i5) >>= fun t2 =>
     if (t1 != t2) = true then
       some ((false, ()), ())
     else
       run_z16 (.p116 a0 b1 (IntKind.wrap .i64 (i5 + (1 : Int))))
   else
     some ((true, ()), ())
  partial_fixpoint
noncomputable def tab_z16 : List (Plc E P_z16) := [⟨116, [false, false, true, false, true, true], { slots := [0, 1, 5], rows := [], flat := [], keep := 0 }, ((List Int) × ((List Int) × (Int × Unit))), Unit, (RdL.cons (Rd.sl 3 false) (RdL.cons (Rd.sl 3 false) (RdL.cons (Rd.int .i64) RdL.nil))), RdBL.nil, fun a b => .p116 a.1 a.2.1 a.2.2.1⟩]
theorem tab_z16_ok : All (PlcOk 26 0 place_z16 st_z16) tab_z16 := ⟨⟨rfl, rfl, fun _ _ => rfl, fun _ _ => rfl⟩, trivial⟩
noncomputable def code_z16 : Code := Tryz.f46.body.getD .skip
noncomputable def spec_z16 : Spec E.S := noSpec
theorem spec_z16_ok : SpecOk E spec_z16 := noSpec_ok
theorem good_z16 : ∀ pt r, run_z16 pt = some r → Good E Tryz.f46 code_z16 0 (res_z16.av r) (res_z16.bx r) (place_z16 pt) (st_z16 pt) := by
  refine run_z16.partial_correctness (fun pt r => Good E Tryz.f46 code_z16 0 (res_z16.av r) (res_z16.bx r) (place_z16 pt) (st_z16 pt)) ?_
  intro run' ih pt r hr
  cases pt <;> exact fn_step (spec := spec_z16) (wr := (mkWr [] [])) (l := tab_z16) (z := 26) (p := res_z16) E_ok tab_z16_ok.mem rfl spec_z16_ok ih (Eq.trans (by kernel_rfl) hr)
noncomputable def con_z16 : Con E := ⟨46, ((List Int) × ((List Int) × Unit)), Unit, (RwL.cons (Rw.sl 3) (RwL.cons (Rw.sl 3) RwL.nil)), RdBL.nil, 0, R_z16, fun a b => run_z16 (.start a.1 a.2.1), res_z16.av, res_z16.bx⟩
theorem con_z16_ok : con_z16.Ok := fun a b r h => fn_ok (fn := Tryz.f46) (code := code_z16) E_ok (by kernel_rfl) (by kernel_rfl) (by kernel_rfl) (Nat.le_of_ble_eq_true rfl) (good_z16 (.start a.1 a.2.1) r h)

/-! ### ratchet/ratchetref31.Same -/
inductive P_z17 where
 | start (a0_0 : Int) (a0_1 : Int) (a0_2 : (List Int)) (a0_3 : (List Int)) (b1_0 : Int) (b1_1 : Int) (b1_2 : (List Int)) (b1_3 : (List Int))
noncomputable def place_z17 : P_z17 → List Bool
 | .start .. => []
noncomputable def st_z17 : P_z17 → St E.S
 | .start a0_0 a0_1 a0_2 a0_3 b1_0 b1_1 b1_2 b1_3 => st0 31 [.agg [.v (.int .i64 a0_0), .v (.int .i64 a0_1), .sl 3 a0_2 false, .sl 3 a0_3 false], .agg [.v (.int .i64 b1_0), .v (.int .i64 b1_1), .sl 3 b1_2 false, .sl 3 b1_3 false]] []
abbrev R_z17 : Type := ((Bool × Unit) × Unit)
noncomputable def res_z17 : Res E (Bool × Unit) Unit := { rows := [], flat := [], keep := 0, done := [0], rl := (RdL.cons Rd.bool RdL.nil), rb := RdBL.nil }
noncomputable def run_z17 : P_z17 → Option R_z17
 | .start a0_0 a0_1 a0_2 a0_3 b1_0 b1_1 b1_2 b1_3 =>
   if (a0_0 == b1_0) = true then
     if (a0_1 == b1_1) = true then
       (run_z16 (.start a0_2 b1_2)) >>= fun t1 =>
       if t1.1.1 = true then
         (run_z16 (.start a0_3 b1_3)) >>= fun t2 =>
         some ((t2.1.1, ()), ())
       else
         some ((false, ()), ())
     else
       some ((false, ()), ())
   else
     some ((false, ()), ())
noncomputable def tab_z17 : List (Plc E P_z17) := []
theorem tab_z17_ok : All (PlcOk 31 0 place_z17 st_z17) tab_z17 := trivial
noncomputable def code_z17 : Code := Tryz.f18.body.getD .skip
noncomputable def spec_z17 : Spec E.S := (Con.add con_z16 noSpec)
theorem spec_z17_ok : SpecOk E spec_z17 := (Con.add_ok con_z16_ok noSpec_ok)
theorem good_z17 : ∀ pt r, run_z17 pt = some r → Good E Tryz.f18 code_z17 0 (res_z17.av r) (res_z17.bx r) (place_z17 pt) (st_z17 pt) := by
  intro pt r hr
  cases pt <;> exact fn_step (spec := spec_z17) (wr := (mkWr [] [])) (l := tab_z17) (z := 31) (p := res_z17) (run' := fun _ => none) E_ok tab_z17_ok.mem rfl spec_z17_ok (fun _ _ h => by cases h) (Eq.trans (by kernel_rfl) hr)
noncomputable def con_z17 : Con E := ⟨18, ((Int × (Int × ((List Int) × ((List Int) × Unit)))) × ((Int × (Int × ((List Int) × ((List Int) × Unit)))) × Unit)), Unit, (RwL.cons (Rw.agg (RwL.cons (Rd.int .i64).w (RwL.cons (Rd.int .i64).w (RwL.cons (Rw.sl 3) (RwL.cons (Rw.sl 3) RwL.nil))))) (RwL.cons (Rw.agg (RwL.cons (Rd.int .i64).w (RwL.cons (Rd.int .i64).w (RwL.cons (Rw.sl 3) (RwL.cons (Rw.sl 3) RwL.nil))))) RwL.nil)), RdBL.nil, 0, R_z17, fun a b => run_z17 (.start a.1.1 a.1.2.1 a.1.2.2.1 a.1.2.2.2.1 a.2.1.1 a.2.1.2.1 a.2.1.2.2.1 a.2.1.2.2.2.1), res_z17.av, res_z17.bx⟩
theorem con_z17_ok : con_z17.Ok := fun a b r h => fn_ok (fn := Tryz.f18) (code := code_z17) E_ok (by kernel_rfl) (by kernel_rfl) (by kernel_rfl) (Nat.le_of_ble_eq_true rfl) (good_z17 (.start a.1.1 a.1.2.1 a.1.2.2.1 a.1.2.2.2.1 a.2.1.1 a.2.1.2.1 a.2.1.2.2.1 a.2.1.2.2.2.1) r h)

/-! ### ratchet/ratchetref31.In -/
inductive P_z18 where
 | start (state0 : (List Int))
noncomputable def place_z18 : P_z18 → List Bool
 | .start .. => []
noncomputable def st_z18 : P_z18 → St E.S
 | .start state0 => st0 16 [.sl 3 state0 false] []
abbrev R_z18 : Type := (((Int × (Int × (Unit × (Unit × Unit)))) × Unit) × ((List Int) × ((List Int) × Unit)))
noncomputable def res_z18 : Res E ((Int × (Int × (Unit × (Unit × Unit)))) × Unit) ((List Int) × ((List Int) × Unit)) := { rows := [], flat := [], keep := 0, done := [0], rl := (RdL.cons (Rd.agg (RdL.cons (Rd.int .i64) (RdL.cons (Rd.int .i64) (RdL.cons (Rd.rw 0) (RdL.cons (Rd.rw 1) RdL.nil))))) RdL.nil), rb := (RdBL.cons (RdB.row 3 true) (RdBL.cons (RdB.row 3 true) RdBL.nil)) }
noncomputable def run_z18 : P_z18 → Option R_z18
 | .start state0 =>
   (idx state0 (0 : Int)) >>= fun t1 =>
   (idx state0 (1 : Int)) >>= fun t2 =>
   (span (List.length state0) (4 : Int) (8 : Int)) >>= fun t3 =>
   (run_z0 (.start (cut state0 t3))) >>= fun t4 =>
   (span (List.length state0) (8 : Int) (16 : Int)) >>= fun t5 =>
   (run_z0 (.start (cut state0 t5))) >>= fun t6 =>
   some (((t1, (t2, ((), ((), ())))), ()), (t4.2.1, (t6.2.1, ())))
noncomputable def tab_z18 : List (Plc E P_z18) := []
theorem tab_z18_ok : All (PlcOk 16 0 place_z18 st_z18) tab_z18 := trivial
noncomputable def code_z18 : Code := Tryz.f59.body.getD .skip
noncomputable def spec_z18 : Spec E.S := (Con.add con_z0 noSpec)
theorem spec_z18_ok : SpecOk E spec_z18 := (Con.add_ok con_z0_ok noSpec_ok)
theorem good_z18 : ∀ pt r, run_z18 pt = some r → Good E Tryz.f59 code_z18 0 (res_z18.av r) (res_z18.bx r) (place_z18 pt) (st_z18 pt) := by
  intro pt r hr
  cases pt <;> exact fn_step (spec := spec_z18) (wr := (mkWr [] [])) (l := tab_z18) (z := 16) (p := res_z18) (run' := fun _ => none) E_ok tab_z18_ok.mem rfl spec_z18_ok (fun _ _ h => by cases h) (Eq.trans (by kernel_rfl) hr)
noncomputable def con_z18 : Con E := ⟨59, ((List Int) × Unit), Unit, (RwL.cons (Rw.sl 3) RwL.nil), RdBL.nil, 0, R_z18, fun a b => run_z18 (.start a.1), res_z18.av, res_z18.bx⟩
theorem con_z18_ok : con_z18.Ok := fun a b r h => fn_ok (fn := Tryz.f59) (code := code_z18) E_ok (by kernel_rfl) (by kernel_rfl) (by kernel_rfl) (Nat.le_of_ble_eq_true rfl) (good_z18 (.start a.1) r h)

/-! ### ratchet/ratchetref31.CopyProgram -/
inductive P_z19 where
 | start (l0 : (List api_MachineCode))
noncomputable def place_z19 : P_z19 → List Bool
 | .start .. => []
noncomputable def st_z19 : P_z19 → St E.S
 | .start l0 => st0 6 [.sl 40 l0 false] []
abbrev R_z19 : Type := ((Unit × Unit) × ((List api_MachineCode) × Unit))
noncomputable def res_z19 : Res E (Unit × Unit) ((List api_MachineCode) × Unit) := { rows := [], flat := [], keep := 0, done := [0], rl := (RdL.cons (Rd.rw 0) RdL.nil), rb := (RdBL.cons (RdB.row 40 true) RdBL.nil) }
noncomputable def run_z19 : P_z19 → Option R_z19
 | .start l0 =>
   if (fits (List.length ([] : List api_MachineCode)) (List.length l0) 32) = true then
     some (((), ()), (([] : List api_MachineCode) ++ l0, ()))
   else none
noncomputable def tab_z19 : List (Plc E P_z19) := []
theorem tab_z19_ok : All (PlcOk 6 0 place_z19 st_z19) tab_z19 := trivial
noncomputable def code_z19 : Code := Tryz.f14.body.getD .skip
noncomputable def spec_z19 : Spec E.S := noSpec
theorem spec_z19_ok : SpecOk E spec_z19 := noSpec_ok
theorem good_z19 : ∀ pt r, run_z19 pt = some r → Good E Tryz.f14 code_z19 0 (res_z19.av r) (res_z19.bx r) (place_z19 pt) (st_z19 pt) := by
  intro pt r hr
  cases pt <;> exact fn_step (spec := spec_z19) (wr := (mkWr [] [])) (l := tab_z19) (z := 6) (p := res_z19) (run' := fun _ => none) E_ok tab_z19_ok.mem rfl spec_z19_ok (fun _ _ h => by cases h) (Eq.trans (by kernel_rfl) hr)
noncomputable def con_z19 : Con E := ⟨14, ((List api_MachineCode) × Unit), Unit, (RwL.cons (Rw.sl 40) RwL.nil), RdBL.nil, 0, R_z19, fun a b => run_z19 (.start a.1), res_z19.av, res_z19.bx⟩
theorem con_z19_ok : con_z19.Ok := fun a b r h => fn_ok (fn := Tryz.f14) (code := code_z19) E_ok (by kernel_rfl) (by kernel_rfl) (by kernel_rfl) (Nat.le_of_ble_eq_true rfl) (good_z19 (.start a.1) r h)

/-! ### ratchet/machine.isRegister -/
inductive P_z20 where
 | start (n0 : Int)
noncomputable def place_z20 : P_z20 → List Bool
 | .start .. => []
noncomputable def st_z20 : P_z20 → St E.S
 | .start n0 => st0 5 [.v (.int .i64 n0)] []
abbrev R_z20 : Type := ((Bool × Unit) × Unit)
noncomputable def res_z20 : Res E (Bool × Unit) Unit := { rows := [], flat := [], keep := 0, done := [0], rl := (RdL.cons Rd.bool RdL.nil), rb := RdBL.nil }
noncomputable def run_z20 : P_z20 → Option R_z20
 | .start n0 =>
   (run_z2 (.start n0 (0 : Int) (3 : Int))) >>= fun t1 =>
   some ((t1.1.1, ()), ())
noncomputable def tab_z20 : List (Plc E P_z20) := []
theorem tab_z20_ok : All (PlcOk 5 0 place_z20 st_z20) tab_z20 := trivial
noncomputable def code_z20 : Code := Tryz.f122.body.getD .skip
noncomputable def spec_z20 : Spec E.S := (Con.add con_z2 noSpec)
theorem spec_z20_ok : SpecOk E spec_z20 := (Con.add_ok con_z2_ok noSpec_ok)
theorem good_z20 : ∀ pt r, run_z20 pt = some r → Good E Tryz.f122 code_z20 0 (res_z20.av r) (res_z20.bx r) (place_z20 pt) (st_z20 pt) := by
  intro pt r hr
  cases pt <;> exact fn_step (spec := spec_z20) (wr := (mkWr [] [])) (l := tab_z20) (z := 5) (p := res_z20) (run' := fun _ => none) E_ok tab_z20_ok.mem rfl spec_z20_ok (fun _ _ h => by cases h) (Eq.trans (by kernel_rfl) hr)
noncomputable def con_z20 : Con E := ⟨122, (Int × Unit), Unit, (RwL.cons (Rd.int .i64).w RwL.nil), RdBL.nil, 0, R_z20, fun a b => run_z20 (.start a.1), res_z20.av, res_z20.bx⟩
theorem con_z20_ok : con_z20.Ok := fun a b r h => fn_ok (fn := Tryz.f122) (code := code_z20) E_ok (by kernel_rfl) (by kernel_rfl) (by kernel_rfl) (Nat.le_of_ble_eq_true rfl) (good_z20 (.start a.1) r h)

/-! ### ratchet/machine.jumps -/
inductive P_z21 where
 | start (op0 : Int)
noncomputable def place_z21 : P_z21 → List Bool
 | .start .. => []
noncomputable def st_z21 : P_z21 → St E.S
 | .start op0 => st0 9 [.v (.int .i64 op0)] []
abbrev R_z21 : Type := ((Bool × Unit) × Unit)
noncomputable def res_z21 : Res E (Bool × Unit) Unit := { rows := [], flat := [], keep := 0, done := [0], rl := (RdL.cons Rd.bool RdL.nil), rb := RdBL.nil }
noncomputable def run_z21 : P_z21 → Option R_z21
 | .start op0 =>
   if (op0 == (8 : Int)) = true then
     some ((true, ()), ())
   else
     some ((op0 == (9 : Int), ()), ())
noncomputable def tab_z21 : List (Plc E P_z21) := []
theorem tab_z21_ok : All (PlcOk 9 0 place_z21 st_z21) tab_z21 := trivial
noncomputable def code_z21 : Code := Tryz.f151.body.getD .skip
noncomputable def spec_z21 : Spec E.S := noSpec
theorem spec_z21_ok : SpecOk E spec_z21 := noSpec_ok
theorem good_z21 : ∀ pt r, run_z21 pt = some r → Good E Tryz.f151 code_z21 0 (res_z21.av r) (res_z21.bx r) (place_z21 pt) (st_z21 pt) := by
  intro pt r hr
  cases pt <;> exact fn_step (spec := spec_z21) (wr := (mkWr [] [])) (l := tab_z21) (z := 9) (p := res_z21) (run' := fun _ => none) E_ok tab_z21_ok.mem rfl spec_z21_ok (fun _ _ h => by cases h) (Eq.trans (by kernel_rfl) hr)
noncomputable def con_z21 : Con E := ⟨151, (Int × Unit), Unit, (RwL.cons (Rd.int .i64).w RwL.nil), RdBL.nil, 0, R_z21, fun a b => run_z21 (.start a.1), res_z21.av, res_z21.bx⟩
theorem con_z21_ok : con_z21.Ok := fun a b r h => fn_ok (fn := Tryz.f151) (code := code_z21) E_ok (by kernel_rfl) (by kernel_rfl) (by kernel_rfl) (Nat.le_of_ble_eq_true rfl) (good_z21 (.start a.1) r h)

/-! ### ratchet/machine.isPlace -/
inductive P_z22 where
 | start (n0 : Int)
noncomputable def place_z22 : P_z22 → List Bool
 | .start .. => []
noncomputable def st_z22 : P_z22 → St E.S
 | .start n0 => st0 5 [.v (.int .i64 n0)] []
abbrev R_z22 : Type := ((Bool × Unit) × Unit)
noncomputable def res_z22 : Res E (Bool × Unit) Unit := { rows := [], flat := [], keep := 0, done := [0], rl := (RdL.cons Rd.bool RdL.nil), rb := RdBL.nil }
noncomputable def run_z22 : P_z22 → Option R_z22
 | .start n0 =>
   (run_z2 (.start n0 (0 : Int) (15 : Int))) >>= fun t1 =>
   some ((t1.1.1, ()), ())
noncomputable def tab_z22 : List (Plc E P_z22) := []
theorem tab_z22_ok : All (PlcOk 5 0 place_z22 st_z22) tab_z22 := trivial
noncomputable def code_z22 : Code := Tryz.f123.body.getD .skip
noncomputable def spec_z22 : Spec E.S := (Con.add con_z2 noSpec)
theorem spec_z22_ok : SpecOk E spec_z22 := (Con.add_ok con_z2_ok noSpec_ok)
theorem good_z22 : ∀ pt r, run_z22 pt = some r → Good E Tryz.f123 code_z22 0 (res_z22.av r) (res_z22.bx r) (place_z22 pt) (st_z22 pt) := by
  intro pt r hr
  cases pt <;> exact fn_step (spec := spec_z22) (wr := (mkWr [] [])) (l := tab_z22) (z := 5) (p := res_z22) (run' := fun _ => none) E_ok tab_z22_ok.mem rfl spec_z22_ok (fun _ _ h => by cases h) (Eq.trans (by kernel_rfl) hr)
noncomputable def con_z22 : Con E := ⟨123, (Int × Unit), Unit, (RwL.cons (Rd.int .i64).w RwL.nil), RdBL.nil, 0, R_z22, fun a b => run_z22 (.start a.1), res_z22.av, res_z22.bx⟩
theorem con_z22_ok : con_z22.Ok := fun a b r h => fn_ok (fn := Tryz.f123) (code := code_z22) E_ok (by kernel_rfl) (by kernel_rfl) (by kernel_rfl) (Nat.le_of_ble_eq_true rfl) (good_z22 (.start a.1) r h)

/-! ### ratchet/machine.isByte -/
inductive P_z23 where
 | start (n0 : Int)
noncomputable def place_z23 : P_z23 → List Bool
 | .start .. => []
noncomputable def st_z23 : P_z23 → St E.S
 | .start n0 => st0 5 [.v (.int .i64 n0)] []
abbrev R_z23 : Type := ((Bool × Unit) × Unit)
noncomputable def res_z23 : Res E (Bool × Unit) Unit := { rows := [], flat := [], keep := 0, done := [0], rl := (RdL.cons Rd.bool RdL.nil), rb := RdBL.nil }
noncomputable def run_z23 : P_z23 → Option R_z23
 | .start n0 =>
   (run_z2 (.start n0 (0 : Int) (255 : Int))) >>= fun t1 =>
   some ((t1.1.1, ()), ())
noncomputable def tab_z23 : List (Plc E P_z23) := []
theorem tab_z23_ok : All (PlcOk 5 0 place_z23 st_z23) tab_z23 := trivial
noncomputable def code_z23 : Code := Tryz.f152.body.getD .skip
noncomputable def spec_z23 : Spec E.S := (Con.add con_z2 noSpec)
theorem spec_z23_ok : SpecOk E spec_z23 := (Con.add_ok con_z2_ok noSpec_ok)
theorem good_z23 : ∀ pt r, run_z23 pt = some r → Good E Tryz.f152 code_z23 0 (res_z23.av r) (res_z23.bx r) (place_z23 pt) (st_z23 pt) := by
  intro pt r hr
  cases pt <;> exact fn_step (spec := spec_z23) (wr := (mkWr [] [])) (l := tab_z23) (z := 5) (p := res_z23) (run' := fun _ => none) E_ok tab_z23_ok.mem rfl spec_z23_ok (fun _ _ h => by cases h) (Eq.trans (by kernel_rfl) hr)
noncomputable def con_z23 : Con E := ⟨152, (Int × Unit), Unit, (RwL.cons (Rd.int .i64).w RwL.nil), RdBL.nil, 0, R_z23, fun a b => run_z23 (.start a.1), res_z23.av, res_z23.bx⟩
theorem con_z23_ok : con_z23.Ok := fun a b r h => fn_ok (fn := Tryz.f152) (code := code_z23) E_ok (by kernel_rfl) (by kernel_rfl) (by kernel_rfl) (Nat.le_of_ble_eq_true rfl) (good_z23 (.start a.1) r h)

/-! ### ratchet/machine.isNumber -/
inductive P_z24 where
 | start (op0 : Int) (n1 : Int)
noncomputable def place_z24 : P_z24 → List Bool
 | .start .. => []
noncomputable def st_z24 : P_z24 → St E.S
 | .start op0 n1 => st0 11 [.v (.int .i64 op0), .v (.int .i64 n1)] []
abbrev R_z24 : Type := ((Bool × Unit) × Unit)
noncomputable def res_z24 : Res E (Bool × Unit) Unit := { rows := [], flat := [], keep := 0, done := [0], rl := (RdL.cons Rd.bool RdL.nil), rb := RdBL.nil }
noncomputable def run_z24 : P_z24 → Option R_z24
 | .start op0 n1 =>
   (run_z21 (.start op0)) >>= fun t1 =>
   if t1.1.1 = true then
     (run_z22 (.start n1)) >>= fun t2 =>
     some ((t2.1.1, ()), ())
   else
     (run_z23 (.start n1)) >>= fun t3 =>
     some ((t3.1.1, ()), ())
noncomputable def tab_z24 : List (Plc E P_z24) := []
theorem tab_z24_ok : All (PlcOk 11 0 place_z24 st_z24) tab_z24 := trivial
noncomputable def code_z24 : Code := Tryz.f101.body.getD .skip
noncomputable def spec_z24 : Spec E.S := (Con.add con_z23 (Con.add con_z22 (Con.add con_z21 noSpec)))
theorem spec_z24_ok : SpecOk E spec_z24 := (Con.add_ok con_z23_ok (Con.add_ok con_z22_ok (Con.add_ok con_z21_ok noSpec_ok)))
theorem good_z24 : ∀ pt r, run_z24 pt = some r → Good E Tryz.f101 code_z24 0 (res_z24.av r) (res_z24.bx r) (place_z24 pt) (st_z24 pt) := by
  intro pt r hr
  cases pt <;> exact fn_step (spec := spec_z24) (wr := (mkWr [] [])) (l := tab_z24) (z := 11) (p := res_z24) (run' := fun _ => none) E_ok tab_z24_ok.mem rfl spec_z24_ok (fun _ _ h => by cases h) (Eq.trans (by kernel_rfl) hr)
noncomputable def con_z24 : Con E := ⟨101, (Int × (Int × Unit)), Unit, (RwL.cons (Rd.int .i64).w (RwL.cons (Rd.int .i64).w RwL.nil)), RdBL.nil, 0, R_z24, fun a b => run_z24 (.start a.1 a.2.1), res_z24.av, res_z24.bx⟩
theorem con_z24_ok : con_z24.Ok := fun a b r h => fn_ok (fn := Tryz.f101) (code := code_z24) E_ok (by kernel_rfl) (by kernel_rfl) (by kernel_rfl) (Nat.le_of_ble_eq_true rfl) (good_z24 (.start a.1 a.2.1) r h)

/-! ### ratchet/machine.first -/
inductive P_z25 where
 | start (l0 : (List Int))
 | p52 (s5 : (List Int)) (s6 : Int) (s7 : Int)
noncomputable def place_z25 : P_z25 → List Bool
 | .start .. => []
 | .p52 .. => [false, false, true, false, true]
noncomputable def st_z25 : P_z25 → St E.S
 | .start l0 => st0 15 [.sl 28 l0 false] []
 | .p52 s5 s6 s7 => mkSt 15 [5, 6, 7] [.sl 28 s5 false, .v (.int .i64 s6), .v (.int .i64 s7)] []
abbrev R_z25 : Type := ((Int × Unit) × Unit)
noncomputable def res_z25 : Res E (Int × Unit) Unit := { rows := [], flat := [], keep := 0, done := [0], rl := (RdL.cons (Rd.int .i64) RdL.nil), rb := RdBL.nil }
noncomputable def run_z25 : P_z25 → Option R_z25
 | .start l0 =>
   run_z25 (.p52 l0 (List.length l0 : Int) (0 : Int))
 | .p52 s5 s6 s7 =>
   if (decide (s7 < s6)) = true then
     (idx s5 s7) >>= fun t1 =>
     if (t1 != (0 : Int)) = true then
       some ((t1, ()), ())
     else
       run_z25 (.p52 s5 s6 (IntKind.wrap .i64 (s7 + (1 : Int))))
   else
     some (((0 : Int), ()), ())
  partial_fixpoint
noncomputable def tab_z25 : List (Plc E P_z25) := [⟨52, [false, false, true, false, true], { slots := [5, 6, 7], rows := [], flat := [], keep := 0 }, ((List Int) × (Int × (Int × Unit))), Unit, (RdL.cons (Rd.sl 28 false) (RdL.cons (Rd.int .i64) (RdL.cons (Rd.int .i64) RdL.nil))), RdBL.nil, fun a b => .p52 a.1 a.2.1 a.2.2.1⟩]
theorem tab_z25_ok : All (PlcOk 15 0 place_z25 st_z25) tab_z25 := ⟨⟨rfl, rfl, fun _ _ => rfl, fun _ _ => rfl⟩, trivial⟩
noncomputable def code_z25 : Code := Tryz.f65.body.getD .skip
noncomputable def spec_z25 : Spec E.S := noSpec
theorem spec_z25_ok : SpecOk E spec_z25 := noSpec_ok
theorem good_z25 : ∀ pt r, run_z25 pt = some r → Good E Tryz.f65 code_z25 0 (res_z25.av r) (res_z25.bx r) (place_z25 pt) (st_z25 pt) := by
  refine run_z25.partial_correctness (fun pt r => Good E Tryz.f65 code_z25 0 (res_z25.av r) (res_z25.bx r) (place_z25 pt) (st_z25 pt)) ?_
  intro run' ih pt r hr
  cases pt <;> exact fn_step (spec := spec_z25) (wr := (mkWr [] [])) (l := tab_z25) (z := 15) (p := res_z25) E_ok tab_z25_ok.mem rfl spec_z25_ok ih (Eq.trans (by kernel_rfl) hr)
noncomputable def con_z25 : Con E := ⟨65, ((List Int) × Unit), Unit, (RwL.cons (Rw.sl 28) RwL.nil), RdBL.nil, 0, R_z25, fun a b => run_z25 (.start a.1), res_z25.av, res_z25.bx⟩
theorem con_z25_ok : con_z25.Ok := fun a b r h => fn_ok (fn := Tryz.f65) (code := code_z25) E_ok (by kernel_rfl) (by kernel_rfl) (by kernel_rfl) (Nat.le_of_ble_eq_true rfl) (good_z25 (.start a.1) r h)

/-! ### ratchet/machine.codeErr -/
inductive P_z26 where
 | start (s0 : Int) (c1_0 : Int) (c1_1 : Int) (c1_2 : Int) (c1_3 : Int)
 | p31 (strange6 : Bool) (B0_0 : Int) (B0_1 : Int) (B0_2 : Int) (B0_3 : Int)
noncomputable def place_z26 : P_z26 → List Bool
 | .start .. => []
 | .p31 .. => [true, true, true, true]
noncomputable def st_z26 : P_z26 → St E.S
 | .start s0 c1_0 c1_1 c1_2 c1_3 => st0 64 [.v (.int .i64 s0), .agg [.v (.int .i64 c1_0), .v (.int .i64 c1_1), .v (.int .i64 c1_2), .v (.int .i64 c1_3)]] []
 | .p31 strange6 B0_0 B0_1 B0_2 B0_3 => mkSt 64 [3, 6] [.bp 0 0, .v (.bool strange6)] [.var 40 [.v (.int .i64 B0_0), .v (.int .i64 B0_1), .v (.int .i64 B0_2), .v (.int .i64 B0_3)]]
abbrev R_z26 : Type := ((Int × Unit) × Unit)
noncomputable def res_z26 : Res E (Int × Unit) Unit := { rows := [], flat := [], keep := 0, done := [0], rl := (RdL.cons (Rd.int .i64) RdL.nil), rb := RdBL.nil }
noncomputable def run_z26 : P_z26 → Option R_z26
 | .start s0 c1_0 c1_1 c1_2 c1_3 =>
   (run_z2 (.start c1_0 (0 : Int) (9 : Int))) >>= fun t1 =>
   if (!t1.1.1) = true then
     some (((15 : Int), ()), ())
   else
     (idx glob0 c1_0) >>= fun t2 =>
     if (!t2.a) = true then
       if (c1_1 != (0 : Int)) = true then
         run_z26 (.p31 true c1_0 c1_1 c1_2 c1_3)
       else
         if (!t2.b) = true then
           if (c1_2 != (0 : Int)) = true then
             run_z26 (.p31 true c1_0 c1_1 c1_2 c1_3)
           else
             if (!t2.n) = true then
               run_z26 (.p31 (c1_3 != (0 : Int)) c1_0 c1_1 c1_2 c1_3)
             else
               run_z26 (.p31 false c1_0 c1_1 c1_2 c1_3)
         else
           if (!t2.n) = true then
             run_z26 (.p31 (c1_3 != (0 : Int)) c1_0 c1_1 c1_2 c1_3)
           else
             run_z26 (.p31 false c1_0 c1_1 c1_2 c1_3)
     else
       if (!t2.b) = true then
         if (c1_2 != (0 : Int)) = true then
           run_z26 (.p31 true c1_0 c1_1 c1_2 c1_3)
         else
           if (!t2.n) = true then
             run_z26 (.p31 (c1_3 != (0 : Int)) c1_0 c1_1 c1_2 c1_3)
           else
             run_z26 (.p31 false c1_0 c1_1 c1_2 c1_3)
       else
         if (!t2.n) = true then
           run_z26 (.p31 (c1_3 != (0 : Int)) c1_0 c1_1 c1_2 c1_3)
         else
           run_z26 (.p31 false c1_0 c1_1 c1_2 c1_3)
 | .p31 strange6 B0_0 B0_1 B0_2 B0_3 =>
   (run_z20 (.start B0_1)) >>= fun t1 =>
   if t1.1.1 = true then
     (run_z20 (.start B0_2)) >>= fun t2 =>
     if t2.1.1 = true then
       (run_z24 (.start B0_0 B0_3)) >>= fun t3 =>
       (run_z3 (.start t3.1.1 (2 : Int))) >>= fun t4 =>
       (run_z3 (.start (!strange6) (3 : Int))) >>= fun t5 =>
       (run_z25 (.start ([t4.1.1, t5.1.1] : List Int))) >>= fun t6 =>
       some ((t6.1.1, ()), ())
     else
       (run_z3 (.start false (2 : Int))) >>= fun t7 =>
       (run_z3 (.start (!strange6) (3 : Int))) >>= fun t8 =>
       (run_z25 (.start ([t7.1.1, t8.1.1] : List Int))) >>= fun t9 =>
       some ((t9.1.1, ()), ())
   else
     (run_z3 (.start false (2 : Int))) >>= fun t10 =>
     (run_z3 (.start (!strange6) (3 : Int))) >>= fun t11 =>
     (run_z25 (.start ([t10.1.1, t11.1.1] : List Int))) >>= fun t12 =>
     some ((t12.1.1, ()), ())
  partial_fixpoint
noncomputable def tab_z26 : List (Plc E P_z26) := [⟨31, [true, true, true, true], { slots := [3, 6], rows := [], flat := [], keep := 0 }, (Unit × (Bool × Unit)), ((Int × (Int × (Int × (Int × Unit)))) × Unit), (RdL.cons (Rd.bp 0 0) (RdL.cons Rd.bool RdL.nil)), (RdBL.cons (RdB.var 40 (RdL.cons (Rd.int .i64) (RdL.cons (Rd.int .i64) (RdL.cons (Rd.int .i64) (RdL.cons (Rd.int .i64) RdL.nil))))) RdBL.nil), fun a b => .p31 a.2.1 b.1.1 b.1.2.1 b.1.2.2.1 b.1.2.2.2.1⟩]
theorem tab_z26_ok : All (PlcOk 64 0 place_z26 st_z26) tab_z26 := ⟨⟨rfl, rfl, fun _ _ => rfl, fun _ _ => rfl⟩, trivial⟩
noncomputable def code_z26 : Code := Tryz.f73.body.getD .skip
noncomputable def spec_z26 : Spec E.S := (Con.add con_z25 (Con.add con_z3 (Con.add con_z24 (Con.add con_z20 (Con.add con_z2 noSpec)))))
theorem spec_z26_ok : SpecOk E spec_z26 := (Con.add_ok con_z25_ok (Con.add_ok con_z3_ok (Con.add_ok con_z24_ok (Con.add_ok con_z20_ok (Con.add_ok con_z2_ok noSpec_ok)))))
theorem good_z26 : ∀ pt r, run_z26 pt = some r → Good E Tryz.f73 code_z26 0 (res_z26.av r) (res_z26.bx r) (place_z26 pt) (st_z26 pt) := by
  refine run_z26.partial_correctness (fun pt r => Good E Tryz.f73 code_z26 0 (res_z26.av r) (res_z26.bx r) (place_z26 pt) (st_z26 pt)) ?_
  intro run' ih pt r hr
  cases pt <;> exact fn_step (spec := spec_z26) (wr := (mkWr [] [])) (l := tab_z26) (z := 64) (p := res_z26) E_ok tab_z26_ok.mem rfl spec_z26_ok ih (Eq.trans (by kernel_rfl) hr)
noncomputable def con_z26 : Con E := ⟨73, (Int × ((Int × (Int × (Int × (Int × Unit)))) × Unit)), Unit, (RwL.cons (Rd.int .i64).w (RwL.cons (Rw.agg (RwL.cons (Rd.int .i64).w (RwL.cons (Rd.int .i64).w (RwL.cons (Rd.int .i64).w (RwL.cons (Rd.int .i64).w RwL.nil))))) RwL.nil)), RdBL.nil, 0, R_z26, fun a b => run_z26 (.start a.1 a.2.1.1 a.2.1.2.1 a.2.1.2.2.1 a.2.1.2.2.2.1), res_z26.av, res_z26.bx⟩
theorem con_z26_ok : con_z26.Ok := fun a b r h => fn_ok (fn := Tryz.f73) (code := code_z26) E_ok (by kernel_rfl) (by kernel_rfl) (by kernel_rfl) (Nat.le_of_ble_eq_true rfl) (good_z26 (.start a.1 a.2.1.1 a.2.1.2.1 a.2.1.2.2.1 a.2.1.2.2.2.1) r h)

/-! ### ratchet/machine.each[ratchet/api.MachineCode] -/
inductive P_z27 where
 | start (l0 : (List api_MachineCode))
 | p52 (s9 : (List api_MachineCode)) (s10 : Int) (s11 : Int)
noncomputable def place_z27 : P_z27 → List Bool
 | .start .. => []
 | .p52 .. => [false, false, true, false, true]
noncomputable def st_z27 : P_z27 → St E.S
 | .start l0 => st0 25 [.sl 40 l0 false, .fn 73 []] []
 | .p52 s9 s10 s11 => mkSt 25 [1, 9, 10, 11] [.fn 73 [], .sl 40 s9 false, .v (.int .i64 s10), .v (.int .i64 s11)] []
abbrev R_z27 : Type := ((Int × (Int × Unit)) × Unit)
noncomputable def res_z27 : Res E (Int × (Int × Unit)) Unit := { rows := [], flat := [], keep := 0, done := [0, 1], rl := (RdL.cons (Rd.int .i64) (RdL.cons (Rd.int .i64) RdL.nil)), rb := RdBL.nil }
noncomputable def run_z27 : P_z27 → Option R_z27
 | .start l0 =>
   run_z27 (.p52 l0 (List.length l0 : Int) (0 : Int))
 | .p52 s9 s10 s11 =>
   if (decide (s11 < s10)) = true then
     (idx s9 s11) >>= fun t1 =>
     (run_z26 (.start s11 t1.Op t1.A t1.B t1.N)) >>= fun t2 =>
     if (t2.1.1 != (0 : Int)) = true then
       some ((s11, (t2.1.1, ())), ())
     else
       run_z27 (.p52 s9 s10 (IntKind.wrap .i64 (s11 + (1 : Int))))
   else
     some (((0 : Int), ((0 : Int), ())), ())
  partial_fixpoint
noncomputable def tab_z27 : List (Plc E P_z27) := [⟨52, [false, false, true, false, true], { slots := [1, 9, 10, 11], rows := [], flat := [], keep := 0 }, (Unit × ((List api_MachineCode) × (Int × (Int × Unit)))), Unit, (RdL.cons (Rd.fn 73 RdL.nil) (RdL.cons (Rd.sl 40 false) (RdL.cons (Rd.int .i64) (RdL.cons (Rd.int .i64) RdL.nil)))), RdBL.nil, fun a b => .p52 a.2.1 a.2.2.1 a.2.2.2.1⟩]
theorem tab_z27_ok : All (PlcOk 25 0 place_z27 st_z27) tab_z27 := ⟨⟨rfl, rfl, fun _ _ => rfl, fun _ _ => rfl⟩, trivial⟩
noncomputable def code_z27 : Code := Tryz.f72.body.getD .skip
noncomputable def spec_z27 : Spec E.S := (Con.add con_z26 noSpec)
theorem spec_z27_ok : SpecOk E spec_z27 := (Con.add_ok con_z26_ok noSpec_ok)
theorem good_z27 : ∀ pt r, run_z27 pt = some r → Good E Tryz.f72 code_z27 0 (res_z27.av r) (res_z27.bx r) (place_z27 pt) (st_z27 pt) := by
  refine run_z27.partial_correctness (fun pt r => Good E Tryz.f72 code_z27 0 (res_z27.av r) (res_z27.bx r) (place_z27 pt) (st_z27 pt)) ?_
  intro run' ih pt r hr
  cases pt <;> exact fn_step (spec := spec_z27) (wr := (mkWr [] [])) (l := tab_z27) (z := 25) (p := res_z27) E_ok tab_z27_ok.mem rfl spec_z27_ok ih (Eq.trans (by kernel_rfl) hr)
noncomputable def con_z27 : Con E := ⟨72, ((List api_MachineCode) × (Unit × Unit)), Unit, (RwL.cons (Rw.sl 40) (RwL.cons (Rd.fn 73 RdL.nil).w RwL.nil)), RdBL.nil, 0, R_z27, fun a b => run_z27 (.start a.1), res_z27.av, res_z27.bx⟩
theorem con_z27_ok : con_z27.Ok := fun a b r h => fn_ok (fn := Tryz.f72) (code := code_z27) E_ok (by kernel_rfl) (by kernel_rfl) (by kernel_rfl) (Nat.le_of_ble_eq_true rfl) (good_z27 (.start a.1) r h)

/-! ### ratchet/machine.CheckProgram -/
inductive P_z28 where
 | start (l0 : (List api_MachineCode))
noncomputable def place_z28 : P_z28 → List Bool
 | .start .. => []
noncomputable def st_z28 : P_z28 → St E.S
 | .start l0 => st0 11 [.sl 40 l0 false] []
abbrev R_z28 : Type := ((Int × (Int × Unit)) × Unit)
noncomputable def res_z28 : Res E (Int × (Int × Unit)) Unit := { rows := [], flat := [], keep := 0, done := [0, 1], rl := (RdL.cons (Rd.int .i64) (RdL.cons (Rd.int .i64) RdL.nil)), rb := RdBL.nil }
noncomputable def run_z28 : P_z28 → Option R_z28
 | .start l0 =>
   if (decide ((List.length l0 : Int) > (16 : Int))) = true then
     some (((0 : Int), ((8 : Int), ())), ())
   else
     (run_z27 (.start l0)) >>= fun t1 =>
     some ((t1.1.1, (t1.1.2.1, ())), ())
noncomputable def tab_z28 : List (Plc E P_z28) := []
theorem tab_z28_ok : All (PlcOk 11 0 place_z28 st_z28) tab_z28 := trivial
noncomputable def code_z28 : Code := Tryz.f20.body.getD .skip
noncomputable def spec_z28 : Spec E.S := (Con.add con_z27 noSpec)
theorem spec_z28_ok : SpecOk E spec_z28 := (Con.add_ok con_z27_ok noSpec_ok)
theorem good_z28 : ∀ pt r, run_z28 pt = some r → Good E Tryz.f20 code_z28 0 (res_z28.av r) (res_z28.bx r) (place_z28 pt) (st_z28 pt) := by
  intro pt r hr
  cases pt <;> exact fn_step (spec := spec_z28) (wr := (mkWr [] [])) (l := tab_z28) (z := 11) (p := res_z28) (run' := fun _ => none) E_ok tab_z28_ok.mem rfl spec_z28_ok (fun _ _ h => by cases h) (Eq.trans (by kernel_rfl) hr)
noncomputable def con_z28 : Con E := ⟨20, ((List api_MachineCode) × Unit), Unit, (RwL.cons (Rw.sl 40) RwL.nil), RdBL.nil, 0, R_z28, fun a b => run_z28 (.start a.1), res_z28.av, res_z28.bx⟩
theorem con_z28_ok : con_z28.Ok := fun a b r h => fn_ok (fn := Tryz.f20) (code := code_z28) E_ok (by kernel_rfl) (by kernel_rfl) (by kernel_rfl) (Nat.le_of_ble_eq_true rfl) (good_z28 (.start a.1) r h)

/-! ### ratchet/machine.programErr -/
inductive P_z29 where
 | start (l0 : (List api_MachineCode))
noncomputable def place_z29 : P_z29 → List Bool
 | .start .. => []
noncomputable def st_z29 : P_z29 → St E.S
 | .start l0 => st0 11 [.sl 40 l0 false] []
abbrev R_z29 : Type := ((Int × Unit) × Unit)
noncomputable def res_z29 : Res E (Int × Unit) Unit := { rows := [], flat := [], keep := 0, done := [0], rl := (RdL.cons (Rd.int .i64) RdL.nil), rb := RdBL.nil }
noncomputable def run_z29 : P_z29 → Option R_z29
 | .start l0 =>
   (run_z28 (.start l0)) >>= fun t1 =>
   some ((t1.1.2.1, ()), ())
noncomputable def tab_z29 : List (Plc E P_z29) := []
theorem tab_z29_ok : All (PlcOk 11 0 place_z29 st_z29) tab_z29 := trivial
noncomputable def code_z29 : Code := Tryz.f66.body.getD .skip
noncomputable def spec_z29 : Spec E.S := (Con.add con_z28 noSpec)
theorem spec_z29_ok : SpecOk E spec_z29 := (Con.add_ok con_z28_ok noSpec_ok)
theorem good_z29 : ∀ pt r, run_z29 pt = some r → Good E Tryz.f66 code_z29 0 (res_z29.av r) (res_z29.bx r) (place_z29 pt) (st_z29 pt) := by
  intro pt r hr
  cases pt <;> exact fn_step (spec := spec_z29) (wr := (mkWr [] [])) (l := tab_z29) (z := 11) (p := res_z29) (run' := fun _ => none) E_ok tab_z29_ok.mem rfl spec_z29_ok (fun _ _ h => by cases h) (Eq.trans (by kernel_rfl) hr)
noncomputable def con_z29 : Con E := ⟨66, ((List api_MachineCode) × Unit), Unit, (RwL.cons (Rw.sl 40) RwL.nil), RdBL.nil, 0, R_z29, fun a b => run_z29 (.start a.1), res_z29.av, res_z29.bx⟩
theorem con_z29_ok : con_z29.Ok := fun a b r h => fn_ok (fn := Tryz.f66) (code := code_z29) E_ok (by kernel_rfl) (by kernel_rfl) (by kernel_rfl) (Nat.le_of_ble_eq_true rfl) (good_z29 (.start a.1) r h)

/-! ### ratchet/machine.bytesErr$1 -/
inductive P_z30 where
 | start (n0 : Int)
noncomputable def place_z30 : P_z30 → List Bool
 | .start .. => []
noncomputable def st_z30 : P_z30 → St E.S
 | .start n0 => st0 6 [.v (.int .i64 n0)] []
abbrev R_z30 : Type := ((Bool × Unit) × Unit)
noncomputable def res_z30 : Res E (Bool × Unit) Unit := { rows := [], flat := [], keep := 0, done := [0], rl := (RdL.cons Rd.bool RdL.nil), rb := RdBL.nil }
noncomputable def run_z30 : P_z30 → Option R_z30
 | .start n0 =>
   (run_z23 (.start n0)) >>= fun t1 =>
   some ((!t1.1.1, ()), ())
noncomputable def tab_z30 : List (Plc E P_z30) := []
theorem tab_z30_ok : All (PlcOk 6 0 place_z30 st_z30) tab_z30 := trivial
noncomputable def code_z30 : Code := Tryz.f170.body.getD .skip
noncomputable def spec_z30 : Spec E.S := (Con.add con_z23 noSpec)
theorem spec_z30_ok : SpecOk E spec_z30 := (Con.add_ok con_z23_ok noSpec_ok)
theorem good_z30 : ∀ pt r, run_z30 pt = some r → Good E Tryz.f170 code_z30 0 (res_z30.av r) (res_z30.bx r) (place_z30 pt) (st_z30 pt) := by
  intro pt r hr
  cases pt <;> exact fn_step (spec := spec_z30) (wr := (mkWr [] [])) (l := tab_z30) (z := 6) (p := res_z30) (run' := fun _ => none) E_ok tab_z30_ok.mem rfl spec_z30_ok (fun _ _ h => by cases h) (Eq.trans (by kernel_rfl) hr)
noncomputable def con_z30 : Con E := ⟨170, (Int × Unit), Unit, (RwL.cons (Rd.int .i64).w RwL.nil), RdBL.nil, 0, R_z30, fun a b => run_z30 (.start a.1), res_z30.av, res_z30.bx⟩
theorem con_z30_ok : con_z30.Ok := fun a b r h => fn_ok (fn := Tryz.f170) (code := code_z30) E_ok (by kernel_rfl) (by kernel_rfl) (by kernel_rfl) (Nat.le_of_ble_eq_true rfl) (good_z30 (.start a.1) r h)

/-! ### slices.IndexFunc[[]int,int] -/
inductive P_z31 where
 | start (s0 : (List Int))
 | p52 (s0 : (List Int)) (s7 : Int) (s8 : Int)
noncomputable def place_z31 : P_z31 → List Bool
 | .start .. => []
 | .p52 .. => [false, false, true, false, true]
noncomputable def st_z31 : P_z31 → St E.S
 | .start s0 => st0 19 [.sl 3 s0 false, .fn 170 []] []
 | .p52 s0 s7 s8 => mkSt 19 [0, 1, 7, 8] [.sl 3 s0 false, .fn 170 [], .v (.int .i64 s7), .v (.int .i64 s8)] []
abbrev R_z31 : Type := ((Int × Unit) × Unit)
noncomputable def res_z31 : Res E (Int × Unit) Unit := { rows := [], flat := [], keep := 0, done := [0], rl := (RdL.cons (Rd.int .i64) RdL.nil), rb := RdBL.nil }
noncomputable def run_z31 : P_z31 → Option R_z31
 | .start s0 =>
   run_z31 (.p52 s0 (List.length s0 : Int) (0 : Int))
 | .p52 s0 s7 s8 =>
   if (decide (s8 < s7)) = true then
     (idx s0 s8) >>= fun t1 =>
     (run_z30 (.start t1)) >>= fun t2 =>
     if t2.1.1 = true then
       some ((s8, ()), ())
     else
       run_z31 (.p52 s0 s7 (IntKind.wrap .i64 (s8 + (1 : Int))))
   else
     some (((-1 : Int), ()), ())
  partial_fixpoint
noncomputable def tab_z31 : List (Plc E P_z31) := [⟨52, [false, false, true, false, true], { slots := [0, 1, 7, 8], rows := [], flat := [], keep := 0 }, ((List Int) × (Unit × (Int × (Int × Unit)))), Unit, (RdL.cons (Rd.sl 3 false) (RdL.cons (Rd.fn 170 RdL.nil) (RdL.cons (Rd.int .i64) (RdL.cons (Rd.int .i64) RdL.nil)))), RdBL.nil, fun a b => .p52 a.1 a.2.2.1 a.2.2.2.1⟩]
theorem tab_z31_ok : All (PlcOk 19 0 place_z31 st_z31) tab_z31 := ⟨⟨rfl, rfl, fun _ _ => rfl, fun _ _ => rfl⟩, trivial⟩
noncomputable def code_z31 : Code := Tryz.f187.body.getD .skip
noncomputable def spec_z31 : Spec E.S := (Con.add con_z30 noSpec)
theorem spec_z31_ok : SpecOk E spec_z31 := (Con.add_ok con_z30_ok noSpec_ok)
theorem good_z31 : ∀ pt r, run_z31 pt = some r → Good E Tryz.f187 code_z31 0 (res_z31.av r) (res_z31.bx r) (place_z31 pt) (st_z31 pt) := by
  refine run_z31.partial_correctness (fun pt r => Good E Tryz.f187 code_z31 0 (res_z31.av r) (res_z31.bx r) (place_z31 pt) (st_z31 pt)) ?_
  intro run' ih pt r hr
  cases pt <;> exact fn_step (spec := spec_z31) (wr := (mkWr [] [])) (l := tab_z31) (z := 19) (p := res_z31) E_ok tab_z31_ok.mem rfl spec_z31_ok ih (Eq.trans (by kernel_rfl) hr)
noncomputable def con_z31 : Con E := ⟨187, ((List Int) × (Unit × Unit)), Unit, (RwL.cons (Rw.sl 3) (RwL.cons (Rd.fn 170 RdL.nil).w RwL.nil)), RdBL.nil, 0, R_z31, fun a b => run_z31 (.start a.1), res_z31.av, res_z31.bx⟩
theorem con_z31_ok : con_z31.Ok := fun a b r h => fn_ok (fn := Tryz.f187) (code := code_z31) E_ok (by kernel_rfl) (by kernel_rfl) (by kernel_rfl) (Nat.le_of_ble_eq_true rfl) (good_z31 (.start a.1) r h)

/-! ### slices.ContainsFunc[[]int,int] -/
inductive P_z32 where
 | start (s0 : (List Int))
noncomputable def place_z32 : P_z32 → List Bool
 | .start .. => []
noncomputable def st_z32 : P_z32 → St E.S
 | .start s0 => st0 9 [.sl 3 s0 false, .fn 170 []] []
abbrev R_z32 : Type := ((Bool × Unit) × Unit)
noncomputable def res_z32 : Res E (Bool × Unit) Unit := { rows := [], flat := [], keep := 0, done := [0], rl := (RdL.cons Rd.bool RdL.nil), rb := RdBL.nil }
noncomputable def run_z32 : P_z32 → Option R_z32
 | .start s0 =>
   (run_z31 (.start s0)) >>= fun t1 =>
   some ((decide (t1.1.1 ≥ (0 : Int)), ()), ())
noncomputable def tab_z32 : List (Plc E P_z32) := []
theorem tab_z32_ok : All (PlcOk 9 0 place_z32 st_z32) tab_z32 := trivial
noncomputable def code_z32 : Code := Tryz.f169.body.getD .skip
noncomputable def spec_z32 : Spec E.S := (Con.add con_z31 noSpec)
theorem spec_z32_ok : SpecOk E spec_z32 := (Con.add_ok con_z31_ok noSpec_ok)
theorem good_z32 : ∀ pt r, run_z32 pt = some r → Good E Tryz.f169 code_z32 0 (res_z32.av r) (res_z32.bx r) (place_z32 pt) (st_z32 pt) := by
  intro pt r hr
  cases pt <;> exact fn_step (spec := spec_z32) (wr := (mkWr [] [])) (l := tab_z32) (z := 9) (p := res_z32) (run' := fun _ => none) E_ok tab_z32_ok.mem rfl spec_z32_ok (fun _ _ h => by cases h) (Eq.trans (by kernel_rfl) hr)
noncomputable def con_z32 : Con E := ⟨169, ((List Int) × (Unit × Unit)), Unit, (RwL.cons (Rw.sl 3) (RwL.cons (Rd.fn 170 RdL.nil).w RwL.nil)), RdBL.nil, 0, R_z32, fun a b => run_z32 (.start a.1), res_z32.av, res_z32.bx⟩
theorem con_z32_ok : con_z32.Ok := fun a b r h => fn_ok (fn := Tryz.f169) (code := code_z32) E_ok (by kernel_rfl) (by kernel_rfl) (by kernel_rfl) (Nat.le_of_ble_eq_true rfl) (good_z32 (.start a.1) r h)

/-! ### ratchet/machine.bytesErr -/
inductive P_z33 where
 | start (l0 : (List Int)) (count1 : Int)
noncomputable def place_z33 : P_z33 → List Bool
 | .start .. => []
noncomputable def st_z33 : P_z33 → St E.S
 | .start l0 count1 => st0 18 [.sl 3 l0 false, .v (.int .i64 count1)] []
abbrev R_z33 : Type := ((Int × Unit) × Unit)
noncomputable def res_z33 : Res E (Int × Unit) Unit := { rows := [], flat := [], keep := 0, done := [0], rl := (RdL.cons (Rd.int .i64) RdL.nil), rb := RdBL.nil }
noncomputable def run_z33 : P_z33 → Option R_z33
 | .start l0 count1 =>
   (run_z32 (.start l0)) >>= fun t1 =>
   (run_z3 (.start ((List.length l0 : Int) == count1) (10 : Int))) >>= fun t2 =>
   (run_z3 (.start (!t1.1.1) (2 : Int))) >>= fun t3 =>
   (run_z25 (.start ([t2.1.1, t3.1.1] : List Int))) >>= fun t4 =>
   some ((t4.1.1, ()), ())
noncomputable def tab_z33 : List (Plc E P_z33) := []
theorem tab_z33_ok : All (PlcOk 18 0 place_z33 st_z33) tab_z33 := trivial
noncomputable def code_z33 : Code := Tryz.f120.body.getD .skip
noncomputable def spec_z33 : Spec E.S := (Con.add con_z25 (Con.add con_z3 (Con.add con_z32 noSpec)))
theorem spec_z33_ok : SpecOk E spec_z33 := (Con.add_ok con_z25_ok (Con.add_ok con_z3_ok (Con.add_ok con_z32_ok noSpec_ok)))
theorem good_z33 : ∀ pt r, run_z33 pt = some r → Good E Tryz.f120 code_z33 0 (res_z33.av r) (res_z33.bx r) (place_z33 pt) (st_z33 pt) := by
  intro pt r hr
  cases pt <;> exact fn_step (spec := spec_z33) (wr := (mkWr [] [])) (l := tab_z33) (z := 18) (p := res_z33) (run' := fun _ => none) E_ok tab_z33_ok.mem rfl spec_z33_ok (fun _ _ h => by cases h) (Eq.trans (by kernel_rfl) hr)
noncomputable def con_z33 : Con E := ⟨120, ((List Int) × (Int × Unit)), Unit, (RwL.cons (Rw.sl 3) (RwL.cons (Rd.int .i64).w RwL.nil)), RdBL.nil, 0, R_z33, fun a b => run_z33 (.start a.1 a.2.1), res_z33.av, res_z33.bx⟩
theorem con_z33_ok : con_z33.Ok := fun a b r h => fn_ok (fn := Tryz.f120) (code := code_z33) E_ok (by kernel_rfl) (by kernel_rfl) (by kernel_rfl) (Nat.le_of_ble_eq_true rfl) (good_z33 (.start a.1 a.2.1) r h)

/-! ### ratchet/machine.memoryErr -/
inductive P_z34 where
 | start (l0 : (List Int))
noncomputable def place_z34 : P_z34 → List Bool
 | .start .. => []
noncomputable def st_z34 : P_z34 → St E.S
 | .start l0 => st0 5 [.sl 3 l0 false] []
abbrev R_z34 : Type := ((Int × Unit) × Unit)
noncomputable def res_z34 : Res E (Int × Unit) Unit := { rows := [], flat := [], keep := 0, done := [0], rl := (RdL.cons (Rd.int .i64) RdL.nil), rb := RdBL.nil }
noncomputable def run_z34 : P_z34 → Option R_z34
 | .start l0 =>
   (run_z33 (.start l0 (8 : Int))) >>= fun t1 =>
   some ((t1.1.1, ()), ())
noncomputable def tab_z34 : List (Plc E P_z34) := []
theorem tab_z34_ok : All (PlcOk 5 0 place_z34 st_z34) tab_z34 := trivial
noncomputable def code_z34 : Code := Tryz.f67.body.getD .skip
noncomputable def spec_z34 : Spec E.S := (Con.add con_z33 noSpec)
theorem spec_z34_ok : SpecOk E spec_z34 := (Con.add_ok con_z33_ok noSpec_ok)
theorem good_z34 : ∀ pt r, run_z34 pt = some r → Good E Tryz.f67 code_z34 0 (res_z34.av r) (res_z34.bx r) (place_z34 pt) (st_z34 pt) := by
  intro pt r hr
  cases pt <;> exact fn_step (spec := spec_z34) (wr := (mkWr [] [])) (l := tab_z34) (z := 5) (p := res_z34) (run' := fun _ => none) E_ok tab_z34_ok.mem rfl spec_z34_ok (fun _ _ h => by cases h) (Eq.trans (by kernel_rfl) hr)
noncomputable def con_z34 : Con E := ⟨67, ((List Int) × Unit), Unit, (RwL.cons (Rw.sl 3) RwL.nil), RdBL.nil, 0, R_z34, fun a b => run_z34 (.start a.1), res_z34.av, res_z34.bx⟩
theorem con_z34_ok : con_z34.Ok := fun a b r h => fn_ok (fn := Tryz.f67) (code := code_z34) E_ok (by kernel_rfl) (by kernel_rfl) (by kernel_rfl) (Nat.le_of_ble_eq_true rfl) (good_z34 (.start a.1) r h)

/-! ### (ratchet/machine.builder).node -/
inductive P_z35 where
 | start (op1 : Int) (width2 : Int) (value3 : Int) (args4 : (List machine_signal)) (B0 : ByteArray) (B1 : (List api_Element))
 | p116 (op1 : Int) (width2 : Int) (value3 : Int) (s14 : (List machine_signal)) (s15 : Int) (s16 : Int) (B0 : ByteArray) (B2_0 : Int) (B2_1 : Int) (B3 : (List Int)) (B4 : (List api_Element))
noncomputable def place_z35 : P_z35 → List Bool
 | .start .. => []
 | .p116 .. => [false, false, true, false, true, true]
noncomputable def st_z35 : P_z35 → St E.S
 | .start op1 width2 value3 args4 B0 B1 => st0 51 [.agg [.bp 0 0], .v (.int .i64 op1), .v (.int .i64 width2), .v (.int .i64 value3), .sl 133 args4 false] [.var 75 [.v (.string B0), .nl, .rw 1, .nl, .nl, .nl, .nl], .row 82 B1 true]
 | .p116 op1 width2 value3 s14 s15 s16 B0 B2_0 B2_1 B3 B4 => mkSt 51 [1, 2, 3, 5, 10, 11, 14, 15, 16] [.v (.int .i64 op1), .v (.int .i64 width2), .v (.int .i64 value3), .bp 1 0, .bp 2 0, .rw 3, .sl 133 s14 false, .v (.int .i64 s15), .v (.int .i64 s16)] [.var 75 [.v (.string B0), .nl, .rw 4, .nl, .nl, .nl, .nl], .var 131 [.bp 0 0], .var 133 [.v (.int .i64 B2_0), .v (.int .i64 B2_1)], .row 3 B3 false, .row 82 B4 true]
abbrev R_z35 : Type := (((Int × (Int × Unit)) × Unit) × ((ByteArray × (Unit × (Unit × (Unit × (Unit × (Unit × (Unit × Unit))))))) × ((List api_Element) × ((List api_Node) × Unit))))
noncomputable def res_z35 : Res E ((Int × (Int × Unit)) × Unit) ((ByteArray × (Unit × (Unit × (Unit × (Unit × (Unit × (Unit × Unit))))))) × ((List api_Element) × ((List api_Node) × Unit))) := { rows := [], flat := [], keep := 1, done := [0], rl := (RdL.cons (Rd.agg (RdL.cons (Rd.int .i64) (RdL.cons (Rd.int .i64) RdL.nil))) RdL.nil), rb := (RdBL.cons (RdB.var 75 (RdL.cons Rd.str (RdL.cons Rd.nl (RdL.cons (Rd.rw 1) (RdL.cons (Rd.rw 2) (RdL.cons Rd.nl (RdL.cons Rd.nl (RdL.cons Rd.nl RdL.nil)))))))) (RdBL.cons (RdB.row 82 true) (RdBL.cons (RdB.row 208 true) RdBL.nil))) }
noncomputable def run_z35 : P_z35 → Option R_z35
 | .start op1 width2 value3 args4 B0 B1 =>
   run_z35 (.p116 op1 width2 value3 args4 (List.length args4 : Int) (0 : Int) B0 (0 : Int) (0 : Int) ([] : List Int) B1)
 | .p116 op1 width2 value3 s14 s15 s16 B0 B2_0 B2_1 B3 B4 =>
   if (decide (s16 < s15)) = true then
     (idx s14 s16) >>= fun t1 =>
     if (fits (List.length B3) (List.length ([t1.node] : List Int)) 8) = true then
       run_z35 (.p116 op1 width2 value3 s14 s15 (IntKind.wrap .i64 (s16 + (1 : Int))) B0 B2_0 B2_1 (B3 ++ ([t1.node] : List Int)) B4)
     else none
   else
     if (fits (List.length ([] : List api_Node)) (List.length ([(⟨op1, width2, B3, value3⟩ : api_Node)] : List api_Node)) 48) = true then
       some (((IntKind.wrap .i64 ((List.length (([] : List api_Node) ++ ([(⟨op1, width2, B3, value3⟩ : api_Node)] : List api_Node)) : Int) - (1 : Int)), (width2, ())), ()), ((B0, ((), ((), ((), ((), ((), ((), ()))))))), (B4, (([] : List api_Node) ++ ([(⟨op1, width2, B3, value3⟩ : api_Node)] : List api_Node), ()))))
     else none
  partial_fixpoint
noncomputable def tab_z35 : List (Plc E P_z35) := [⟨116, [false, false, true, false, true, true], { slots := [1, 2, 3, 5, 10, 11, 14, 15, 16], rows := [(11, 3)], flat := [], keep := 1 }, (Int × (Int × (Int × (Unit × (Unit × (Unit × ((List machine_signal) × (Int × (Int × Unit))))))))), ((ByteArray × (Unit × (Unit × (Unit × (Unit × (Unit × (Unit × Unit))))))) × ((Unit × Unit) × ((Int × (Int × Unit)) × ((List Int) × ((List api_Element) × Unit))))), (RdL.cons (Rd.int .i64) (RdL.cons (Rd.int .i64) (RdL.cons (Rd.int .i64) (RdL.cons (Rd.bp 1 0) (RdL.cons (Rd.bp 2 0) (RdL.cons (Rd.rw 3) (RdL.cons (Rd.sl 133 false) (RdL.cons (Rd.int .i64) (RdL.cons (Rd.int .i64) RdL.nil))))))))), (RdBL.cons (RdB.var 75 (RdL.cons Rd.str (RdL.cons Rd.nl (RdL.cons (Rd.rw 4) (RdL.cons Rd.nl (RdL.cons Rd.nl (RdL.cons Rd.nl (RdL.cons Rd.nl RdL.nil)))))))) (RdBL.cons (RdB.var 131 (RdL.cons (Rd.bp 0 0) RdL.nil)) (RdBL.cons (RdB.var 133 (RdL.cons (Rd.int .i64) (RdL.cons (Rd.int .i64) RdL.nil))) (RdBL.cons (RdB.row 3 false) (RdBL.cons (RdB.row 82 true) RdBL.nil))))), fun a b => .p116 a.1 a.2.1 a.2.2.1 a.2.2.2.2.2.2.1 a.2.2.2.2.2.2.2.1 a.2.2.2.2.2.2.2.2.1 b.1.1 b.2.2.1.1 b.2.2.1.2.1 b.2.2.2.1 b.2.2.2.2.1⟩]
theorem tab_z35_ok : All (PlcOk 51 1 place_z35 st_z35) tab_z35 := ⟨⟨rfl, rfl, fun _ _ => rfl, fun _ _ => rfl⟩, trivial⟩
noncomputable def code_z35 : Code := Tryz.f127.body.getD .skip
noncomputable def spec_z35 : Spec E.S := noSpec
theorem spec_z35_ok : SpecOk E spec_z35 := noSpec_ok
theorem good_z35 : ∀ pt r, run_z35 pt = some r → Good E Tryz.f127 code_z35 1 (res_z35.av r) (res_z35.bx r) (place_z35 pt) (st_z35 pt) := by
  refine run_z35.partial_correctness (fun pt r => Good E Tryz.f127 code_z35 1 (res_z35.av r) (res_z35.bx r) (place_z35 pt) (st_z35 pt)) ?_
  intro run' ih pt r hr
  cases pt <;> exact fn_step (spec := spec_z35) (wr := (mkWr [] [(30, [11])])) (l := tab_z35) (z := 51) (p := res_z35) E_ok tab_z35_ok.mem rfl spec_z35_ok ih (Eq.trans (by kernel_rfl) hr)
noncomputable def con_z35 : Con E := ⟨127, ((Unit × Unit) × (Int × (Int × (Int × ((List machine_signal) × Unit))))), ((ByteArray × (Unit × (Unit × (Unit × (Unit × (Unit × (Unit × Unit))))))) × ((List api_Element) × Unit)), (RwL.cons (Rw.agg (RwL.cons (Rd.bp 0 0).w RwL.nil)) (RwL.cons (Rd.int .i64).w (RwL.cons (Rd.int .i64).w (RwL.cons (Rd.int .i64).w (RwL.cons (Rw.sl 133) RwL.nil))))), (RdBL.cons (RdB.var 75 (RdL.cons Rd.str (RdL.cons Rd.nl (RdL.cons (Rd.rw 1) (RdL.cons Rd.nl (RdL.cons Rd.nl (RdL.cons Rd.nl (RdL.cons Rd.nl RdL.nil)))))))) (RdBL.cons (RdB.row 82 true) RdBL.nil)), 1, R_z35, fun a b => run_z35 (.start a.2.1 a.2.2.1 a.2.2.2.1 a.2.2.2.2.1 b.1.1 b.2.1), res_z35.av, res_z35.bx⟩
theorem con_z35_ok : con_z35.Ok := fun a b r h => fn_ok (fn := Tryz.f127) (code := code_z35) E_ok (by kernel_rfl) (by kernel_rfl) (by kernel_rfl) (Nat.le_of_ble_eq_true rfl) (good_z35 (.start a.2.1 a.2.2.1 a.2.2.2.1 a.2.2.2.2.1 b.1.1 b.2.1) r h)

/-! ### (ratchet/machine.builder).register -/
inductive P_z36 where
 | start (name1 : ByteArray) (width2 : Int) (init3 : Int) (B0 : ByteArray)
noncomputable def place_z36 : P_z36 → List Bool
 | .start .. => []
noncomputable def st_z36 : P_z36 → St E.S
 | .start name1 width2 init3 B0 => st0 35 [.agg [.bp 0 0], .v (.string name1), .v (.int .i64 width2), .v (.int .i64 init3)] [.var 75 [.v (.string B0), .nl, .nl, .nl, .nl, .nl, .nl]]
abbrev R_z36 : Type := (((Int × (Int × Unit)) × Unit) × ((ByteArray × (Unit × (Unit × (Unit × (Unit × (Unit × (Unit × Unit))))))) × ((List api_Element) × ((List api_Node) × Unit))))
noncomputable def res_z36 : Res E ((Int × (Int × Unit)) × Unit) ((ByteArray × (Unit × (Unit × (Unit × (Unit × (Unit × (Unit × Unit))))))) × ((List api_Element) × ((List api_Node) × Unit))) := { rows := [], flat := [], keep := 1, done := [0], rl := (RdL.cons (Rd.agg (RdL.cons (Rd.int .i64) (RdL.cons (Rd.int .i64) RdL.nil))) RdL.nil), rb := (RdBL.cons (RdB.var 75 (RdL.cons Rd.str (RdL.cons Rd.nl (RdL.cons (Rd.rw 1) (RdL.cons (Rd.rw 2) (RdL.cons Rd.nl (RdL.cons Rd.nl (RdL.cons Rd.nl RdL.nil)))))))) (RdBL.cons (RdB.row 82 true) (RdBL.cons (RdB.row 208 true) RdBL.nil))) }
noncomputable def run_z36 : P_z36 → Option R_z36
 | .start name1 width2 init3 B0 =>
   if (fits (List.length ([] : List api_Element)) (List.length ([(⟨name1, (0 : Int), width2, init3, (0 : Int)⟩ : api_Element)] : List api_Element)) 48) = true then
     (run_z35 (.start (1 : Int) width2 (0 : Int) ([]) B0 (([] : List api_Element) ++ ([(⟨name1, (0 : Int), width2, init3, (0 : Int)⟩ : api_Element)] : List api_Element)))) >>= fun t1 =>
     some (((t1.1.1.1, (t1.1.1.2.1, ())), ()), ((t1.2.1.1, ((), ((), ((), ((), ((), ((), ()))))))), (t1.2.2.1, (t1.2.2.2.1, ()))))
   else none
noncomputable def tab_z36 : List (Plc E P_z36) := []
theorem tab_z36_ok : All (PlcOk 35 1 place_z36 st_z36) tab_z36 := trivial
noncomputable def code_z36 : Code := Tryz.f83.body.getD .skip
noncomputable def spec_z36 : Spec E.S := (Con.add con_z35 noSpec)
theorem spec_z36_ok : SpecOk E spec_z36 := (Con.add_ok con_z35_ok noSpec_ok)
theorem good_z36 : ∀ pt r, run_z36 pt = some r → Good E Tryz.f83 code_z36 1 (res_z36.av r) (res_z36.bx r) (place_z36 pt) (st_z36 pt) := by
  intro pt r hr
  cases pt <;> exact fn_step (spec := spec_z36) (wr := (mkWr [] [])) (l := tab_z36) (z := 35) (p := res_z36) (run' := fun _ => none) E_ok tab_z36_ok.mem rfl spec_z36_ok (fun _ _ h => by cases h) (Eq.trans (by kernel_rfl) hr)
noncomputable def con_z36 : Con E := ⟨83, ((Unit × Unit) × (ByteArray × (Int × (Int × Unit)))), ((ByteArray × (Unit × (Unit × (Unit × (Unit × (Unit × (Unit × Unit))))))) × Unit), (RwL.cons (Rw.agg (RwL.cons (Rd.bp 0 0).w RwL.nil)) (RwL.cons Rd.str.w (RwL.cons (Rd.int .i64).w (RwL.cons (Rd.int .i64).w RwL.nil)))), (RdBL.cons (RdB.var 75 (RdL.cons Rd.str (RdL.cons Rd.nl (RdL.cons Rd.nl (RdL.cons Rd.nl (RdL.cons Rd.nl (RdL.cons Rd.nl (RdL.cons Rd.nl RdL.nil)))))))) RdBL.nil), 1, R_z36, fun a b => run_z36 (.start a.2.1 a.2.2.1 a.2.2.2.1 b.1.1), res_z36.av, res_z36.bx⟩
theorem con_z36_ok : con_z36.Ok := fun a b r h => fn_ok (fn := Tryz.f83) (code := code_z36) E_ok (by kernel_rfl) (by kernel_rfl) (by kernel_rfl) (Nat.le_of_ble_eq_true rfl) (good_z36 (.start a.2.1 a.2.2.1 a.2.2.2.1 b.1.1) r h)

/-! ### (ratchet/machine.builder).node -/
inductive P_z37 where
 | start (op1 : Int) (width2 : Int) (value3 : Int) (args4 : (List machine_signal)) (B0 : ByteArray) (B1 : (List api_Element)) (B2 : (List api_Node))
 | p116 (op1 : Int) (width2 : Int) (value3 : Int) (s14 : (List machine_signal)) (s15 : Int) (s16 : Int) (B0 : ByteArray) (B2_0 : Int) (B2_1 : Int) (B3 : (List Int)) (B4 : (List api_Element)) (B5 : (List api_Node))
noncomputable def place_z37 : P_z37 → List Bool
 | .start .. => []
 | .p116 .. => [false, false, true, false, true, true]
noncomputable def st_z37 : P_z37 → St E.S
 | .start op1 width2 value3 args4 B0 B1 B2 => st0 51 [.agg [.bp 0 0], .v (.int .i64 op1), .v (.int .i64 width2), .v (.int .i64 value3), .sl 133 args4 false] [.var 75 [.v (.string B0), .nl, .rw 1, .rw 2, .nl, .nl, .nl], .row 82 B1 true, .row 208 B2 true]
 | .p116 op1 width2 value3 s14 s15 s16 B0 B2_0 B2_1 B3 B4 B5 => mkSt 51 [1, 2, 3, 5, 10, 11, 14, 15, 16] [.v (.int .i64 op1), .v (.int .i64 width2), .v (.int .i64 value3), .bp 1 0, .bp 2 0, .rw 3, .sl 133 s14 false, .v (.int .i64 s15), .v (.int .i64 s16)] [.var 75 [.v (.string B0), .nl, .rw 4, .rw 5, .nl, .nl, .nl], .var 131 [.bp 0 0], .var 133 [.v (.int .i64 B2_0), .v (.int .i64 B2_1)], .row 3 B3 false, .row 82 B4 true, .row 208 B5 true]
abbrev R_z37 : Type := (((Int × (Int × Unit)) × Unit) × ((ByteArray × (Unit × (Unit × (Unit × (Unit × (Unit × (Unit × Unit))))))) × ((List api_Element) × ((List api_Node) × Unit))))
noncomputable def res_z37 : Res E ((Int × (Int × Unit)) × Unit) ((ByteArray × (Unit × (Unit × (Unit × (Unit × (Unit × (Unit × Unit))))))) × ((List api_Element) × ((List api_Node) × Unit))) := { rows := [], flat := [], keep := 1, done := [0], rl := (RdL.cons (Rd.agg (RdL.cons (Rd.int .i64) (RdL.cons (Rd.int .i64) RdL.nil))) RdL.nil), rb := (RdBL.cons (RdB.var 75 (RdL.cons Rd.str (RdL.cons Rd.nl (RdL.cons (Rd.rw 1) (RdL.cons (Rd.rw 2) (RdL.cons Rd.nl (RdL.cons Rd.nl (RdL.cons Rd.nl RdL.nil)))))))) (RdBL.cons (RdB.row 82 true) (RdBL.cons (RdB.row 208 true) RdBL.nil))) }
noncomputable def run_z37 : P_z37 → Option R_z37
 | .start op1 width2 value3 args4 B0 B1 B2 =>
   run_z37 (.p116 op1 width2 value3 args4 (List.length args4 : Int) (0 : Int) B0 (0 : Int) (0 : Int) ([] : List Int) B1 B2)
 | .p116 op1 width2 value3 s14 s15 s16 B0 B2_0 B2_1 B3 B4 B5 =>
   if (decide (s16 < s15)) = true then
     (idx s14 s16) >>= fun t1 =>
     if (fits (List.length B3) (List.length ([t1.node] : List Int)) 8) = true then
       run_z37 (.p116 op1 width2 value3 s14 s15 (IntKind.wrap .i64 (s16 + (1 : Int))) B0 B2_0 B2_1 (B3 ++ ([t1.node] : List Int)) B4 B5)
     else none
   else
     if (fits (List.length B5) (List.length ([(⟨op1, width2, B3, value3⟩ : api_Node)] : List api_Node)) 48) = true then
       some (((IntKind.wrap .i64 ((List.length (B5 ++ ([(⟨op1, width2, B3, value3⟩ : api_Node)] : List api_Node)) : Int) - (1 : Int)), (width2, ())), ()), ((B0, ((), ((), ((), ((), ((), ((), ()))))))), (B4, (B5 ++ ([(⟨op1, width2, B3, value3⟩ : api_Node)] : List api_Node), ()))))
     else none
  partial_fixpoint
noncomputable def tab_z37 : List (Plc E P_z37) := [⟨116, [false, false, true, false, true, true], { slots := [1, 2, 3, 5, 10, 11, 14, 15, 16], rows := [(11, 3)], flat := [], keep := 1 }, (Int × (Int × (Int × (Unit × (Unit × (Unit × ((List machine_signal) × (Int × (Int × Unit))))))))), ((ByteArray × (Unit × (Unit × (Unit × (Unit × (Unit × (Unit × Unit))))))) × ((Unit × Unit) × ((Int × (Int × Unit)) × ((List Int) × ((List api_Element) × ((List api_Node) × Unit)))))), (RdL.cons (Rd.int .i64) (RdL.cons (Rd.int .i64) (RdL.cons (Rd.int .i64) (RdL.cons (Rd.bp 1 0) (RdL.cons (Rd.bp 2 0) (RdL.cons (Rd.rw 3) (RdL.cons (Rd.sl 133 false) (RdL.cons (Rd.int .i64) (RdL.cons (Rd.int .i64) RdL.nil))))))))), (RdBL.cons (RdB.var 75 (RdL.cons Rd.str (RdL.cons Rd.nl (RdL.cons (Rd.rw 4) (RdL.cons (Rd.rw 5) (RdL.cons Rd.nl (RdL.cons Rd.nl (RdL.cons Rd.nl RdL.nil)))))))) (RdBL.cons (RdB.var 131 (RdL.cons (Rd.bp 0 0) RdL.nil)) (RdBL.cons (RdB.var 133 (RdL.cons (Rd.int .i64) (RdL.cons (Rd.int .i64) RdL.nil))) (RdBL.cons (RdB.row 3 false) (RdBL.cons (RdB.row 82 true) (RdBL.cons (RdB.row 208 true) RdBL.nil)))))), fun a b => .p116 a.1 a.2.1 a.2.2.1 a.2.2.2.2.2.2.1 a.2.2.2.2.2.2.2.1 a.2.2.2.2.2.2.2.2.1 b.1.1 b.2.2.1.1 b.2.2.1.2.1 b.2.2.2.1 b.2.2.2.2.1 b.2.2.2.2.2.1⟩]
theorem tab_z37_ok : All (PlcOk 51 1 place_z37 st_z37) tab_z37 := ⟨⟨rfl, rfl, fun _ _ => rfl, fun _ _ => rfl⟩, trivial⟩
noncomputable def code_z37 : Code := Tryz.f127.body.getD .skip
noncomputable def spec_z37 : Spec E.S := noSpec
theorem spec_z37_ok : SpecOk E spec_z37 := noSpec_ok
theorem good_z37 : ∀ pt r, run_z37 pt = some r → Good E Tryz.f127 code_z37 1 (res_z37.av r) (res_z37.bx r) (place_z37 pt) (st_z37 pt) := by
  refine run_z37.partial_correctness (fun pt r => Good E Tryz.f127 code_z37 1 (res_z37.av r) (res_z37.bx r) (place_z37 pt) (st_z37 pt)) ?_
  intro run' ih pt r hr
  cases pt <;> exact fn_step (spec := spec_z37) (wr := (mkWr [] [(30, [11])])) (l := tab_z37) (z := 51) (p := res_z37) E_ok tab_z37_ok.mem rfl spec_z37_ok ih (Eq.trans (by kernel_rfl) hr)
noncomputable def con_z37 : Con E := ⟨127, ((Unit × Unit) × (Int × (Int × (Int × ((List machine_signal) × Unit))))), ((ByteArray × (Unit × (Unit × (Unit × (Unit × (Unit × (Unit × Unit))))))) × ((List api_Element) × ((List api_Node) × Unit))), (RwL.cons (Rw.agg (RwL.cons (Rd.bp 0 0).w RwL.nil)) (RwL.cons (Rd.int .i64).w (RwL.cons (Rd.int .i64).w (RwL.cons (Rd.int .i64).w (RwL.cons (Rw.sl 133) RwL.nil))))), (RdBL.cons (RdB.var 75 (RdL.cons Rd.str (RdL.cons Rd.nl (RdL.cons (Rd.rw 1) (RdL.cons (Rd.rw 2) (RdL.cons Rd.nl (RdL.cons Rd.nl (RdL.cons Rd.nl RdL.nil)))))))) (RdBL.cons (RdB.row 82 true) (RdBL.cons (RdB.row 208 true) RdBL.nil))), 1, R_z37, fun a b => run_z37 (.start a.2.1 a.2.2.1 a.2.2.2.1 a.2.2.2.2.1 b.1.1 b.2.1 b.2.2.1), res_z37.av, res_z37.bx⟩
theorem con_z37_ok : con_z37.Ok := fun a b r h => fn_ok (fn := Tryz.f127) (code := code_z37) E_ok (by kernel_rfl) (by kernel_rfl) (by kernel_rfl) (Nat.le_of_ble_eq_true rfl) (good_z37 (.start a.2.1 a.2.2.1 a.2.2.2.1 a.2.2.2.2.1 b.1.1 b.2.1 b.2.2.1) r h)

/-! ### (ratchet/machine.builder).register -/
inductive P_z38 where
 | start (name1 : ByteArray) (width2 : Int) (init3 : Int) (B0 : ByteArray) (B1 : (List api_Element)) (B2 : (List api_Node))
noncomputable def place_z38 : P_z38 → List Bool
 | .start .. => []
noncomputable def st_z38 : P_z38 → St E.S
 | .start name1 width2 init3 B0 B1 B2 => st0 35 [.agg [.bp 0 0], .v (.string name1), .v (.int .i64 width2), .v (.int .i64 init3)] [.var 75 [.v (.string B0), .nl, .rw 1, .rw 2, .nl, .nl, .nl], .row 82 B1 true, .row 208 B2 true]
abbrev R_z38 : Type := (((Int × (Int × Unit)) × Unit) × ((ByteArray × (Unit × (Unit × (Unit × (Unit × (Unit × (Unit × Unit))))))) × ((List api_Element) × ((List api_Node) × Unit))))
noncomputable def res_z38 : Res E ((Int × (Int × Unit)) × Unit) ((ByteArray × (Unit × (Unit × (Unit × (Unit × (Unit × (Unit × Unit))))))) × ((List api_Element) × ((List api_Node) × Unit))) := { rows := [], flat := [], keep := 1, done := [0], rl := (RdL.cons (Rd.agg (RdL.cons (Rd.int .i64) (RdL.cons (Rd.int .i64) RdL.nil))) RdL.nil), rb := (RdBL.cons (RdB.var 75 (RdL.cons Rd.str (RdL.cons Rd.nl (RdL.cons (Rd.rw 1) (RdL.cons (Rd.rw 2) (RdL.cons Rd.nl (RdL.cons Rd.nl (RdL.cons Rd.nl RdL.nil)))))))) (RdBL.cons (RdB.row 82 true) (RdBL.cons (RdB.row 208 true) RdBL.nil))) }
noncomputable def run_z38 : P_z38 → Option R_z38
 | .start name1 width2 init3 B0 B1 B2 =>
   if (fits (List.length B1) (List.length ([(⟨name1, (0 : Int), width2, init3, (0 : Int)⟩ : api_Element)] : List api_Element)) 48) = true then
     (run_z37 (.start (1 : Int) width2 (List.length B1 : Int) ([]) B0 (B1 ++ ([(⟨name1, (0 : Int), width2, init3, (0 : Int)⟩ : api_Element)] : List api_Element)) B2)) >>= fun t1 =>
     some (((t1.1.1.1, (t1.1.1.2.1, ())), ()), ((t1.2.1.1, ((), ((), ((), ((), ((), ((), ()))))))), (t1.2.2.1, (t1.2.2.2.1, ()))))
   else none
noncomputable def tab_z38 : List (Plc E P_z38) := []
theorem tab_z38_ok : All (PlcOk 35 1 place_z38 st_z38) tab_z38 := trivial
noncomputable def code_z38 : Code := Tryz.f83.body.getD .skip
noncomputable def spec_z38 : Spec E.S := (Con.add con_z37 noSpec)
theorem spec_z38_ok : SpecOk E spec_z38 := (Con.add_ok con_z37_ok noSpec_ok)
theorem good_z38 : ∀ pt r, run_z38 pt = some r → Good E Tryz.f83 code_z38 1 (res_z38.av r) (res_z38.bx r) (place_z38 pt) (st_z38 pt) := by
  intro pt r hr
  cases pt <;> exact fn_step (spec := spec_z38) (wr := (mkWr [] [])) (l := tab_z38) (z := 35) (p := res_z38) (run' := fun _ => none) E_ok tab_z38_ok.mem rfl spec_z38_ok (fun _ _ h => by cases h) (Eq.trans (by kernel_rfl) hr)
noncomputable def con_z38 : Con E := ⟨83, ((Unit × Unit) × (ByteArray × (Int × (Int × Unit)))), ((ByteArray × (Unit × (Unit × (Unit × (Unit × (Unit × (Unit × Unit))))))) × ((List api_Element) × ((List api_Node) × Unit))), (RwL.cons (Rw.agg (RwL.cons (Rd.bp 0 0).w RwL.nil)) (RwL.cons Rd.str.w (RwL.cons (Rd.int .i64).w (RwL.cons (Rd.int .i64).w RwL.nil)))), (RdBL.cons (RdB.var 75 (RdL.cons Rd.str (RdL.cons Rd.nl (RdL.cons (Rd.rw 1) (RdL.cons (Rd.rw 2) (RdL.cons Rd.nl (RdL.cons Rd.nl (RdL.cons Rd.nl RdL.nil)))))))) (RdBL.cons (RdB.row 82 true) (RdBL.cons (RdB.row 208 true) RdBL.nil))), 1, R_z38, fun a b => run_z38 (.start a.2.1 a.2.2.1 a.2.2.2.1 b.1.1 b.2.1 b.2.2.1), res_z38.av, res_z38.bx⟩
theorem con_z38_ok : con_z38.Ok := fun a b r h => fn_ok (fn := Tryz.f83) (code := code_z38) E_ok (by kernel_rfl) (by kernel_rfl) (by kernel_rfl) (Nat.le_of_ble_eq_true rfl) (good_z38 (.start a.2.1 a.2.2.1 a.2.2.2.1 b.1.1 b.2.1 b.2.2.1) r h)

/-! ### (ratchet/machine.builder).constant -/
inductive P_z39 where
 | start (width1 : Int) (value2 : Int) (B0 : ByteArray) (B1 : (List api_Element)) (B2 : (List api_Node))
noncomputable def place_z39 : P_z39 → List Bool
 | .start .. => []
noncomputable def st_z39 : P_z39 → St E.S
 | .start width1 value2 B0 B1 B2 => st0 11 [.agg [.bp 0 0], .v (.int .i64 width1), .v (.int .i64 value2)] [.var 75 [.v (.string B0), .nl, .rw 1, .rw 2, .nl, .nl, .nl], .row 82 B1 true, .row 208 B2 true]
abbrev R_z39 : Type := (((Int × (Int × Unit)) × Unit) × ((ByteArray × (Unit × (Unit × (Unit × (Unit × (Unit × (Unit × Unit))))))) × ((List api_Element) × ((List api_Node) × Unit))))
noncomputable def res_z39 : Res E ((Int × (Int × Unit)) × Unit) ((ByteArray × (Unit × (Unit × (Unit × (Unit × (Unit × (Unit × Unit))))))) × ((List api_Element) × ((List api_Node) × Unit))) := { rows := [], flat := [], keep := 1, done := [0], rl := (RdL.cons (Rd.agg (RdL.cons (Rd.int .i64) (RdL.cons (Rd.int .i64) RdL.nil))) RdL.nil), rb := (RdBL.cons (RdB.var 75 (RdL.cons Rd.str (RdL.cons Rd.nl (RdL.cons (Rd.rw 1) (RdL.cons (Rd.rw 2) (RdL.cons Rd.nl (RdL.cons Rd.nl (RdL.cons Rd.nl RdL.nil)))))))) (RdBL.cons (RdB.row 82 true) (RdBL.cons (RdB.row 208 true) RdBL.nil))) }
noncomputable def run_z39 : P_z39 → Option R_z39
 | .start width1 value2 B0 B1 B2 =>
   (run_z37 (.start (0 : Int) width1 value2 ([]) B0 B1 B2)) >>= fun t1 =>
   some (((t1.1.1.1, (t1.1.1.2.1, ())), ()), ((t1.2.1.1, ((), ((), ((), ((), ((), ((), ()))))))), (t1.2.2.1, (t1.2.2.2.1, ()))))
noncomputable def tab_z39 : List (Plc E P_z39) := []
theorem tab_z39_ok : All (PlcOk 11 1 place_z39 st_z39) tab_z39 := trivial
noncomputable def code_z39 : Code := Tryz.f85.body.getD .skip
noncomputable def spec_z39 : Spec E.S := (Con.add con_z37 noSpec)
theorem spec_z39_ok : SpecOk E spec_z39 := (Con.add_ok con_z37_ok noSpec_ok)
theorem good_z39 : ∀ pt r, run_z39 pt = some r → Good E Tryz.f85 code_z39 1 (res_z39.av r) (res_z39.bx r) (place_z39 pt) (st_z39 pt) := by
  intro pt r hr
  cases pt <;> exact fn_step (spec := spec_z39) (wr := (mkWr [] [])) (l := tab_z39) (z := 11) (p := res_z39) (run' := fun _ => none) E_ok tab_z39_ok.mem rfl spec_z39_ok (fun _ _ h => by cases h) (Eq.trans (by kernel_rfl) hr)
noncomputable def con_z39 : Con E := ⟨85, ((Unit × Unit) × (Int × (Int × Unit))), ((ByteArray × (Unit × (Unit × (Unit × (Unit × (Unit × (Unit × Unit))))))) × ((List api_Element) × ((List api_Node) × Unit))), (RwL.cons (Rw.agg (RwL.cons (Rd.bp 0 0).w RwL.nil)) (RwL.cons (Rd.int .i64).w (RwL.cons (Rd.int .i64).w RwL.nil))), (RdBL.cons (RdB.var 75 (RdL.cons Rd.str (RdL.cons Rd.nl (RdL.cons (Rd.rw 1) (RdL.cons (Rd.rw 2) (RdL.cons Rd.nl (RdL.cons Rd.nl (RdL.cons Rd.nl RdL.nil)))))))) (RdBL.cons (RdB.row 82 true) (RdBL.cons (RdB.row 208 true) RdBL.nil))), 1, R_z39, fun a b => run_z39 (.start a.2.1 a.2.2.1 b.1.1 b.2.1 b.2.2.1), res_z39.av, res_z39.bx⟩
theorem con_z39_ok : con_z39.Ok := fun a b r h => fn_ok (fn := Tryz.f85) (code := code_z39) E_ok (by kernel_rfl) (by kernel_rfl) (by kernel_rfl) (Nat.le_of_ble_eq_true rfl) (good_z39 (.start a.2.1 a.2.2.1 b.1.1 b.2.1 b.2.2.1) r h)

/-! ### ratchet/machine.newProcessor -/
inductive P_z40 where
 | start (memory0 : (List Int))
 | p2036 (memory0 : (List Int)) (s27 : Int) (B0_0 : Int) (B0_1 : Int) (B0_2 : Int) (B0_3 : Int) (B0_4 : Int) (B0_5 : Int) (B0_6 : Int) (B0_7 : Int) (B0_8 : Int) (B0_9 : Int) (B1_0 : Int) (B1_1 : Int) (B1_2 : Int) (B1_3 : Int) (B1_4 : Int) (B1_5 : Int) (B1_6 : Int) (B1_7 : Int) (B1_8 : Int) (B1_9 : Int) (B2 : ByteArray) (B3 : (List machine_signal)) (B4 : (List api_Element)) (B5 : (List api_Node))
 | p4084 (s42 : (List Int)) (s43 : Int) (s44 : Int) (B0_0 : Int) (B0_1 : Int) (B0_2 : Int) (B0_3 : Int) (B0_4 : Int) (B0_5 : Int) (B0_6 : Int) (B0_7 : Int) (B0_8 : Int) (B0_9 : Int) (B1_0 : Int) (B1_1 : Int) (B1_2 : Int) (B1_3 : Int) (B1_4 : Int) (B1_5 : Int) (B1_6 : Int) (B1_7 : Int) (B1_8 : Int) (B1_9 : Int) (B2 : ByteArray) (B3 : (List machine_signal)) (B4 : (List machine_signal)) (B5 : (List api_Element)) (B6 : (List api_Node))
noncomputable def place_z40 : P_z40 → List Bool
 | .start .. => []
 | .p2036 .. => [false, false, true, false, true, true, true, true, true, true]
 | .p4084 .. => [false, false, true, false, true, true, true, true, true, true, true]
noncomputable def st_z40 : P_z40 → St E.S
 | .start memory0 => st0 67 [.sl 3 memory0 false] []
 | .p2036 memory0 s27 B0_0 B0_1 B0_2 B0_3 B0_4 B0_5 B0_6 B0_7 B0_8 B0_9 B1_0 B1_1 B1_2 B1_3 B1_4 B1_5 B1_6 B1_7 B1_8 B1_9 B2 B3 B4 B5 => mkSt 67 [0, 2, 3, 27] [.sl 3 memory0 false, .bp 0 0, .bp 1 0, .v (.int .i64 s27)] [.var 177 [.v (.pointer none), .v (.int .i64 B0_0), .v (.int .i64 B0_1), .v (.int .i64 B0_2), .v (.int .i64 B0_3), .v (.int .i64 B0_4), .v (.int .i64 B0_5), .v (.int .i64 B0_6), .v (.int .i64 B0_7), .nl, .nl, .v (.int .i64 B0_8), .v (.int .i64 B0_9)], .var 177 [.bp 2 0, .v (.int .i64 B1_0), .v (.int .i64 B1_1), .v (.int .i64 B1_2), .v (.int .i64 B1_3), .v (.int .i64 B1_4), .v (.int .i64 B1_5), .v (.int .i64 B1_6), .v (.int .i64 B1_7), .rw 3, .nl, .v (.int .i64 B1_8), .v (.int .i64 B1_9)], .var 75 [.v (.string B2), .nl, .rw 4, .rw 5, .nl, .nl, .nl], .row 133 B3 false, .row 82 B4 true, .row 208 B5 true]
 | .p4084 s42 s43 s44 B0_0 B0_1 B0_2 B0_3 B0_4 B0_5 B0_6 B0_7 B0_8 B0_9 B1_0 B1_1 B1_2 B1_3 B1_4 B1_5 B1_6 B1_7 B1_8 B1_9 B2 B3 B4 B5 B6 => mkSt 67 [2, 3, 42, 43, 44] [.bp 0 0, .bp 1 0, .sl 3 s42 false, .v (.int .i64 s43), .v (.int .i64 s44)] [.var 177 [.v (.pointer none), .v (.int .i64 B0_0), .v (.int .i64 B0_1), .v (.int .i64 B0_2), .v (.int .i64 B0_3), .v (.int .i64 B0_4), .v (.int .i64 B0_5), .v (.int .i64 B0_6), .v (.int .i64 B0_7), .nl, .nl, .v (.int .i64 B0_8), .v (.int .i64 B0_9)], .var 177 [.bp 2 0, .v (.int .i64 B1_0), .v (.int .i64 B1_1), .v (.int .i64 B1_2), .v (.int .i64 B1_3), .v (.int .i64 B1_4), .v (.int .i64 B1_5), .v (.int .i64 B1_6), .v (.int .i64 B1_7), .rw 3, .rw 4, .v (.int .i64 B1_8), .v (.int .i64 B1_9)], .var 75 [.v (.string B2), .nl, .rw 5, .rw 6, .nl, .nl, .nl], .row 133 B3 false, .row 133 B4 false, .row 82 B5 true, .row 208 B6 true]
abbrev R_z40 : Type := (((Unit × (Int × (Int × (Int × (Int × (Int × (Int × (Int × (Int × (Unit × (Unit × (Int × (Int × Unit))))))))))))) × Unit) × ((ByteArray × (Unit × (Unit × (Unit × (Unit × (Unit × (Unit × Unit))))))) × ((List machine_signal) × ((List machine_signal) × ((List api_Element) × ((List api_Node) × Unit))))))
noncomputable def res_z40 : Res E ((Unit × (Int × (Int × (Int × (Int × (Int × (Int × (Int × (Int × (Unit × (Unit × (Int × (Int × Unit))))))))))))) × Unit) ((ByteArray × (Unit × (Unit × (Unit × (Unit × (Unit × (Unit × Unit))))))) × ((List machine_signal) × ((List machine_signal) × ((List api_Element) × ((List api_Node) × Unit))))) := { rows := [], flat := [], keep := 0, done := [0], rl := (RdL.cons (Rd.agg (RdL.cons (Rd.bp 0 0) (RdL.cons (Rd.int .i64) (RdL.cons (Rd.int .i64) (RdL.cons (Rd.int .i64) (RdL.cons (Rd.int .i64) (RdL.cons (Rd.int .i64) (RdL.cons (Rd.int .i64) (RdL.cons (Rd.int .i64) (RdL.cons (Rd.int .i64) (RdL.cons (Rd.rw 1) (RdL.cons (Rd.rw 2) (RdL.cons (Rd.int .i64) (RdL.cons (Rd.int .i64) RdL.nil)))))))))))))) RdL.nil), rb := (RdBL.cons (RdB.var 75 (RdL.cons Rd.str (RdL.cons Rd.nl (RdL.cons (Rd.rw 3) (RdL.cons (Rd.rw 4) (RdL.cons Rd.nl (RdL.cons Rd.nl (RdL.cons Rd.nl RdL.nil)))))))) (RdBL.cons (RdB.row 133 true) (RdBL.cons (RdB.row 133 true) (RdBL.cons (RdB.row 82 true) (RdBL.cons (RdB.row 208 true) RdBL.nil))))) }
noncomputable def run_z40 : P_z40 → Option R_z40
 | .start memory0 =>
   (run_z36 (.start (⟨#[112, 99]⟩ : ByteArray) (4 : Int) (0 : Int) (⟨#[112, 114, 111, 99, 101, 115, 115, 111, 114]⟩ : ByteArray))) >>= fun t1 =>
   (run_z38 (.start (⟨#[104, 97, 108, 116, 101, 100]⟩ : ByteArray) (1 : Int) (0 : Int) t1.2.1.1 t1.2.2.1 t1.2.2.2.1)) >>= fun t2 =>
   (run_z38 (.start (⟨#[118, 97, 108, 105, 100]⟩ : ByteArray) (1 : Int) (0 : Int) t2.2.1.1 t2.2.2.1 t2.2.2.2.1)) >>= fun t3 =>
   (run_z38 (.start (⟨#[99, 111, 100, 101]⟩ : ByteArray) (16 : Int) (0 : Int) t3.2.1.1 t3.2.2.1 t3.2.2.2.1)) >>= fun t4 =>
   run_z40 (.p2036 memory0 (0 : Int) (0 : Int) (0 : Int) (0 : Int) (0 : Int) (0 : Int) (0 : Int) (0 : Int) (0 : Int) (0 : Int) (0 : Int) t1.1.1.1 t1.1.1.2.1 t2.1.1.1 t2.1.1.2.1 t3.1.1.1 t3.1.1.2.1 t4.1.1.1 t4.1.1.2.1 (0 : Int) (0 : Int) t4.2.1.1 ([] : List machine_signal) t4.2.2.1 t4.2.2.2.1)
 | .p2036 memory0 s27 B0_0 B0_1 B0_2 B0_3 B0_4 B0_5 B0_6 B0_7 B0_8 B0_9 B1_0 B1_1 B1_2 B1_3 B1_4 B1_5 B1_6 B1_7 B1_8 B1_9 B2 B3 B4 B5 =>
   if (decide (s27 < (4 : Int))) = true then
     (itoaRun (s27, ()) ()) >>= fun t1 =>
     if (Nat.ble ((⟨#[114]⟩ : ByteArray).size + t1.1.1.size) 9223372036854775807) = true then
       (run_z38 (.start ((⟨#[114]⟩ : ByteArray) ++ t1.1.1) (8 : Int) (0 : Int) B2 B4 B5)) >>= fun t2 =>
       if (fits (List.length B3) (List.length ([(⟨t2.1.1.1, t2.1.1.2.1⟩ : machine_signal)] : List machine_signal)) 16) = true then
         run_z40 (.p2036 memory0 (IntKind.wrap .i64 (s27 + (1 : Int))) B0_0 B0_1 B0_2 B0_3 B0_4 B0_5 B0_6 B0_7 B0_8 B0_9 B1_0 B1_1 B1_2 B1_3 B1_4 B1_5 B1_6 B1_7 B1_8 B1_9 t2.2.1.1 (B3 ++ ([(⟨t2.1.1.1, t2.1.1.2.1⟩ : machine_signal)] : List machine_signal)) t2.2.2.1 t2.2.2.2.1)
       else none
     else none
   else
     run_z40 (.p4084 memory0 (List.length memory0 : Int) (0 : Int) B0_0 B0_1 B0_2 B0_3 B0_4 B0_5 B0_6 B0_7 B0_8 B0_9 B1_0 B1_1 B1_2 B1_3 B1_4 B1_5 B1_6 B1_7 B1_8 B1_9 B2 B3 ([] : List machine_signal) B4 B5)
 | .p4084 s42 s43 s44 B0_0 B0_1 B0_2 B0_3 B0_4 B0_5 B0_6 B0_7 B0_8 B0_9 B1_0 B1_1 B1_2 B1_3 B1_4 B1_5 B1_6 B1_7 B1_8 B1_9 B2 B3 B4 B5 B6 =>
   if (decide (s44 < s43)) = true then
     (idx s42 s44) >>= fun t1 =>
     (itoaRun (s44, ()) ()) >>= fun t2 =>
     if (Nat.ble ((⟨#[109]⟩ : ByteArray).size + t2.1.1.size) 9223372036854775807) = true then
       (run_z38 (.start ((⟨#[109]⟩ : ByteArray) ++ t2.1.1) (8 : Int) t1 B2 B5 B6)) >>= fun t3 =>
       if (fits (List.length B4) (List.length ([(⟨t3.1.1.1, t3.1.1.2.1⟩ : machine_signal)] : List machine_signal)) 16) = true then
         run_z40 (.p4084 s42 s43 (IntKind.wrap .i64 (s44 + (1 : Int))) B0_0 B0_1 B0_2 B0_3 B0_4 B0_5 B0_6 B0_7 B0_8 B0_9 B1_0 B1_1 B1_2 B1_3 B1_4 B1_5 B1_6 B1_7 B1_8 B1_9 t3.2.1.1 B3 (B4 ++ ([(⟨t3.1.1.1, t3.1.1.2.1⟩ : machine_signal)] : List machine_signal)) t3.2.2.1 t3.2.2.2.1)
       else none
     else none
   else
     (run_z39 (.start (1 : Int) (1 : Int) B2 B5 B6)) >>= fun t4 =>
     some ((((), (B1_0, (B1_1, (B1_2, (B1_3, (B1_4, (B1_5, (B1_6, (B1_7, ((), ((), (t4.1.1.1, (t4.1.1.2.1, ()))))))))))))), ()), ((t4.2.1.1, ((), ((), ((), ((), ((), ((), ()))))))), (B3, (B4, (t4.2.2.1, (t4.2.2.2.1, ()))))))
  partial_fixpoint
noncomputable def tab_z40 : List (Plc E P_z40) := [⟨2036, [false, false, true, false, true, true, true, true, true, true], { slots := [0, 2, 3, 27], rows := [], flat := [], keep := 0, up := [(true, 3, 9, 133)] }, ((List Int) × (Unit × (Unit × (Int × Unit)))), ((Unit × (Int × (Int × (Int × (Int × (Int × (Int × (Int × (Int × (Unit × (Unit × (Int × (Int × Unit))))))))))))) × ((Unit × (Int × (Int × (Int × (Int × (Int × (Int × (Int × (Int × (Unit × (Unit × (Int × (Int × Unit))))))))))))) × ((ByteArray × (Unit × (Unit × (Unit × (Unit × (Unit × (Unit × Unit))))))) × ((List machine_signal) × ((List api_Element) × ((List api_Node) × Unit)))))), (RdL.cons (Rd.sl 3 false) (RdL.cons (Rd.bp 0 0) (RdL.cons (Rd.bp 1 0) (RdL.cons (Rd.int .i64) RdL.nil)))), (RdBL.cons (RdB.var 177 (RdL.cons Rd.nilp (RdL.cons (Rd.int .i64) (RdL.cons (Rd.int .i64) (RdL.cons (Rd.int .i64) (RdL.cons (Rd.int .i64) (RdL.cons (Rd.int .i64) (RdL.cons (Rd.int .i64) (RdL.cons (Rd.int .i64) (RdL.cons (Rd.int .i64) (RdL.cons Rd.nl (RdL.cons Rd.nl (RdL.cons (Rd.int .i64) (RdL.cons (Rd.int .i64) RdL.nil)))))))))))))) (RdBL.cons (RdB.var 177 (RdL.cons (Rd.bp 2 0) (RdL.cons (Rd.int .i64) (RdL.cons (Rd.int .i64) (RdL.cons (Rd.int .i64) (RdL.cons (Rd.int .i64) (RdL.cons (Rd.int .i64) (RdL.cons (Rd.int .i64) (RdL.cons (Rd.int .i64) (RdL.cons (Rd.int .i64) (RdL.cons (Rd.rw 3) (RdL.cons Rd.nl (RdL.cons (Rd.int .i64) (RdL.cons (Rd.int .i64) RdL.nil)))))))))))))) (RdBL.cons (RdB.var 75 (RdL.cons Rd.str (RdL.cons Rd.nl (RdL.cons (Rd.rw 4) (RdL.cons (Rd.rw 5) (RdL.cons Rd.nl (RdL.cons Rd.nl (RdL.cons Rd.nl RdL.nil)))))))) (RdBL.cons (RdB.row 133 false) (RdBL.cons (RdB.row 82 true) (RdBL.cons (RdB.row 208 true) RdBL.nil)))))), fun a b => .p2036 a.1 a.2.2.2.1 b.1.2.1 b.1.2.2.1 b.1.2.2.2.1 b.1.2.2.2.2.1 b.1.2.2.2.2.2.1 b.1.2.2.2.2.2.2.1 b.1.2.2.2.2.2.2.2.1 b.1.2.2.2.2.2.2.2.2.1 b.1.2.2.2.2.2.2.2.2.2.2.2.1 b.1.2.2.2.2.2.2.2.2.2.2.2.2.1 b.2.1.2.1 b.2.1.2.2.1 b.2.1.2.2.2.1 b.2.1.2.2.2.2.1 b.2.1.2.2.2.2.2.1 b.2.1.2.2.2.2.2.2.1 b.2.1.2.2.2.2.2.2.2.1 b.2.1.2.2.2.2.2.2.2.2.1 b.2.1.2.2.2.2.2.2.2.2.2.2.2.1 b.2.1.2.2.2.2.2.2.2.2.2.2.2.2.1 b.2.2.1.1 b.2.2.2.1 b.2.2.2.2.1 b.2.2.2.2.2.1⟩,
  ⟨4084, [false, false, true, false, true, true, true, true, true, true, true], { slots := [2, 3, 42, 43, 44], rows := [], flat := [], keep := 0, up := [(true, 3, 10, 133)] }, (Unit × (Unit × ((List Int) × (Int × (Int × Unit))))), ((Unit × (Int × (Int × (Int × (Int × (Int × (Int × (Int × (Int × (Unit × (Unit × (Int × (Int × Unit))))))))))))) × ((Unit × (Int × (Int × (Int × (Int × (Int × (Int × (Int × (Int × (Unit × (Unit × (Int × (Int × Unit))))))))))))) × ((ByteArray × (Unit × (Unit × (Unit × (Unit × (Unit × (Unit × Unit))))))) × ((List machine_signal) × ((List machine_signal) × ((List api_Element) × ((List api_Node) × Unit))))))), (RdL.cons (Rd.bp 0 0) (RdL.cons (Rd.bp 1 0) (RdL.cons (Rd.sl 3 false) (RdL.cons (Rd.int .i64) (RdL.cons (Rd.int .i64) RdL.nil))))), (RdBL.cons (RdB.var 177 (RdL.cons Rd.nilp (RdL.cons (Rd.int .i64) (RdL.cons (Rd.int .i64) (RdL.cons (Rd.int .i64) (RdL.cons (Rd.int .i64) (RdL.cons (Rd.int .i64) (RdL.cons (Rd.int .i64) (RdL.cons (Rd.int .i64) (RdL.cons (Rd.int .i64) (RdL.cons Rd.nl (RdL.cons Rd.nl (RdL.cons (Rd.int .i64) (RdL.cons (Rd.int .i64) RdL.nil)))))))))))))) (RdBL.cons (RdB.var 177 (RdL.cons (Rd.bp 2 0) (RdL.cons (Rd.int .i64) (RdL.cons (Rd.int .i64) (RdL.cons (Rd.int .i64) (RdL.cons (Rd.int .i64) (RdL.cons (Rd.int .i64) (RdL.cons (Rd.int .i64) (RdL.cons (Rd.int .i64) (RdL.cons (Rd.int .i64) (RdL.cons (Rd.rw 3) (RdL.cons (Rd.rw 4) (RdL.cons (Rd.int .i64) (RdL.cons (Rd.int .i64) RdL.nil)))))))))))))) (RdBL.cons (RdB.var 75 (RdL.cons Rd.str (RdL.cons Rd.nl (RdL.cons (Rd.rw 5) (RdL.cons (Rd.rw 6) (RdL.cons Rd.nl (RdL.cons Rd.nl (RdL.cons Rd.nl RdL.nil)))))))) (RdBL.cons (RdB.row 133 false) (RdBL.cons (RdB.row 133 false) (RdBL.cons (RdB.row 82 true) (RdBL.cons (RdB.row 208 true) RdBL.nil))))))), fun a b => .p4084 a.2.2.1 a.2.2.2.1 a.2.2.2.2.1 b.1.2.1 b.1.2.2.1 b.1.2.2.2.1 b.1.2.2.2.2.1 b.1.2.2.2.2.2.1 b.1.2.2.2.2.2.2.1 b.1.2.2.2.2.2.2.2.1 b.1.2.2.2.2.2.2.2.2.1 b.1.2.2.2.2.2.2.2.2.2.2.2.1 b.1.2.2.2.2.2.2.2.2.2.2.2.2.1 b.2.1.2.1 b.2.1.2.2.1 b.2.1.2.2.2.1 b.2.1.2.2.2.2.1 b.2.1.2.2.2.2.2.1 b.2.1.2.2.2.2.2.2.1 b.2.1.2.2.2.2.2.2.2.1 b.2.1.2.2.2.2.2.2.2.2.1 b.2.1.2.2.2.2.2.2.2.2.2.2.2.1 b.2.1.2.2.2.2.2.2.2.2.2.2.2.2.1 b.2.2.1.1 b.2.2.2.1 b.2.2.2.2.1 b.2.2.2.2.2.1 b.2.2.2.2.2.2.1⟩]
theorem tab_z40_ok : All (PlcOk 67 0 place_z40 st_z40) tab_z40 := ⟨⟨rfl, rfl, fun _ _ => rfl, fun _ _ => rfl⟩, ⟨⟨rfl, rfl, fun _ _ => rfl, fun _ _ => rfl⟩, trivial⟩⟩
noncomputable def code_z40 : Code := Tryz.f108.body.getD .skip
noncomputable def spec_z40 : Spec E.S := (Con.add con_z39 (Con.add con_strconv_Itoa (Con.add con_z38 (Con.add con_z36 noSpec))))
theorem spec_z40_ok : SpecOk E spec_z40 := (Con.add_ok con_z39_ok (Con.add_ok con_strconv_Itoa_ok (Con.add_ok con_z38_ok (Con.add_ok con_z36_ok noSpec_ok))))
theorem good_z40 : ∀ pt r, run_z40 pt = some r → Good E Tryz.f108 code_z40 0 (res_z40.av r) (res_z40.bx r) (place_z40 pt) (st_z40 pt) := by
  refine run_z40.partial_correctness (fun pt r => Good E Tryz.f108 code_z40 0 (res_z40.av r) (res_z40.bx r) (place_z40 pt) (st_z40 pt)) ?_
  intro run' ih pt r hr
  cases pt <;> exact fn_step (spec := spec_z40) (wr := (mkWr [] [])) (l := tab_z40) (z := 67) (p := res_z40) E_ok tab_z40_ok.mem rfl spec_z40_ok ih (Eq.trans (by kernel_rfl) hr)
noncomputable def con_z40 : Con E := ⟨108, ((List Int) × Unit), Unit, (RwL.cons (Rw.sl 3) RwL.nil), RdBL.nil, 0, R_z40, fun a b => run_z40 (.start a.1), res_z40.av, res_z40.bx⟩
theorem con_z40_ok : con_z40.Ok := fun a b r h => fn_ok (fn := Tryz.f108) (code := code_z40) E_ok (by kernel_rfl) (by kernel_rfl) (by kernel_rfl) (Nat.le_of_ble_eq_true rfl) (good_z40 (.start a.1) r h)

/-! ### ratchet/machine.wordOf -/
inductive P_z41 where
 | start (c0_0 : Int) (c0_1 : Int) (c0_2 : Int) (c0_3 : Int)
noncomputable def place_z41 : P_z41 → List Bool
 | .start .. => []
noncomputable def st_z41 : P_z41 → St E.S
 | .start c0_0 c0_1 c0_2 c0_3 => st0 17 [.agg [.v (.int .i64 c0_0), .v (.int .i64 c0_1), .v (.int .i64 c0_2), .v (.int .i64 c0_3)]] []
abbrev R_z41 : Type := ((Int × Unit) × Unit)
noncomputable def res_z41 : Res E (Int × Unit) Unit := { rows := [], flat := [], keep := 0, done := [0], rl := (RdL.cons (Rd.int .i64) RdL.nil), rb := RdBL.nil }
noncomputable def run_z41 : P_z41 → Option R_z41
 | .start c0_0 c0_1 c0_2 c0_3 =>
   if (decide ((0 : Int) ≤ (12 : Int))) = true then
     if (decide ((0 : Int) ≤ (10 : Int))) = true then
       if (decide ((0 : Int) ≤ (8 : Int))) = true then
         some ((bits .or .i64 (bits .or .i64 (bits .or .i64 (shl .i64 c0_0 (12 : Int)) (shl .i64 c0_1 (10 : Int))) (shl .i64 c0_2 (8 : Int))) c0_3, ()), ())
       else none
     else none
   else none
noncomputable def tab_z41 : List (Plc E P_z41) := []
theorem tab_z41_ok : All (PlcOk 17 0 place_z41 st_z41) tab_z41 := trivial
noncomputable def code_z41 : Code := Tryz.f74.body.getD .skip
noncomputable def spec_z41 : Spec E.S := noSpec
theorem spec_z41_ok : SpecOk E spec_z41 := noSpec_ok
theorem good_z41 : ∀ pt r, run_z41 pt = some r → Good E Tryz.f74 code_z41 0 (res_z41.av r) (res_z41.bx r) (place_z41 pt) (st_z41 pt) := by
  intro pt r hr
  cases pt <;> exact fn_step (spec := spec_z41) (wr := (mkWr [] [])) (l := tab_z41) (z := 17) (p := res_z41) (run' := fun _ => none) E_ok tab_z41_ok.mem rfl spec_z41_ok (fun _ _ h => by cases h) (Eq.trans (by kernel_rfl) hr)
noncomputable def con_z41 : Con E := ⟨74, ((Int × (Int × (Int × (Int × Unit)))) × Unit), Unit, (RwL.cons (Rw.agg (RwL.cons (Rd.int .i64).w (RwL.cons (Rd.int .i64).w (RwL.cons (Rd.int .i64).w (RwL.cons (Rd.int .i64).w RwL.nil))))) RwL.nil), RdBL.nil, 0, R_z41, fun a b => run_z41 (.start a.1.1 a.1.2.1 a.1.2.2.1 a.1.2.2.2.1), res_z41.av, res_z41.bx⟩
theorem con_z41_ok : con_z41.Ok := fun a b r h => fn_ok (fn := Tryz.f74) (code := code_z41) E_ok (by kernel_rfl) (by kernel_rfl) (by kernel_rfl) (Nat.le_of_ble_eq_true rfl) (good_z41 (.start a.1.1 a.1.2.1 a.1.2.2.1 a.1.2.2.2.1) r h)

/-! ### (ratchet/machine.builder).not -/
inductive P_z42 where
 | start (x1_0 : Int) (x1_1 : Int) (B0 : ByteArray) (B1 : (List api_Element)) (B2 : (List api_Node))
noncomputable def place_z42 : P_z42 → List Bool
 | .start .. => []
noncomputable def st_z42 : P_z42 → St E.S
 | .start x1_0 x1_1 B0 B1 B2 => st0 11 [.agg [.bp 0 0], .agg [.v (.int .i64 x1_0), .v (.int .i64 x1_1)]] [.var 75 [.v (.string B0), .nl, .rw 1, .rw 2, .nl, .nl, .nl], .row 82 B1 true, .row 208 B2 true]
abbrev R_z42 : Type := (((Int × (Int × Unit)) × Unit) × ((ByteArray × (Unit × (Unit × (Unit × (Unit × (Unit × (Unit × Unit))))))) × ((List api_Element) × ((List api_Node) × Unit))))
noncomputable def res_z42 : Res E ((Int × (Int × Unit)) × Unit) ((ByteArray × (Unit × (Unit × (Unit × (Unit × (Unit × (Unit × Unit))))))) × ((List api_Element) × ((List api_Node) × Unit))) := { rows := [], flat := [], keep := 1, done := [0], rl := (RdL.cons (Rd.agg (RdL.cons (Rd.int .i64) (RdL.cons (Rd.int .i64) RdL.nil))) RdL.nil), rb := (RdBL.cons (RdB.var 75 (RdL.cons Rd.str (RdL.cons Rd.nl (RdL.cons (Rd.rw 1) (RdL.cons (Rd.rw 2) (RdL.cons Rd.nl (RdL.cons Rd.nl (RdL.cons Rd.nl RdL.nil)))))))) (RdBL.cons (RdB.row 82 true) (RdBL.cons (RdB.row 208 true) RdBL.nil))) }
noncomputable def run_z42 : P_z42 → Option R_z42
 | .start x1_0 x1_1 B0 B1 B2 =>
   (run_z37 (.start (2 : Int) x1_1 (0 : Int) ([(⟨x1_0, x1_1⟩ : machine_signal)] : List machine_signal) B0 B1 B2)) >>= fun t1 =>
   some (((t1.1.1.1, (t1.1.1.2.1, ())), ()), ((t1.2.1.1, ((), ((), ((), ((), ((), ((), ()))))))), (t1.2.2.1, (t1.2.2.2.1, ()))))
noncomputable def tab_z42 : List (Plc E P_z42) := []
theorem tab_z42_ok : All (PlcOk 11 1 place_z42 st_z42) tab_z42 := trivial
noncomputable def code_z42 : Code := Tryz.f135.body.getD .skip
noncomputable def spec_z42 : Spec E.S := (Con.add con_z37 noSpec)
theorem spec_z42_ok : SpecOk E spec_z42 := (Con.add_ok con_z37_ok noSpec_ok)
theorem good_z42 : ∀ pt r, run_z42 pt = some r → Good E Tryz.f135 code_z42 1 (res_z42.av r) (res_z42.bx r) (place_z42 pt) (st_z42 pt) := by
  intro pt r hr
  cases pt <;> exact fn_step (spec := spec_z42) (wr := (mkWr [] [])) (l := tab_z42) (z := 11) (p := res_z42) (run' := fun _ => none) E_ok tab_z42_ok.mem rfl spec_z42_ok (fun _ _ h => by cases h) (Eq.trans (by kernel_rfl) hr)
noncomputable def con_z42 : Con E := ⟨135, ((Unit × Unit) × ((Int × (Int × Unit)) × Unit)), ((ByteArray × (Unit × (Unit × (Unit × (Unit × (Unit × (Unit × Unit))))))) × ((List api_Element) × ((List api_Node) × Unit))), (RwL.cons (Rw.agg (RwL.cons (Rd.bp 0 0).w RwL.nil)) (RwL.cons (Rw.agg (RwL.cons (Rd.int .i64).w (RwL.cons (Rd.int .i64).w RwL.nil))) RwL.nil)), (RdBL.cons (RdB.var 75 (RdL.cons Rd.str (RdL.cons Rd.nl (RdL.cons (Rd.rw 1) (RdL.cons (Rd.rw 2) (RdL.cons Rd.nl (RdL.cons Rd.nl (RdL.cons Rd.nl RdL.nil)))))))) (RdBL.cons (RdB.row 82 true) (RdBL.cons (RdB.row 208 true) RdBL.nil))), 1, R_z42, fun a b => run_z42 (.start a.2.1.1 a.2.1.2.1 b.1.1 b.2.1 b.2.2.1), res_z42.av, res_z42.bx⟩
theorem con_z42_ok : con_z42.Ok := fun a b r h => fn_ok (fn := Tryz.f135) (code := code_z42) E_ok (by kernel_rfl) (by kernel_rfl) (by kernel_rfl) (Nat.le_of_ble_eq_true rfl) (good_z42 (.start a.2.1.1 a.2.1.2.1 b.1.1 b.2.1 b.2.2.1) r h)

/-! ### (ratchet/machine.builder).and -/
inductive P_z43 where
 | start (x1_0 : Int) (x1_1 : Int) (y2_0 : Int) (y2_1 : Int) (B0 : ByteArray) (B1 : (List api_Element)) (B2 : (List api_Node))
noncomputable def place_z43 : P_z43 → List Bool
 | .start .. => []
noncomputable def st_z43 : P_z43 → St E.S
 | .start x1_0 x1_1 y2_0 y2_1 B0 B1 B2 => st0 14 [.agg [.bp 0 0], .agg [.v (.int .i64 x1_0), .v (.int .i64 x1_1)], .agg [.v (.int .i64 y2_0), .v (.int .i64 y2_1)]] [.var 75 [.v (.string B0), .nl, .rw 1, .rw 2, .nl, .nl, .nl], .row 82 B1 true, .row 208 B2 true]
abbrev R_z43 : Type := (((Int × (Int × Unit)) × Unit) × ((ByteArray × (Unit × (Unit × (Unit × (Unit × (Unit × (Unit × Unit))))))) × ((List api_Element) × ((List api_Node) × Unit))))
noncomputable def res_z43 : Res E ((Int × (Int × Unit)) × Unit) ((ByteArray × (Unit × (Unit × (Unit × (Unit × (Unit × (Unit × Unit))))))) × ((List api_Element) × ((List api_Node) × Unit))) := { rows := [], flat := [], keep := 1, done := [0], rl := (RdL.cons (Rd.agg (RdL.cons (Rd.int .i64) (RdL.cons (Rd.int .i64) RdL.nil))) RdL.nil), rb := (RdBL.cons (RdB.var 75 (RdL.cons Rd.str (RdL.cons Rd.nl (RdL.cons (Rd.rw 1) (RdL.cons (Rd.rw 2) (RdL.cons Rd.nl (RdL.cons Rd.nl (RdL.cons Rd.nl RdL.nil)))))))) (RdBL.cons (RdB.row 82 true) (RdBL.cons (RdB.row 208 true) RdBL.nil))) }
noncomputable def run_z43 : P_z43 → Option R_z43
 | .start x1_0 x1_1 y2_0 y2_1 B0 B1 B2 =>
   (run_z37 (.start (3 : Int) x1_1 (0 : Int) ([(⟨x1_0, x1_1⟩ : machine_signal), (⟨y2_0, y2_1⟩ : machine_signal)] : List machine_signal) B0 B1 B2)) >>= fun t1 =>
   some (((t1.1.1.1, (t1.1.1.2.1, ())), ()), ((t1.2.1.1, ((), ((), ((), ((), ((), ((), ()))))))), (t1.2.2.1, (t1.2.2.2.1, ()))))
noncomputable def tab_z43 : List (Plc E P_z43) := []
theorem tab_z43_ok : All (PlcOk 14 1 place_z43 st_z43) tab_z43 := trivial
noncomputable def code_z43 : Code := Tryz.f134.body.getD .skip
noncomputable def spec_z43 : Spec E.S := (Con.add con_z37 noSpec)
theorem spec_z43_ok : SpecOk E spec_z43 := (Con.add_ok con_z37_ok noSpec_ok)
theorem good_z43 : ∀ pt r, run_z43 pt = some r → Good E Tryz.f134 code_z43 1 (res_z43.av r) (res_z43.bx r) (place_z43 pt) (st_z43 pt) := by
  intro pt r hr
  cases pt <;> exact fn_step (spec := spec_z43) (wr := (mkWr [] [])) (l := tab_z43) (z := 14) (p := res_z43) (run' := fun _ => none) E_ok tab_z43_ok.mem rfl spec_z43_ok (fun _ _ h => by cases h) (Eq.trans (by kernel_rfl) hr)
noncomputable def con_z43 : Con E := ⟨134, ((Unit × Unit) × ((Int × (Int × Unit)) × ((Int × (Int × Unit)) × Unit))), ((ByteArray × (Unit × (Unit × (Unit × (Unit × (Unit × (Unit × Unit))))))) × ((List api_Element) × ((List api_Node) × Unit))), (RwL.cons (Rw.agg (RwL.cons (Rd.bp 0 0).w RwL.nil)) (RwL.cons (Rw.agg (RwL.cons (Rd.int .i64).w (RwL.cons (Rd.int .i64).w RwL.nil))) (RwL.cons (Rw.agg (RwL.cons (Rd.int .i64).w (RwL.cons (Rd.int .i64).w RwL.nil))) RwL.nil))), (RdBL.cons (RdB.var 75 (RdL.cons Rd.str (RdL.cons Rd.nl (RdL.cons (Rd.rw 1) (RdL.cons (Rd.rw 2) (RdL.cons Rd.nl (RdL.cons Rd.nl (RdL.cons Rd.nl RdL.nil)))))))) (RdBL.cons (RdB.row 82 true) (RdBL.cons (RdB.row 208 true) RdBL.nil))), 1, R_z43, fun a b => run_z43 (.start a.2.1.1 a.2.1.2.1 a.2.2.1.1 a.2.2.1.2.1 b.1.1 b.2.1 b.2.2.1), res_z43.av, res_z43.bx⟩
theorem con_z43_ok : con_z43.Ok := fun a b r h => fn_ok (fn := Tryz.f134) (code := code_z43) E_ok (by kernel_rfl) (by kernel_rfl) (by kernel_rfl) (Nat.le_of_ble_eq_true rfl) (good_z43 (.start a.2.1.1 a.2.1.2.1 a.2.2.1.1 a.2.2.1.2.1 b.1.1 b.2.1 b.2.2.1) r h)

/-! ### (ratchet/machine.builder).slice -/
inductive P_z44 where
 | start (x1_0 : Int) (x1_1 : Int) (low2 : Int) (width3 : Int) (B0 : ByteArray) (B1 : (List api_Element)) (B2 : (List api_Node))
noncomputable def place_z44 : P_z44 → List Bool
 | .start .. => []
noncomputable def st_z44 : P_z44 → St E.S
 | .start x1_0 x1_1 low2 width3 B0 B1 B2 => st0 15 [.agg [.bp 0 0], .agg [.v (.int .i64 x1_0), .v (.int .i64 x1_1)], .v (.int .i64 low2), .v (.int .i64 width3)] [.var 75 [.v (.string B0), .nl, .rw 1, .rw 2, .nl, .nl, .nl], .row 82 B1 true, .row 208 B2 true]
abbrev R_z44 : Type := (((Int × (Int × Unit)) × Unit) × ((ByteArray × (Unit × (Unit × (Unit × (Unit × (Unit × (Unit × Unit))))))) × ((List api_Element) × ((List api_Node) × Unit))))
noncomputable def res_z44 : Res E ((Int × (Int × Unit)) × Unit) ((ByteArray × (Unit × (Unit × (Unit × (Unit × (Unit × (Unit × Unit))))))) × ((List api_Element) × ((List api_Node) × Unit))) := { rows := [], flat := [], keep := 1, done := [0], rl := (RdL.cons (Rd.agg (RdL.cons (Rd.int .i64) (RdL.cons (Rd.int .i64) RdL.nil))) RdL.nil), rb := (RdBL.cons (RdB.var 75 (RdL.cons Rd.str (RdL.cons Rd.nl (RdL.cons (Rd.rw 1) (RdL.cons (Rd.rw 2) (RdL.cons Rd.nl (RdL.cons Rd.nl (RdL.cons Rd.nl RdL.nil)))))))) (RdBL.cons (RdB.row 82 true) (RdBL.cons (RdB.row 208 true) RdBL.nil))) }
noncomputable def run_z44 : P_z44 → Option R_z44
 | .start x1_0 x1_1 low2 width3 B0 B1 B2 =>
   (run_z37 (.start (14 : Int) width3 low2 ([(⟨x1_0, x1_1⟩ : machine_signal)] : List machine_signal) B0 B1 B2)) >>= fun t1 =>
   some (((t1.1.1.1, (t1.1.1.2.1, ())), ()), ((t1.2.1.1, ((), ((), ((), ((), ((), ((), ()))))))), (t1.2.2.1, (t1.2.2.2.1, ()))))
noncomputable def tab_z44 : List (Plc E P_z44) := []
theorem tab_z44_ok : All (PlcOk 15 1 place_z44 st_z44) tab_z44 := trivial
noncomputable def code_z44 : Code := Tryz.f162.body.getD .skip
noncomputable def spec_z44 : Spec E.S := (Con.add con_z37 noSpec)
theorem spec_z44_ok : SpecOk E spec_z44 := (Con.add_ok con_z37_ok noSpec_ok)
theorem good_z44 : ∀ pt r, run_z44 pt = some r → Good E Tryz.f162 code_z44 1 (res_z44.av r) (res_z44.bx r) (place_z44 pt) (st_z44 pt) := by
  intro pt r hr
  cases pt <;> exact fn_step (spec := spec_z44) (wr := (mkWr [] [])) (l := tab_z44) (z := 15) (p := res_z44) (run' := fun _ => none) E_ok tab_z44_ok.mem rfl spec_z44_ok (fun _ _ h => by cases h) (Eq.trans (by kernel_rfl) hr)
noncomputable def con_z44 : Con E := ⟨162, ((Unit × Unit) × ((Int × (Int × Unit)) × (Int × (Int × Unit)))), ((ByteArray × (Unit × (Unit × (Unit × (Unit × (Unit × (Unit × Unit))))))) × ((List api_Element) × ((List api_Node) × Unit))), (RwL.cons (Rw.agg (RwL.cons (Rd.bp 0 0).w RwL.nil)) (RwL.cons (Rw.agg (RwL.cons (Rd.int .i64).w (RwL.cons (Rd.int .i64).w RwL.nil))) (RwL.cons (Rd.int .i64).w (RwL.cons (Rd.int .i64).w RwL.nil)))), (RdBL.cons (RdB.var 75 (RdL.cons Rd.str (RdL.cons Rd.nl (RdL.cons (Rd.rw 1) (RdL.cons (Rd.rw 2) (RdL.cons Rd.nl (RdL.cons Rd.nl (RdL.cons Rd.nl RdL.nil)))))))) (RdBL.cons (RdB.row 82 true) (RdBL.cons (RdB.row 208 true) RdBL.nil))), 1, R_z44, fun a b => run_z44 (.start a.2.1.1 a.2.1.2.1 a.2.2.1 a.2.2.2.1 b.1.1 b.2.1 b.2.2.1), res_z44.av, res_z44.bx⟩
theorem con_z44_ok : con_z44.Ok := fun a b r h => fn_ok (fn := Tryz.f162) (code := code_z44) E_ok (by kernel_rfl) (by kernel_rfl) (by kernel_rfl) (Nat.le_of_ble_eq_true rfl) (good_z44 (.start a.2.1.1 a.2.1.2.1 a.2.2.1 a.2.2.2.1 b.1.1 b.2.1 b.2.2.1) r h)

/-! ### (ratchet/machine.builder).mux -/
inductive P_z45 where
 | start (c1_0 : Int) (c1_1 : Int) (x2_0 : Int) (x2_1 : Int) (y3_0 : Int) (y3_1 : Int) (B0 : ByteArray) (B1 : (List api_Element)) (B2 : (List api_Node))
noncomputable def place_z45 : P_z45 → List Bool
 | .start .. => []
noncomputable def st_z45 : P_z45 → St E.S
 | .start c1_0 c1_1 x2_0 x2_1 y3_0 y3_1 B0 B1 B2 => st0 17 [.agg [.bp 0 0], .agg [.v (.int .i64 c1_0), .v (.int .i64 c1_1)], .agg [.v (.int .i64 x2_0), .v (.int .i64 x2_1)], .agg [.v (.int .i64 y3_0), .v (.int .i64 y3_1)]] [.var 75 [.v (.string B0), .nl, .rw 1, .rw 2, .nl, .nl, .nl], .row 82 B1 true, .row 208 B2 true]
abbrev R_z45 : Type := (((Int × (Int × Unit)) × Unit) × ((ByteArray × (Unit × (Unit × (Unit × (Unit × (Unit × (Unit × Unit))))))) × ((List api_Element) × ((List api_Node) × Unit))))
noncomputable def res_z45 : Res E ((Int × (Int × Unit)) × Unit) ((ByteArray × (Unit × (Unit × (Unit × (Unit × (Unit × (Unit × Unit))))))) × ((List api_Element) × ((List api_Node) × Unit))) := { rows := [], flat := [], keep := 1, done := [0], rl := (RdL.cons (Rd.agg (RdL.cons (Rd.int .i64) (RdL.cons (Rd.int .i64) RdL.nil))) RdL.nil), rb := (RdBL.cons (RdB.var 75 (RdL.cons Rd.str (RdL.cons Rd.nl (RdL.cons (Rd.rw 1) (RdL.cons (Rd.rw 2) (RdL.cons Rd.nl (RdL.cons Rd.nl (RdL.cons Rd.nl RdL.nil)))))))) (RdBL.cons (RdB.row 82 true) (RdBL.cons (RdB.row 208 true) RdBL.nil))) }
noncomputable def run_z45 : P_z45 → Option R_z45
 | .start c1_0 c1_1 x2_0 x2_1 y3_0 y3_1 B0 B1 B2 =>
   (run_z37 (.start (12 : Int) x2_1 (0 : Int) ([(⟨c1_0, c1_1⟩ : machine_signal), (⟨x2_0, x2_1⟩ : machine_signal), (⟨y3_0, y3_1⟩ : machine_signal)] : List machine_signal) B0 B1 B2)) >>= fun t1 =>
   some (((t1.1.1.1, (t1.1.1.2.1, ())), ()), ((t1.2.1.1, ((), ((), ((), ((), ((), ((), ()))))))), (t1.2.2.1, (t1.2.2.2.1, ()))))
noncomputable def tab_z45 : List (Plc E P_z45) := []
theorem tab_z45_ok : All (PlcOk 17 1 place_z45 st_z45) tab_z45 := trivial
noncomputable def code_z45 : Code := Tryz.f163.body.getD .skip
noncomputable def spec_z45 : Spec E.S := (Con.add con_z37 noSpec)
theorem spec_z45_ok : SpecOk E spec_z45 := (Con.add_ok con_z37_ok noSpec_ok)
theorem good_z45 : ∀ pt r, run_z45 pt = some r → Good E Tryz.f163 code_z45 1 (res_z45.av r) (res_z45.bx r) (place_z45 pt) (st_z45 pt) := by
  intro pt r hr
  cases pt <;> exact fn_step (spec := spec_z45) (wr := (mkWr [] [])) (l := tab_z45) (z := 17) (p := res_z45) (run' := fun _ => none) E_ok tab_z45_ok.mem rfl spec_z45_ok (fun _ _ h => by cases h) (Eq.trans (by kernel_rfl) hr)
noncomputable def con_z45 : Con E := ⟨163, ((Unit × Unit) × ((Int × (Int × Unit)) × ((Int × (Int × Unit)) × ((Int × (Int × Unit)) × Unit)))), ((ByteArray × (Unit × (Unit × (Unit × (Unit × (Unit × (Unit × Unit))))))) × ((List api_Element) × ((List api_Node) × Unit))), (RwL.cons (Rw.agg (RwL.cons (Rd.bp 0 0).w RwL.nil)) (RwL.cons (Rw.agg (RwL.cons (Rd.int .i64).w (RwL.cons (Rd.int .i64).w RwL.nil))) (RwL.cons (Rw.agg (RwL.cons (Rd.int .i64).w (RwL.cons (Rd.int .i64).w RwL.nil))) (RwL.cons (Rw.agg (RwL.cons (Rd.int .i64).w (RwL.cons (Rd.int .i64).w RwL.nil))) RwL.nil)))), (RdBL.cons (RdB.var 75 (RdL.cons Rd.str (RdL.cons Rd.nl (RdL.cons (Rd.rw 1) (RdL.cons (Rd.rw 2) (RdL.cons Rd.nl (RdL.cons Rd.nl (RdL.cons Rd.nl RdL.nil)))))))) (RdBL.cons (RdB.row 82 true) (RdBL.cons (RdB.row 208 true) RdBL.nil))), 1, R_z45, fun a b => run_z45 (.start a.2.1.1 a.2.1.2.1 a.2.2.1.1 a.2.2.1.2.1 a.2.2.2.1.1 a.2.2.2.1.2.1 b.1.1 b.2.1 b.2.2.1), res_z45.av, res_z45.bx⟩
theorem con_z45_ok : con_z45.Ok := fun a b r h => fn_ok (fn := Tryz.f163) (code := code_z45) E_ok (by kernel_rfl) (by kernel_rfl) (by kernel_rfl) (Nat.le_of_ble_eq_true rfl) (good_z45 (.start a.2.1.1 a.2.1.2.1 a.2.2.1.1 a.2.2.1.2.1 a.2.2.2.1.1 a.2.2.2.1.2.1 b.1.1 b.2.1 b.2.2.1) r h)

/-! ### (ratchet/machine.builder).chosen -/
inductive P_z46 where
 | start (l1 : (List machine_signal)) (number2_0 : Int) (number2_1 : Int) (B0 : ByteArray) (B1 : (List api_Element)) (B2 : (List api_Node))
 | p52 (l1 : (List machine_signal)) (bit7 : Int) (B0 : ByteArray) (B2_0 : Int) (B2_1 : Int) (B3_0 : Int) (B3_1 : Int) (B4 : (List api_Element)) (B5 : (List api_Node))
 | p26932 (l1 : (List machine_signal)) (bit7 : Int) (i10 : Int) (B0 : ByteArray) (B2_0 : Int) (B2_1 : Int) (B3_0 : Int) (B3_1 : Int) (B4_0 : Int) (B4_1 : Int) (B5 : (List machine_signal)) (B6 : (List api_Element)) (B7 : (List api_Node))
noncomputable def place_z46 : P_z46 → List Bool
 | .start .. => []
 | .p52 .. => [false, false, true, false, true]
 | .p26932 .. => [false, false, true, false, true, true, false, false, true, false, false, true, false, true]
noncomputable def st_z46 : P_z46 → St E.S
 | .start l1 number2_0 number2_1 B0 B1 B2 => st0 45 [.agg [.bp 0 0], .sl 133 l1 false, .agg [.v (.int .i64 number2_0), .v (.int .i64 number2_1)]] [.var 75 [.v (.string B0), .nl, .rw 1, .rw 2, .nl, .nl, .nl], .row 82 B1 true, .row 208 B2 true]
 | .p52 l1 bit7 B0 B2_0 B2_1 B3_0 B3_1 B4 B5 => mkSt 45 [1, 3, 5, 6, 7] [.sl 133 l1 false, .bp 1 0, .bp 2 0, .bp 3 0, .v (.int .i64 bit7)] [.var 75 [.v (.string B0), .nl, .rw 4, .rw 5, .nl, .nl, .nl], .var 131 [.bp 0 0], .var 133 [.v (.int .i64 B2_0), .v (.int .i64 B2_1)], .var 133 [.v (.int .i64 B3_0), .v (.int .i64 B3_1)], .row 82 B4 true, .row 208 B5 true]
 | .p26932 l1 bit7 i10 B0 B2_0 B2_1 B3_0 B3_1 B4_0 B4_1 B5 B6 B7 => mkSt 45 [1, 3, 5, 6, 7, 8, 9, 10] [.sl 133 l1 false, .bp 1 0, .bp 2 0, .bp 3 0, .v (.int .i64 bit7), .bp 4 0, .rw 5, .v (.int .i64 i10)] [.var 75 [.v (.string B0), .nl, .rw 6, .rw 7, .nl, .nl, .nl], .var 131 [.bp 0 0], .var 133 [.v (.int .i64 B2_0), .v (.int .i64 B2_1)], .var 133 [.v (.int .i64 B3_0), .v (.int .i64 B3_1)], .var 133 [.v (.int .i64 B4_0), .v (.int .i64 B4_1)], .row 133 B5 false, .row 82 B6 true, .row 208 B7 true]
abbrev R_z46 : Type := (((Int × (Int × Unit)) × Unit) × ((ByteArray × (Unit × (Unit × (Unit × (Unit × (Unit × (Unit × Unit))))))) × ((List api_Element) × ((List api_Node) × Unit))))
noncomputable def res_z46 : Res E ((Int × (Int × Unit)) × Unit) ((ByteArray × (Unit × (Unit × (Unit × (Unit × (Unit × (Unit × Unit))))))) × ((List api_Element) × ((List api_Node) × Unit))) := { rows := [], flat := [], keep := 1, done := [0], rl := (RdL.cons (Rd.agg (RdL.cons (Rd.int .i64) (RdL.cons (Rd.int .i64) RdL.nil))) RdL.nil), rb := (RdBL.cons (RdB.var 75 (RdL.cons Rd.str (RdL.cons Rd.nl (RdL.cons (Rd.rw 1) (RdL.cons (Rd.rw 2) (RdL.cons Rd.nl (RdL.cons Rd.nl (RdL.cons Rd.nl RdL.nil)))))))) (RdBL.cons (RdB.row 82 true) (RdBL.cons (RdB.row 208 true) RdBL.nil))) }
noncomputable def run_z46 : P_z46 → Option R_z46
 | .start l1 number2_0 number2_1 B0 B1 B2 =>
   run_z46 (.p52 l1 (0 : Int) B0 number2_0 number2_1 (0 : Int) (0 : Int) B1 B2)
 | .p52 l1 bit7 B0 B2_0 B2_1 B3_0 B3_1 B4 B5 =>
   if (decide ((List.length l1 : Int) > (1 : Int))) = true then
     (run_z44 (.start B2_0 B2_1 bit7 (1 : Int) B0 B4 B5)) >>= fun t1 =>
     run_z46 (.p26932 l1 bit7 (0 : Int) t1.2.1.1 B2_0 B2_1 B3_0 B3_1 t1.1.1.1 t1.1.1.2.1 ([] : List machine_signal) t1.2.2.1 t1.2.2.2.1)
   else
     (idx l1 (0 : Int)) >>= fun t2 =>
     some (((t2.node, (t2.width, ())), ()), ((B0, ((), ((), ((), ((), ((), ((), ()))))))), (B4, (B5, ()))))
 | .p26932 l1 bit7 i10 B0 B2_0 B2_1 B3_0 B3_1 B4_0 B4_1 B5 B6 B7 =>
   if (decide (i10 < (List.length l1 : Int))) = true then
     (idx l1 (IntKind.wrap .i64 (i10 + (1 : Int)))) >>= fun t1 =>
     (idx l1 i10) >>= fun t2 =>
     (run_z45 (.start B4_0 B4_1 t1.node t1.width t2.node t2.width B0 B6 B7)) >>= fun t3 =>
     if (fits (List.length B5) (List.length ([(⟨t3.1.1.1, t3.1.1.2.1⟩ : machine_signal)] : List machine_signal)) 16) = true then
       run_z46 (.p26932 l1 bit7 (IntKind.wrap .i64 (i10 + (2 : Int))) t3.2.1.1 B2_0 B2_1 B3_0 B3_1 B4_0 B4_1 (B5 ++ ([(⟨t3.1.1.1, t3.1.1.2.1⟩ : machine_signal)] : List machine_signal)) t3.2.2.1 t3.2.2.2.1)
     else none
   else
     run_z46 (.p52 B5 (IntKind.wrap .i64 (bit7 + (1 : Int))) B0 B2_0 B2_1 B3_0 B3_1 B6 B7)
  partial_fixpoint
noncomputable def tab_z46 : List (Plc E P_z46) := [⟨52, [false, false, true, false, true], { slots := [1, 3, 5, 6, 7], rows := [], flat := [(1, 133)], keep := 1, done := [1] }, ((List machine_signal) × (Unit × (Unit × (Unit × (Int × Unit))))), ((ByteArray × (Unit × (Unit × (Unit × (Unit × (Unit × (Unit × Unit))))))) × ((Unit × Unit) × ((Int × (Int × Unit)) × ((Int × (Int × Unit)) × ((List api_Element) × ((List api_Node) × Unit)))))), (RdL.cons (Rd.sl 133 false) (RdL.cons (Rd.bp 1 0) (RdL.cons (Rd.bp 2 0) (RdL.cons (Rd.bp 3 0) (RdL.cons (Rd.int .i64) RdL.nil))))), (RdBL.cons (RdB.var 75 (RdL.cons Rd.str (RdL.cons Rd.nl (RdL.cons (Rd.rw 4) (RdL.cons (Rd.rw 5) (RdL.cons Rd.nl (RdL.cons Rd.nl (RdL.cons Rd.nl RdL.nil)))))))) (RdBL.cons (RdB.var 131 (RdL.cons (Rd.bp 0 0) RdL.nil)) (RdBL.cons (RdB.var 133 (RdL.cons (Rd.int .i64) (RdL.cons (Rd.int .i64) RdL.nil))) (RdBL.cons (RdB.var 133 (RdL.cons (Rd.int .i64) (RdL.cons (Rd.int .i64) RdL.nil))) (RdBL.cons (RdB.row 82 true) (RdBL.cons (RdB.row 208 true) RdBL.nil)))))), fun a b => .p52 a.1 a.2.2.2.2.1 b.1.1 b.2.2.1.1 b.2.2.1.2.1 b.2.2.2.1.1 b.2.2.2.1.2.1 b.2.2.2.2.1 b.2.2.2.2.2.1⟩,
  ⟨26932, [false, false, true, false, true, true, false, false, true, false, false, true, false, true], { slots := [1, 3, 5, 6, 7, 8, 9, 10], rows := [(9, 133)], flat := [], keep := 1 }, ((List machine_signal) × (Unit × (Unit × (Unit × (Int × (Unit × (Unit × (Int × Unit)))))))), ((ByteArray × (Unit × (Unit × (Unit × (Unit × (Unit × (Unit × Unit))))))) × ((Unit × Unit) × ((Int × (Int × Unit)) × ((Int × (Int × Unit)) × ((Int × (Int × Unit)) × ((List machine_signal) × ((List api_Element) × ((List api_Node) × Unit)))))))), (RdL.cons (Rd.sl 133 false) (RdL.cons (Rd.bp 1 0) (RdL.cons (Rd.bp 2 0) (RdL.cons (Rd.bp 3 0) (RdL.cons (Rd.int .i64) (RdL.cons (Rd.bp 4 0) (RdL.cons (Rd.rw 5) (RdL.cons (Rd.int .i64) RdL.nil)))))))), (RdBL.cons (RdB.var 75 (RdL.cons Rd.str (RdL.cons Rd.nl (RdL.cons (Rd.rw 6) (RdL.cons (Rd.rw 7) (RdL.cons Rd.nl (RdL.cons Rd.nl (RdL.cons Rd.nl RdL.nil)))))))) (RdBL.cons (RdB.var 131 (RdL.cons (Rd.bp 0 0) RdL.nil)) (RdBL.cons (RdB.var 133 (RdL.cons (Rd.int .i64) (RdL.cons (Rd.int .i64) RdL.nil))) (RdBL.cons (RdB.var 133 (RdL.cons (Rd.int .i64) (RdL.cons (Rd.int .i64) RdL.nil))) (RdBL.cons (RdB.var 133 (RdL.cons (Rd.int .i64) (RdL.cons (Rd.int .i64) RdL.nil))) (RdBL.cons (RdB.row 133 false) (RdBL.cons (RdB.row 82 true) (RdBL.cons (RdB.row 208 true) RdBL.nil)))))))), fun a b => .p26932 a.1 a.2.2.2.2.1 a.2.2.2.2.2.2.2.1 b.1.1 b.2.2.1.1 b.2.2.1.2.1 b.2.2.2.1.1 b.2.2.2.1.2.1 b.2.2.2.2.1.1 b.2.2.2.2.1.2.1 b.2.2.2.2.2.1 b.2.2.2.2.2.2.1 b.2.2.2.2.2.2.2.1⟩]
theorem tab_z46_ok : All (PlcOk 45 1 place_z46 st_z46) tab_z46 := ⟨⟨rfl, rfl, fun _ _ => rfl, fun _ _ => rfl⟩, ⟨⟨rfl, rfl, fun _ _ => rfl, fun _ _ => rfl⟩, trivial⟩⟩
noncomputable def code_z46 : Code := Tryz.f161.body.getD .skip
noncomputable def spec_z46 : Spec E.S := (Con.add con_z45 (Con.add con_z44 noSpec))
theorem spec_z46_ok : SpecOk E spec_z46 := (Con.add_ok con_z45_ok (Con.add_ok con_z44_ok noSpec_ok))
theorem good_z46 : ∀ pt r, run_z46 pt = some r → Good E Tryz.f161 code_z46 1 (res_z46.av r) (res_z46.bx r) (place_z46 pt) (st_z46 pt) := by
  refine run_z46.partial_correctness (fun pt r => Good E Tryz.f161 code_z46 1 (res_z46.av r) (res_z46.bx r) (place_z46 pt) (st_z46 pt)) ?_
  intro run' ih pt r hr
  cases pt <;> exact fn_step (spec := spec_z46) (wr := (mkWr [] [])) (l := tab_z46) (z := 45) (p := res_z46) E_ok tab_z46_ok.mem rfl spec_z46_ok ih (Eq.trans (by kernel_rfl) hr)
noncomputable def con_z46 : Con E := ⟨161, ((Unit × Unit) × ((List machine_signal) × ((Int × (Int × Unit)) × Unit))), ((ByteArray × (Unit × (Unit × (Unit × (Unit × (Unit × (Unit × Unit))))))) × ((List api_Element) × ((List api_Node) × Unit))), (RwL.cons (Rw.agg (RwL.cons (Rd.bp 0 0).w RwL.nil)) (RwL.cons (Rw.sl 133) (RwL.cons (Rw.agg (RwL.cons (Rd.int .i64).w (RwL.cons (Rd.int .i64).w RwL.nil))) RwL.nil))), (RdBL.cons (RdB.var 75 (RdL.cons Rd.str (RdL.cons Rd.nl (RdL.cons (Rd.rw 1) (RdL.cons (Rd.rw 2) (RdL.cons Rd.nl (RdL.cons Rd.nl (RdL.cons Rd.nl RdL.nil)))))))) (RdBL.cons (RdB.row 82 true) (RdBL.cons (RdB.row 208 true) RdBL.nil))), 1, R_z46, fun a b => run_z46 (.start a.2.1 a.2.2.1.1 a.2.2.1.2.1 b.1.1 b.2.1 b.2.2.1), res_z46.av, res_z46.bx⟩
theorem con_z46_ok : con_z46.Ok := fun a b r h => fn_ok (fn := Tryz.f161) (code := code_z46) E_ok (by kernel_rfl) (by kernel_rfl) (by kernel_rfl) (Nat.le_of_ble_eq_true rfl) (good_z46 (.start a.2.1 a.2.2.1.1 a.2.2.1.2.1 b.1.1 b.2.1 b.2.2.1) r h)

/-! ### ratchet/machine.write -/
inductive P_z47 where
 | start (element0 : Int) (when1_0 : Int) (when1_1 : Int) (value2_0 : Int) (value2_1 : Int)
noncomputable def place_z47 : P_z47 → List Bool
 | .start .. => []
noncomputable def st_z47 : P_z47 → St E.S
 | .start element0 when1_0 when1_1 value2_0 value2_1 => st0 13 [.v (.int .i64 element0), .agg [.v (.int .i64 when1_0), .v (.int .i64 when1_1)], .agg [.v (.int .i64 value2_0), .v (.int .i64 value2_1)]] []
abbrev R_z47 : Type := (((Int × (Int × (Int × Unit))) × Unit) × Unit)
noncomputable def res_z47 : Res E ((Int × (Int × (Int × Unit))) × Unit) Unit := { rows := [], flat := [], keep := 0, done := [0], rl := (RdL.cons (Rd.agg (RdL.cons (Rd.int .i64) (RdL.cons (Rd.int .i64) (RdL.cons (Rd.int .i64) RdL.nil)))) RdL.nil), rb := RdBL.nil }
noncomputable def run_z47 : P_z47 → Option R_z47
 | .start element0 when1_0 when1_1 value2_0 value2_1 =>
   some (((element0, (when1_0, (value2_0, ()))), ()), ())
noncomputable def tab_z47 : List (Plc E P_z47) := []
theorem tab_z47_ok : All (PlcOk 13 0 place_z47 st_z47) tab_z47 := trivial
noncomputable def code_z47 : Code := Tryz.f131.body.getD .skip
noncomputable def spec_z47 : Spec E.S := noSpec
theorem spec_z47_ok : SpecOk E spec_z47 := noSpec_ok
theorem good_z47 : ∀ pt r, run_z47 pt = some r → Good E Tryz.f131 code_z47 0 (res_z47.av r) (res_z47.bx r) (place_z47 pt) (st_z47 pt) := by
  intro pt r hr
  cases pt <;> exact fn_step (spec := spec_z47) (wr := (mkWr [] [])) (l := tab_z47) (z := 13) (p := res_z47) (run' := fun _ => none) E_ok tab_z47_ok.mem rfl spec_z47_ok (fun _ _ h => by cases h) (Eq.trans (by kernel_rfl) hr)
noncomputable def con_z47 : Con E := ⟨131, (Int × ((Int × (Int × Unit)) × ((Int × (Int × Unit)) × Unit))), Unit, (RwL.cons (Rd.int .i64).w (RwL.cons (Rw.agg (RwL.cons (Rd.int .i64).w (RwL.cons (Rd.int .i64).w RwL.nil))) (RwL.cons (Rw.agg (RwL.cons (Rd.int .i64).w (RwL.cons (Rd.int .i64).w RwL.nil))) RwL.nil))), RdBL.nil, 0, R_z47, fun a b => run_z47 (.start a.1 a.2.1.1 a.2.1.2.1 a.2.2.1.1 a.2.2.1.2.1), res_z47.av, res_z47.bx⟩
theorem con_z47_ok : con_z47.Ok := fun a b r h => fn_ok (fn := Tryz.f131) (code := code_z47) E_ok (by kernel_rfl) (by kernel_rfl) (by kernel_rfl) (Nat.le_of_ble_eq_true rfl) (good_z47 (.start a.1 a.2.1.1 a.2.1.2.1 a.2.2.1.1 a.2.2.1.2.1) r h)

/-! ### (ratchet/machine.builder).rule -/
inductive P_z48 where
 | start (name1 : ByteArray) (guard2_0 : Int) (guard2_1 : Int) (writes3 : (List api_Write)) (B0 : ByteArray) (B1 : (List api_Element)) (B2 : (List api_Node))
noncomputable def place_z48 : P_z48 → List Bool
 | .start .. => []
noncomputable def st_z48 : P_z48 → St E.S
 | .start name1 guard2_0 guard2_1 writes3 B0 B1 B2 => st0 24 [.agg [.bp 0 0], .v (.string name1), .agg [.v (.int .i64 guard2_0), .v (.int .i64 guard2_1)], .sl 151 writes3 false] [.var 75 [.v (.string B0), .nl, .rw 1, .rw 2, .nl, .nl, .nl], .row 82 B1 true, .row 208 B2 true]
abbrev R_z48 : Type := (Unit × ((ByteArray × (Unit × (Unit × (Unit × (Unit × (Unit × (Unit × Unit))))))) × ((List api_Element) × ((List api_Node) × ((List api_Rule) × Unit)))))
noncomputable def res_z48 : Res E Unit ((ByteArray × (Unit × (Unit × (Unit × (Unit × (Unit × (Unit × Unit))))))) × ((List api_Element) × ((List api_Node) × ((List api_Rule) × Unit)))) := { rows := [], flat := [], keep := 1, rl := RdL.nil, rb := (RdBL.cons (RdB.var 75 (RdL.cons Rd.str (RdL.cons Rd.nl (RdL.cons (Rd.rw 1) (RdL.cons (Rd.rw 2) (RdL.cons (Rd.rw 3) (RdL.cons Rd.nl (RdL.cons Rd.nl RdL.nil)))))))) (RdBL.cons (RdB.row 82 true) (RdBL.cons (RdB.row 208 true) (RdBL.cons (RdB.row 85 true) RdBL.nil)))) }
noncomputable def run_z48 : P_z48 → Option R_z48
 | .start name1 guard2_0 guard2_1 writes3 B0 B1 B2 =>
   if (fits (List.length ([] : List api_Rule)) (List.length ([(⟨name1, guard2_0, writes3⟩ : api_Rule)] : List api_Rule)) 48) = true then
     some ((), ((B0, ((), ((), ((), ((), ((), ((), ()))))))), (B1, (B2, (([] : List api_Rule) ++ ([(⟨name1, guard2_0, writes3⟩ : api_Rule)] : List api_Rule), ())))))
   else none
noncomputable def tab_z48 : List (Plc E P_z48) := []
theorem tab_z48_ok : All (PlcOk 24 1 place_z48 st_z48) tab_z48 := trivial
noncomputable def code_z48 : Code := Tryz.f133.body.getD .skip
noncomputable def spec_z48 : Spec E.S := noSpec
theorem spec_z48_ok : SpecOk E spec_z48 := noSpec_ok
theorem good_z48 : ∀ pt r, run_z48 pt = some r → Good E Tryz.f133 code_z48 1 (res_z48.av r) (res_z48.bx r) (place_z48 pt) (st_z48 pt) := by
  intro pt r hr
  cases pt <;> exact fn_step (spec := spec_z48) (wr := (mkWr [] [])) (l := tab_z48) (z := 24) (p := res_z48) (run' := fun _ => none) E_ok tab_z48_ok.mem rfl spec_z48_ok (fun _ _ h => by cases h) (Eq.trans (by kernel_rfl) hr)
noncomputable def con_z48 : Con E := ⟨133, ((Unit × Unit) × (ByteArray × ((Int × (Int × Unit)) × ((List api_Write) × Unit)))), ((ByteArray × (Unit × (Unit × (Unit × (Unit × (Unit × (Unit × Unit))))))) × ((List api_Element) × ((List api_Node) × Unit))), (RwL.cons (Rw.agg (RwL.cons (Rd.bp 0 0).w RwL.nil)) (RwL.cons Rd.str.w (RwL.cons (Rw.agg (RwL.cons (Rd.int .i64).w (RwL.cons (Rd.int .i64).w RwL.nil))) (RwL.cons (Rw.sl 151) RwL.nil)))), (RdBL.cons (RdB.var 75 (RdL.cons Rd.str (RdL.cons Rd.nl (RdL.cons (Rd.rw 1) (RdL.cons (Rd.rw 2) (RdL.cons Rd.nl (RdL.cons Rd.nl (RdL.cons Rd.nl RdL.nil)))))))) (RdBL.cons (RdB.row 82 true) (RdBL.cons (RdB.row 208 true) RdBL.nil))), 1, R_z48, fun a b => run_z48 (.start a.2.1 a.2.2.1.1 a.2.2.1.2.1 a.2.2.2.1 b.1.1 b.2.1 b.2.2.1), res_z48.av, res_z48.bx⟩
theorem con_z48_ok : con_z48.Ok := fun a b r h => fn_ok (fn := Tryz.f133) (code := code_z48) E_ok (by kernel_rfl) (by kernel_rfl) (by kernel_rfl) (Nat.le_of_ble_eq_true rfl) (good_z48 (.start a.2.1 a.2.2.1.1 a.2.2.1.2.1 a.2.2.2.1 b.1.1 b.2.1 b.2.2.1) r h)

/-! ### (ratchet/machine.processor).fetch -/
inductive P_z49 where
 | start (p0_0 : Int) (p0_1 : Int) (p0_2 : Int) (p0_3 : Int) (p0_4 : Int) (p0_5 : Int) (p0_6 : Int) (p0_7 : Int) (p0_8 : (List machine_signal)) (p0_9 : (List machine_signal)) (p0_10 : Int) (p0_11 : Int) (l1 : (List api_MachineCode)) (B0 : ByteArray) (B1 : (List api_Element)) (B2 : (List api_Node))
 | p116 (l1 : (List api_MachineCode)) (s7 : Int) (B0 : ByteArray) (B1_0 : Int) (B1_1 : Int) (B1_2 : Int) (B1_3 : Int) (B1_4 : Int) (B1_5 : Int) (B1_6 : Int) (B1_7 : Int) (B1_8 : (List machine_signal)) (B1_9 : (List machine_signal)) (B1_10 : Int) (B1_11 : Int) (B2 : (List machine_signal)) (B3 : (List api_Element)) (B4 : (List api_Node))
 | p14951 (l1 : (List api_MachineCode)) (word6 : Int) (s7 : Int) (B0 : ByteArray) (B1_0 : Int) (B1_1 : Int) (B1_2 : Int) (B1_3 : Int) (B1_4 : Int) (B1_5 : Int) (B1_6 : Int) (B1_7 : Int) (B1_8 : (List machine_signal)) (B1_9 : (List machine_signal)) (B1_10 : Int) (B1_11 : Int) (B2 : (List machine_signal)) (B3 : (List api_Element)) (B4 : (List api_Node))
noncomputable def place_z49 : P_z49 → List Bool
 | .start .. => []
 | .p116 .. => [false, false, true, false, true, true]
 | .p14951 .. => [true, true, true, false, false, true, true, false, false, true, false, true, true]
noncomputable def st_z49 : P_z49 → St E.S
 | .start p0_0 p0_1 p0_2 p0_3 p0_4 p0_5 p0_6 p0_7 p0_8 p0_9 p0_10 p0_11 l1 B0 B1 B2 => st0 58 [.agg [.bp 0 0, .v (.int .i64 p0_0), .v (.int .i64 p0_1), .v (.int .i64 p0_2), .v (.int .i64 p0_3), .v (.int .i64 p0_4), .v (.int .i64 p0_5), .v (.int .i64 p0_6), .v (.int .i64 p0_7), .sl 133 p0_8 false, .sl 133 p0_9 false, .v (.int .i64 p0_10), .v (.int .i64 p0_11)], .sl 40 l1 false] [.var 75 [.v (.string B0), .nl, .rw 1, .rw 2, .nl, .nl, .nl], .row 82 B1 true, .row 208 B2 true]
 | .p116 l1 s7 B0 B1_0 B1_1 B1_2 B1_3 B1_4 B1_5 B1_6 B1_7 B1_8 B1_9 B1_10 B1_11 B2 B3 B4 => mkSt 58 [1, 2, 4, 7] [.sl 40 l1 false, .bp 1 0, .rw 2, .v (.int .i64 s7)] [.var 75 [.v (.string B0), .nl, .rw 3, .rw 4, .nl, .nl, .nl], .var 177 [.bp 0 0, .v (.int .i64 B1_0), .v (.int .i64 B1_1), .v (.int .i64 B1_2), .v (.int .i64 B1_3), .v (.int .i64 B1_4), .v (.int .i64 B1_5), .v (.int .i64 B1_6), .v (.int .i64 B1_7), .sl 133 B1_8 false, .sl 133 B1_9 false, .v (.int .i64 B1_10), .v (.int .i64 B1_11)], .row 133 B2 false, .row 82 B3 true, .row 208 B4 true]
 | .p14951 l1 word6 s7 B0 B1_0 B1_1 B1_2 B1_3 B1_4 B1_5 B1_6 B1_7 B1_8 B1_9 B1_10 B1_11 B2 B3 B4 => mkSt 58 [1, 2, 4, 6, 7] [.sl 40 l1 false, .bp 1 0, .rw 2, .v (.int .i64 word6), .v (.int .i64 s7)] [.var 75 [.v (.string B0), .nl, .rw 3, .rw 4, .nl, .nl, .nl], .var 177 [.bp 0 0, .v (.int .i64 B1_0), .v (.int .i64 B1_1), .v (.int .i64 B1_2), .v (.int .i64 B1_3), .v (.int .i64 B1_4), .v (.int .i64 B1_5), .v (.int .i64 B1_6), .v (.int .i64 B1_7), .sl 133 B1_8 false, .sl 133 B1_9 false, .v (.int .i64 B1_10), .v (.int .i64 B1_11)], .row 133 B2 false, .row 82 B3 true, .row 208 B4 true]
abbrev R_z49 : Type := (Unit × ((ByteArray × (Unit × (Unit × (Unit × (Unit × (Unit × (Unit × Unit))))))) × ((List api_Element) × ((List api_Node) × ((List api_Rule) × Unit)))))
noncomputable def res_z49 : Res E Unit ((ByteArray × (Unit × (Unit × (Unit × (Unit × (Unit × (Unit × Unit))))))) × ((List api_Element) × ((List api_Node) × ((List api_Rule) × Unit)))) := { rows := [], flat := [], keep := 1, rl := RdL.nil, rb := (RdBL.cons (RdB.var 75 (RdL.cons Rd.str (RdL.cons Rd.nl (RdL.cons (Rd.rw 1) (RdL.cons (Rd.rw 2) (RdL.cons (Rd.rw 3) (RdL.cons Rd.nl (RdL.cons Rd.nl RdL.nil)))))))) (RdBL.cons (RdB.row 82 true) (RdBL.cons (RdB.row 208 true) (RdBL.cons (RdB.row 85 true) RdBL.nil)))) }
noncomputable def run_z49 : P_z49 → Option R_z49
 | .start p0_0 p0_1 p0_2 p0_3 p0_4 p0_5 p0_6 p0_7 p0_8 p0_9 p0_10 p0_11 l1 B0 B1 B2 =>
   run_z49 (.p116 l1 (0 : Int) B0 p0_0 p0_1 p0_2 p0_3 p0_4 p0_5 p0_6 p0_7 p0_8 p0_9 p0_10 p0_11 ([] : List machine_signal) B1 B2)
 | .p116 l1 s7 B0 B1_0 B1_1 B1_2 B1_3 B1_4 B1_5 B1_6 B1_7 B1_8 B1_9 B1_10 B1_11 B2 B3 B4 =>
   if (decide (s7 < (16 : Int))) = true then
     if (decide (s7 < (List.length l1 : Int))) = true then
       (idx l1 s7) >>= fun t1 =>
       (run_z41 (.start t1.Op t1.A t1.B t1.N)) >>= fun t2 =>
       run_z49 (.p14951 l1 t2.1.1 s7 B0 B1_0 B1_1 B1_2 B1_3 B1_4 B1_5 B1_6 B1_7 B1_8 B1_9 B1_10 B1_11 B2 B3 B4)
     else
       run_z49 (.p14951 l1 (0 : Int) s7 B0 B1_0 B1_1 B1_2 B1_3 B1_4 B1_5 B1_6 B1_7 B1_8 B1_9 B1_10 B1_11 B2 B3 B4)
   else
     (run_z42 (.start B1_4 B1_5 B0 B3 B4)) >>= fun t3 =>
     (run_z42 (.start B1_2 B1_3 t3.2.1.1 t3.2.2.1 t3.2.2.2.1)) >>= fun t4 =>
     (run_z43 (.start t3.1.1.1 t3.1.1.2.1 t4.1.1.1 t4.1.1.2.1 t4.2.1.1 t4.2.2.1 t4.2.2.2.1)) >>= fun t5 =>
     (run_z46 (.start B2 B1_0 B1_1 t5.2.1.1 t5.2.2.1 t5.2.2.2.1)) >>= fun t6 =>
     (run_z47 (.start (3 : Int) B1_10 B1_11 t6.1.1.1 t6.1.1.2.1)) >>= fun t7 =>
     (run_z47 (.start (2 : Int) B1_10 B1_11 B1_10 B1_11)) >>= fun t8 =>
     (run_z48 (.start (⟨#[102, 101, 116, 99, 104]⟩ : ByteArray) t5.1.1.1 t5.1.1.2.1 ([(⟨t7.1.1.1, t7.1.1.2.1, t7.1.1.2.2.1⟩ : api_Write), (⟨t8.1.1.1, t8.1.1.2.1, t8.1.1.2.2.1⟩ : api_Write)] : List api_Write) t6.2.1.1 t6.2.2.1 t6.2.2.2.1)) >>= fun t9 =>
     some ((), ((t9.2.1.1, ((), ((), ((), ((), ((), ((), ()))))))), (t9.2.2.1, (t9.2.2.2.1, (t9.2.2.2.2.1, ())))))
 | .p14951 l1 word6 s7 B0 B1_0 B1_1 B1_2 B1_3 B1_4 B1_5 B1_6 B1_7 B1_8 B1_9 B1_10 B1_11 B2 B3 B4 =>
   (run_z39 (.start (16 : Int) word6 B0 B3 B4)) >>= fun t1 =>
   if (fits (List.length B2) (List.length ([(⟨t1.1.1.1, t1.1.1.2.1⟩ : machine_signal)] : List machine_signal)) 16) = true then
     run_z49 (.p116 l1 (IntKind.wrap .i64 (s7 + (1 : Int))) t1.2.1.1 B1_0 B1_1 B1_2 B1_3 B1_4 B1_5 B1_6 B1_7 B1_8 B1_9 B1_10 B1_11 (B2 ++ ([(⟨t1.1.1.1, t1.1.1.2.1⟩ : machine_signal)] : List machine_signal)) t1.2.2.1 t1.2.2.2.1)
   else none
  partial_fixpoint
noncomputable def tab_z49 : List (Plc E P_z49) := [⟨116, [false, false, true, false, true, true], { slots := [1, 2, 4, 7], rows := [(4, 133)], flat := [], keep := 1 }, ((List api_MachineCode) × (Unit × (Unit × (Int × Unit)))), ((ByteArray × (Unit × (Unit × (Unit × (Unit × (Unit × (Unit × Unit))))))) × ((Unit × (Int × (Int × (Int × (Int × (Int × (Int × (Int × (Int × ((List machine_signal) × ((List machine_signal) × (Int × (Int × Unit))))))))))))) × ((List machine_signal) × ((List api_Element) × ((List api_Node) × Unit))))), (RdL.cons (Rd.sl 40 false) (RdL.cons (Rd.bp 1 0) (RdL.cons (Rd.rw 2) (RdL.cons (Rd.int .i64) RdL.nil)))), (RdBL.cons (RdB.var 75 (RdL.cons Rd.str (RdL.cons Rd.nl (RdL.cons (Rd.rw 3) (RdL.cons (Rd.rw 4) (RdL.cons Rd.nl (RdL.cons Rd.nl (RdL.cons Rd.nl RdL.nil)))))))) (RdBL.cons (RdB.var 177 (RdL.cons (Rd.bp 0 0) (RdL.cons (Rd.int .i64) (RdL.cons (Rd.int .i64) (RdL.cons (Rd.int .i64) (RdL.cons (Rd.int .i64) (RdL.cons (Rd.int .i64) (RdL.cons (Rd.int .i64) (RdL.cons (Rd.int .i64) (RdL.cons (Rd.int .i64) (RdL.cons (Rd.sl 133 false) (RdL.cons (Rd.sl 133 false) (RdL.cons (Rd.int .i64) (RdL.cons (Rd.int .i64) RdL.nil)))))))))))))) (RdBL.cons (RdB.row 133 false) (RdBL.cons (RdB.row 82 true) (RdBL.cons (RdB.row 208 true) RdBL.nil))))), fun a b => .p116 a.1 a.2.2.2.1 b.1.1 b.2.1.2.1 b.2.1.2.2.1 b.2.1.2.2.2.1 b.2.1.2.2.2.2.1 b.2.1.2.2.2.2.2.1 b.2.1.2.2.2.2.2.2.1 b.2.1.2.2.2.2.2.2.2.1 b.2.1.2.2.2.2.2.2.2.2.1 b.2.1.2.2.2.2.2.2.2.2.2.1 b.2.1.2.2.2.2.2.2.2.2.2.2.1 b.2.1.2.2.2.2.2.2.2.2.2.2.2.1 b.2.1.2.2.2.2.2.2.2.2.2.2.2.2.1 b.2.2.1 b.2.2.2.1 b.2.2.2.2.1⟩,
  ⟨14951, [true, true, true, false, false, true, true, false, false, true, false, true, true], { slots := [1, 2, 4, 6, 7], rows := [], flat := [], keep := 1 }, ((List api_MachineCode) × (Unit × (Unit × (Int × (Int × Unit))))), ((ByteArray × (Unit × (Unit × (Unit × (Unit × (Unit × (Unit × Unit))))))) × ((Unit × (Int × (Int × (Int × (Int × (Int × (Int × (Int × (Int × ((List machine_signal) × ((List machine_signal) × (Int × (Int × Unit))))))))))))) × ((List machine_signal) × ((List api_Element) × ((List api_Node) × Unit))))), (RdL.cons (Rd.sl 40 false) (RdL.cons (Rd.bp 1 0) (RdL.cons (Rd.rw 2) (RdL.cons (Rd.int .i64) (RdL.cons (Rd.int .i64) RdL.nil))))), (RdBL.cons (RdB.var 75 (RdL.cons Rd.str (RdL.cons Rd.nl (RdL.cons (Rd.rw 3) (RdL.cons (Rd.rw 4) (RdL.cons Rd.nl (RdL.cons Rd.nl (RdL.cons Rd.nl RdL.nil)))))))) (RdBL.cons (RdB.var 177 (RdL.cons (Rd.bp 0 0) (RdL.cons (Rd.int .i64) (RdL.cons (Rd.int .i64) (RdL.cons (Rd.int .i64) (RdL.cons (Rd.int .i64) (RdL.cons (Rd.int .i64) (RdL.cons (Rd.int .i64) (RdL.cons (Rd.int .i64) (RdL.cons (Rd.int .i64) (RdL.cons (Rd.sl 133 false) (RdL.cons (Rd.sl 133 false) (RdL.cons (Rd.int .i64) (RdL.cons (Rd.int .i64) RdL.nil)))))))))))))) (RdBL.cons (RdB.row 133 false) (RdBL.cons (RdB.row 82 true) (RdBL.cons (RdB.row 208 true) RdBL.nil))))), fun a b => .p14951 a.1 a.2.2.2.1 a.2.2.2.2.1 b.1.1 b.2.1.2.1 b.2.1.2.2.1 b.2.1.2.2.2.1 b.2.1.2.2.2.2.1 b.2.1.2.2.2.2.2.1 b.2.1.2.2.2.2.2.2.1 b.2.1.2.2.2.2.2.2.2.1 b.2.1.2.2.2.2.2.2.2.2.1 b.2.1.2.2.2.2.2.2.2.2.2.1 b.2.1.2.2.2.2.2.2.2.2.2.2.1 b.2.1.2.2.2.2.2.2.2.2.2.2.2.1 b.2.1.2.2.2.2.2.2.2.2.2.2.2.2.1 b.2.2.1 b.2.2.2.1 b.2.2.2.2.1⟩]
theorem tab_z49_ok : All (PlcOk 58 1 place_z49 st_z49) tab_z49 := ⟨⟨rfl, rfl, fun _ _ => rfl, fun _ _ => rfl⟩, ⟨⟨rfl, rfl, fun _ _ => rfl, fun _ _ => rfl⟩, trivial⟩⟩
noncomputable def code_z49 : Code := Tryz.f109.body.getD .skip
noncomputable def spec_z49 : Spec E.S := (Con.add con_z39 (Con.add con_z48 (Con.add con_z47 (Con.add con_z46 (Con.add con_z43 (Con.add con_z42 (Con.add con_z41 noSpec)))))))
theorem spec_z49_ok : SpecOk E spec_z49 := (Con.add_ok con_z39_ok (Con.add_ok con_z48_ok (Con.add_ok con_z47_ok (Con.add_ok con_z46_ok (Con.add_ok con_z43_ok (Con.add_ok con_z42_ok (Con.add_ok con_z41_ok noSpec_ok)))))))
theorem good_z49 : ∀ pt r, run_z49 pt = some r → Good E Tryz.f109 code_z49 1 (res_z49.av r) (res_z49.bx r) (place_z49 pt) (st_z49 pt) := by
  refine run_z49.partial_correctness (fun pt r => Good E Tryz.f109 code_z49 1 (res_z49.av r) (res_z49.bx r) (place_z49 pt) (st_z49 pt)) ?_
  intro run' ih pt r hr
  cases pt <;> exact fn_step (spec := spec_z49) (wr := (mkWr [] [(15, [4])])) (l := tab_z49) (z := 58) (p := res_z49) E_ok tab_z49_ok.mem rfl spec_z49_ok ih (Eq.trans (by kernel_rfl) hr)
noncomputable def con_z49 : Con E := ⟨109, ((Unit × (Int × (Int × (Int × (Int × (Int × (Int × (Int × (Int × ((List machine_signal) × ((List machine_signal) × (Int × (Int × Unit))))))))))))) × ((List api_MachineCode) × Unit)), ((ByteArray × (Unit × (Unit × (Unit × (Unit × (Unit × (Unit × Unit))))))) × ((List api_Element) × ((List api_Node) × Unit))), (RwL.cons (Rw.agg (RwL.cons (Rd.bp 0 0).w (RwL.cons (Rd.int .i64).w (RwL.cons (Rd.int .i64).w (RwL.cons (Rd.int .i64).w (RwL.cons (Rd.int .i64).w (RwL.cons (Rd.int .i64).w (RwL.cons (Rd.int .i64).w (RwL.cons (Rd.int .i64).w (RwL.cons (Rd.int .i64).w (RwL.cons (Rw.sl 133) (RwL.cons (Rw.sl 133) (RwL.cons (Rd.int .i64).w (RwL.cons (Rd.int .i64).w RwL.nil)))))))))))))) (RwL.cons (Rw.sl 40) RwL.nil)), (RdBL.cons (RdB.var 75 (RdL.cons Rd.str (RdL.cons Rd.nl (RdL.cons (Rd.rw 1) (RdL.cons (Rd.rw 2) (RdL.cons Rd.nl (RdL.cons Rd.nl (RdL.cons Rd.nl RdL.nil)))))))) (RdBL.cons (RdB.row 82 true) (RdBL.cons (RdB.row 208 true) RdBL.nil))), 1, R_z49, fun a b => run_z49 (.start a.1.2.1 a.1.2.2.1 a.1.2.2.2.1 a.1.2.2.2.2.1 a.1.2.2.2.2.2.1 a.1.2.2.2.2.2.2.1 a.1.2.2.2.2.2.2.2.1 a.1.2.2.2.2.2.2.2.2.1 a.1.2.2.2.2.2.2.2.2.2.1 a.1.2.2.2.2.2.2.2.2.2.2.1 a.1.2.2.2.2.2.2.2.2.2.2.2.1 a.1.2.2.2.2.2.2.2.2.2.2.2.2.1 a.2.1 b.1.1 b.2.1 b.2.2.1), res_z49.av, res_z49.bx⟩
theorem con_z49_ok : con_z49.Ok := fun a b r h => fn_ok (fn := Tryz.f109) (code := code_z49) E_ok (by kernel_rfl) (by kernel_rfl) (by kernel_rfl) (Nat.le_of_ble_eq_true rfl) (good_z49 (.start a.1.2.1 a.1.2.2.1 a.1.2.2.2.1 a.1.2.2.2.2.1 a.1.2.2.2.2.2.1 a.1.2.2.2.2.2.2.1 a.1.2.2.2.2.2.2.2.1 a.1.2.2.2.2.2.2.2.2.1 a.1.2.2.2.2.2.2.2.2.2.1 a.1.2.2.2.2.2.2.2.2.2.2.1 a.1.2.2.2.2.2.2.2.2.2.2.2.1 a.1.2.2.2.2.2.2.2.2.2.2.2.2.1 a.2.1 b.1.1 b.2.1 b.2.2.1) r h)

/-! ### (ratchet/machine.builder).node -/
inductive P_z50 where
 | start (op1 : Int) (width2 : Int) (value3 : Int) (args4 : (List machine_signal)) (B0 : ByteArray) (B1 : (List api_Element)) (B2 : (List api_Node)) (B3 : (List api_Rule))
 | p116 (op1 : Int) (width2 : Int) (value3 : Int) (s14 : (List machine_signal)) (s15 : Int) (s16 : Int) (B0 : ByteArray) (B2_0 : Int) (B2_1 : Int) (B3 : (List Int)) (B4 : (List api_Element)) (B5 : (List api_Node)) (B6 : (List api_Rule))
noncomputable def place_z50 : P_z50 → List Bool
 | .start .. => []
 | .p116 .. => [false, false, true, false, true, true]
noncomputable def st_z50 : P_z50 → St E.S
 | .start op1 width2 value3 args4 B0 B1 B2 B3 => st0 51 [.agg [.bp 0 0], .v (.int .i64 op1), .v (.int .i64 width2), .v (.int .i64 value3), .sl 133 args4 false] [.var 75 [.v (.string B0), .nl, .rw 1, .rw 2, .rw 3, .nl, .nl], .row 82 B1 true, .row 208 B2 true, .row 85 B3 true]
 | .p116 op1 width2 value3 s14 s15 s16 B0 B2_0 B2_1 B3 B4 B5 B6 => mkSt 51 [1, 2, 3, 5, 10, 11, 14, 15, 16] [.v (.int .i64 op1), .v (.int .i64 width2), .v (.int .i64 value3), .bp 1 0, .bp 2 0, .rw 3, .sl 133 s14 false, .v (.int .i64 s15), .v (.int .i64 s16)] [.var 75 [.v (.string B0), .nl, .rw 4, .rw 5, .rw 6, .nl, .nl], .var 131 [.bp 0 0], .var 133 [.v (.int .i64 B2_0), .v (.int .i64 B2_1)], .row 3 B3 false, .row 82 B4 true, .row 208 B5 true, .row 85 B6 true]
abbrev R_z50 : Type := (((Int × (Int × Unit)) × Unit) × ((ByteArray × (Unit × (Unit × (Unit × (Unit × (Unit × (Unit × Unit))))))) × ((List api_Element) × ((List api_Node) × ((List api_Rule) × Unit)))))
noncomputable def res_z50 : Res E ((Int × (Int × Unit)) × Unit) ((ByteArray × (Unit × (Unit × (Unit × (Unit × (Unit × (Unit × Unit))))))) × ((List api_Element) × ((List api_Node) × ((List api_Rule) × Unit)))) := { rows := [], flat := [], keep := 1, done := [0], rl := (RdL.cons (Rd.agg (RdL.cons (Rd.int .i64) (RdL.cons (Rd.int .i64) RdL.nil))) RdL.nil), rb := (RdBL.cons (RdB.var 75 (RdL.cons Rd.str (RdL.cons Rd.nl (RdL.cons (Rd.rw 1) (RdL.cons (Rd.rw 2) (RdL.cons (Rd.rw 3) (RdL.cons Rd.nl (RdL.cons Rd.nl RdL.nil)))))))) (RdBL.cons (RdB.row 82 true) (RdBL.cons (RdB.row 208 true) (RdBL.cons (RdB.row 85 true) RdBL.nil)))) }
noncomputable def run_z50 : P_z50 → Option R_z50
 | .start op1 width2 value3 args4 B0 B1 B2 B3 =>
   run_z50 (.p116 op1 width2 value3 args4 (List.length args4 : Int) (0 : Int) B0 (0 : Int) (0 : Int) ([] : List Int) B1 B2 B3)
 | .p116 op1 width2 value3 s14 s15 s16 B0 B2_0 B2_1 B3 B4 B5 B6 =>
   if (decide (s16 < s15)) = true then
     (idx s14 s16) >>= fun t1 =>
     if (fits (List.length B3) (List.length ([t1.node] : List Int)) 8) = true then
       run_z50 (.p116 op1 width2 value3 s14 s15 (IntKind.wrap .i64 (s16 + (1 : Int))) B0 B2_0 B2_1 (B3 ++ ([t1.node] : List Int)) B4 B5 B6)
     else none
   else
     if (fits (List.length B5) (List.length ([(⟨op1, width2, B3, value3⟩ : api_Node)] : List api_Node)) 48) = true then
       some (((IntKind.wrap .i64 ((List.length (B5 ++ ([(⟨op1, width2, B3, value3⟩ : api_Node)] : List api_Node)) : Int) - (1 : Int)), (width2, ())), ()), ((B0, ((), ((), ((), ((), ((), ((), ()))))))), (B4, (B5 ++ ([(⟨op1, width2, B3, value3⟩ : api_Node)] : List api_Node), (B6, ())))))
     else none
  partial_fixpoint
noncomputable def tab_z50 : List (Plc E P_z50) := [⟨116, [false, false, true, false, true, true], { slots := [1, 2, 3, 5, 10, 11, 14, 15, 16], rows := [(11, 3)], flat := [], keep := 1 }, (Int × (Int × (Int × (Unit × (Unit × (Unit × ((List machine_signal) × (Int × (Int × Unit))))))))), ((ByteArray × (Unit × (Unit × (Unit × (Unit × (Unit × (Unit × Unit))))))) × ((Unit × Unit) × ((Int × (Int × Unit)) × ((List Int) × ((List api_Element) × ((List api_Node) × ((List api_Rule) × Unit))))))), (RdL.cons (Rd.int .i64) (RdL.cons (Rd.int .i64) (RdL.cons (Rd.int .i64) (RdL.cons (Rd.bp 1 0) (RdL.cons (Rd.bp 2 0) (RdL.cons (Rd.rw 3) (RdL.cons (Rd.sl 133 false) (RdL.cons (Rd.int .i64) (RdL.cons (Rd.int .i64) RdL.nil))))))))), (RdBL.cons (RdB.var 75 (RdL.cons Rd.str (RdL.cons Rd.nl (RdL.cons (Rd.rw 4) (RdL.cons (Rd.rw 5) (RdL.cons (Rd.rw 6) (RdL.cons Rd.nl (RdL.cons Rd.nl RdL.nil)))))))) (RdBL.cons (RdB.var 131 (RdL.cons (Rd.bp 0 0) RdL.nil)) (RdBL.cons (RdB.var 133 (RdL.cons (Rd.int .i64) (RdL.cons (Rd.int .i64) RdL.nil))) (RdBL.cons (RdB.row 3 false) (RdBL.cons (RdB.row 82 true) (RdBL.cons (RdB.row 208 true) (RdBL.cons (RdB.row 85 true) RdBL.nil))))))), fun a b => .p116 a.1 a.2.1 a.2.2.1 a.2.2.2.2.2.2.1 a.2.2.2.2.2.2.2.1 a.2.2.2.2.2.2.2.2.1 b.1.1 b.2.2.1.1 b.2.2.1.2.1 b.2.2.2.1 b.2.2.2.2.1 b.2.2.2.2.2.1 b.2.2.2.2.2.2.1⟩]
theorem tab_z50_ok : All (PlcOk 51 1 place_z50 st_z50) tab_z50 := ⟨⟨rfl, rfl, fun _ _ => rfl, fun _ _ => rfl⟩, trivial⟩
noncomputable def code_z50 : Code := Tryz.f127.body.getD .skip
noncomputable def spec_z50 : Spec E.S := noSpec
theorem spec_z50_ok : SpecOk E spec_z50 := noSpec_ok
theorem good_z50 : ∀ pt r, run_z50 pt = some r → Good E Tryz.f127 code_z50 1 (res_z50.av r) (res_z50.bx r) (place_z50 pt) (st_z50 pt) := by
  refine run_z50.partial_correctness (fun pt r => Good E Tryz.f127 code_z50 1 (res_z50.av r) (res_z50.bx r) (place_z50 pt) (st_z50 pt)) ?_
  intro run' ih pt r hr
  cases pt <;> exact fn_step (spec := spec_z50) (wr := (mkWr [] [(30, [11])])) (l := tab_z50) (z := 51) (p := res_z50) E_ok tab_z50_ok.mem rfl spec_z50_ok ih (Eq.trans (by kernel_rfl) hr)
noncomputable def con_z50 : Con E := ⟨127, ((Unit × Unit) × (Int × (Int × (Int × ((List machine_signal) × Unit))))), ((ByteArray × (Unit × (Unit × (Unit × (Unit × (Unit × (Unit × Unit))))))) × ((List api_Element) × ((List api_Node) × ((List api_Rule) × Unit)))), (RwL.cons (Rw.agg (RwL.cons (Rd.bp 0 0).w RwL.nil)) (RwL.cons (Rd.int .i64).w (RwL.cons (Rd.int .i64).w (RwL.cons (Rd.int .i64).w (RwL.cons (Rw.sl 133) RwL.nil))))), (RdBL.cons (RdB.var 75 (RdL.cons Rd.str (RdL.cons Rd.nl (RdL.cons (Rd.rw 1) (RdL.cons (Rd.rw 2) (RdL.cons (Rd.rw 3) (RdL.cons Rd.nl (RdL.cons Rd.nl RdL.nil)))))))) (RdBL.cons (RdB.row 82 true) (RdBL.cons (RdB.row 208 true) (RdBL.cons (RdB.row 85 true) RdBL.nil)))), 1, R_z50, fun a b => run_z50 (.start a.2.1 a.2.2.1 a.2.2.2.1 a.2.2.2.2.1 b.1.1 b.2.1 b.2.2.1 b.2.2.2.1), res_z50.av, res_z50.bx⟩
theorem con_z50_ok : con_z50.Ok := fun a b r h => fn_ok (fn := Tryz.f127) (code := code_z50) E_ok (by kernel_rfl) (by kernel_rfl) (by kernel_rfl) (Nat.le_of_ble_eq_true rfl) (good_z50 (.start a.2.1 a.2.2.1 a.2.2.2.1 a.2.2.2.2.1 b.1.1 b.2.1 b.2.2.1 b.2.2.2.1) r h)

/-! ### (ratchet/machine.builder).slice -/
inductive P_z51 where
 | start (x1_0 : Int) (x1_1 : Int) (low2 : Int) (width3 : Int) (B0 : ByteArray) (B1 : (List api_Element)) (B2 : (List api_Node)) (B3 : (List api_Rule))
noncomputable def place_z51 : P_z51 → List Bool
 | .start .. => []
noncomputable def st_z51 : P_z51 → St E.S
 | .start x1_0 x1_1 low2 width3 B0 B1 B2 B3 => st0 15 [.agg [.bp 0 0], .agg [.v (.int .i64 x1_0), .v (.int .i64 x1_1)], .v (.int .i64 low2), .v (.int .i64 width3)] [.var 75 [.v (.string B0), .nl, .rw 1, .rw 2, .rw 3, .nl, .nl], .row 82 B1 true, .row 208 B2 true, .row 85 B3 true]
abbrev R_z51 : Type := (((Int × (Int × Unit)) × Unit) × ((ByteArray × (Unit × (Unit × (Unit × (Unit × (Unit × (Unit × Unit))))))) × ((List api_Element) × ((List api_Node) × ((List api_Rule) × Unit)))))
noncomputable def res_z51 : Res E ((Int × (Int × Unit)) × Unit) ((ByteArray × (Unit × (Unit × (Unit × (Unit × (Unit × (Unit × Unit))))))) × ((List api_Element) × ((List api_Node) × ((List api_Rule) × Unit)))) := { rows := [], flat := [], keep := 1, done := [0], rl := (RdL.cons (Rd.agg (RdL.cons (Rd.int .i64) (RdL.cons (Rd.int .i64) RdL.nil))) RdL.nil), rb := (RdBL.cons (RdB.var 75 (RdL.cons Rd.str (RdL.cons Rd.nl (RdL.cons (Rd.rw 1) (RdL.cons (Rd.rw 2) (RdL.cons (Rd.rw 3) (RdL.cons Rd.nl (RdL.cons Rd.nl RdL.nil)))))))) (RdBL.cons (RdB.row 82 true) (RdBL.cons (RdB.row 208 true) (RdBL.cons (RdB.row 85 true) RdBL.nil)))) }
noncomputable def run_z51 : P_z51 → Option R_z51
 | .start x1_0 x1_1 low2 width3 B0 B1 B2 B3 =>
   (run_z50 (.start (14 : Int) width3 low2 ([(⟨x1_0, x1_1⟩ : machine_signal)] : List machine_signal) B0 B1 B2 B3)) >>= fun t1 =>
   some (((t1.1.1.1, (t1.1.1.2.1, ())), ()), ((t1.2.1.1, ((), ((), ((), ((), ((), ((), ()))))))), (t1.2.2.1, (t1.2.2.2.1, (t1.2.2.2.2.1, ())))))
noncomputable def tab_z51 : List (Plc E P_z51) := []
theorem tab_z51_ok : All (PlcOk 15 1 place_z51 st_z51) tab_z51 := trivial
noncomputable def code_z51 : Code := Tryz.f162.body.getD .skip
noncomputable def spec_z51 : Spec E.S := (Con.add con_z50 noSpec)
theorem spec_z51_ok : SpecOk E spec_z51 := (Con.add_ok con_z50_ok noSpec_ok)
theorem good_z51 : ∀ pt r, run_z51 pt = some r → Good E Tryz.f162 code_z51 1 (res_z51.av r) (res_z51.bx r) (place_z51 pt) (st_z51 pt) := by
  intro pt r hr
  cases pt <;> exact fn_step (spec := spec_z51) (wr := (mkWr [] [])) (l := tab_z51) (z := 15) (p := res_z51) (run' := fun _ => none) E_ok tab_z51_ok.mem rfl spec_z51_ok (fun _ _ h => by cases h) (Eq.trans (by kernel_rfl) hr)
noncomputable def con_z51 : Con E := ⟨162, ((Unit × Unit) × ((Int × (Int × Unit)) × (Int × (Int × Unit)))), ((ByteArray × (Unit × (Unit × (Unit × (Unit × (Unit × (Unit × Unit))))))) × ((List api_Element) × ((List api_Node) × ((List api_Rule) × Unit)))), (RwL.cons (Rw.agg (RwL.cons (Rd.bp 0 0).w RwL.nil)) (RwL.cons (Rw.agg (RwL.cons (Rd.int .i64).w (RwL.cons (Rd.int .i64).w RwL.nil))) (RwL.cons (Rd.int .i64).w (RwL.cons (Rd.int .i64).w RwL.nil)))), (RdBL.cons (RdB.var 75 (RdL.cons Rd.str (RdL.cons Rd.nl (RdL.cons (Rd.rw 1) (RdL.cons (Rd.rw 2) (RdL.cons (Rd.rw 3) (RdL.cons Rd.nl (RdL.cons Rd.nl RdL.nil)))))))) (RdBL.cons (RdB.row 82 true) (RdBL.cons (RdB.row 208 true) (RdBL.cons (RdB.row 85 true) RdBL.nil)))), 1, R_z51, fun a b => run_z51 (.start a.2.1.1 a.2.1.2.1 a.2.2.1 a.2.2.2.1 b.1.1 b.2.1 b.2.2.1 b.2.2.2.1), res_z51.av, res_z51.bx⟩
theorem con_z51_ok : con_z51.Ok := fun a b r h => fn_ok (fn := Tryz.f162) (code := code_z51) E_ok (by kernel_rfl) (by kernel_rfl) (by kernel_rfl) (Nat.le_of_ble_eq_true rfl) (good_z51 (.start a.2.1.1 a.2.1.2.1 a.2.2.1 a.2.2.2.1 b.1.1 b.2.1 b.2.2.1 b.2.2.2.1) r h)

/-! ### (ratchet/machine.builder).mux -/
inductive P_z52 where
 | start (c1_0 : Int) (c1_1 : Int) (x2_0 : Int) (x2_1 : Int) (y3_0 : Int) (y3_1 : Int) (B0 : ByteArray) (B1 : (List api_Element)) (B2 : (List api_Node)) (B3 : (List api_Rule))
noncomputable def place_z52 : P_z52 → List Bool
 | .start .. => []
noncomputable def st_z52 : P_z52 → St E.S
 | .start c1_0 c1_1 x2_0 x2_1 y3_0 y3_1 B0 B1 B2 B3 => st0 17 [.agg [.bp 0 0], .agg [.v (.int .i64 c1_0), .v (.int .i64 c1_1)], .agg [.v (.int .i64 x2_0), .v (.int .i64 x2_1)], .agg [.v (.int .i64 y3_0), .v (.int .i64 y3_1)]] [.var 75 [.v (.string B0), .nl, .rw 1, .rw 2, .rw 3, .nl, .nl], .row 82 B1 true, .row 208 B2 true, .row 85 B3 true]
abbrev R_z52 : Type := (((Int × (Int × Unit)) × Unit) × ((ByteArray × (Unit × (Unit × (Unit × (Unit × (Unit × (Unit × Unit))))))) × ((List api_Element) × ((List api_Node) × ((List api_Rule) × Unit)))))
noncomputable def res_z52 : Res E ((Int × (Int × Unit)) × Unit) ((ByteArray × (Unit × (Unit × (Unit × (Unit × (Unit × (Unit × Unit))))))) × ((List api_Element) × ((List api_Node) × ((List api_Rule) × Unit)))) := { rows := [], flat := [], keep := 1, done := [0], rl := (RdL.cons (Rd.agg (RdL.cons (Rd.int .i64) (RdL.cons (Rd.int .i64) RdL.nil))) RdL.nil), rb := (RdBL.cons (RdB.var 75 (RdL.cons Rd.str (RdL.cons Rd.nl (RdL.cons (Rd.rw 1) (RdL.cons (Rd.rw 2) (RdL.cons (Rd.rw 3) (RdL.cons Rd.nl (RdL.cons Rd.nl RdL.nil)))))))) (RdBL.cons (RdB.row 82 true) (RdBL.cons (RdB.row 208 true) (RdBL.cons (RdB.row 85 true) RdBL.nil)))) }
noncomputable def run_z52 : P_z52 → Option R_z52
 | .start c1_0 c1_1 x2_0 x2_1 y3_0 y3_1 B0 B1 B2 B3 =>
   (run_z50 (.start (12 : Int) x2_1 (0 : Int) ([(⟨c1_0, c1_1⟩ : machine_signal), (⟨x2_0, x2_1⟩ : machine_signal), (⟨y3_0, y3_1⟩ : machine_signal)] : List machine_signal) B0 B1 B2 B3)) >>= fun t1 =>
   some (((t1.1.1.1, (t1.1.1.2.1, ())), ()), ((t1.2.1.1, ((), ((), ((), ((), ((), ((), ()))))))), (t1.2.2.1, (t1.2.2.2.1, (t1.2.2.2.2.1, ())))))
noncomputable def tab_z52 : List (Plc E P_z52) := []
theorem tab_z52_ok : All (PlcOk 17 1 place_z52 st_z52) tab_z52 := trivial
noncomputable def code_z52 : Code := Tryz.f163.body.getD .skip
noncomputable def spec_z52 : Spec E.S := (Con.add con_z50 noSpec)
theorem spec_z52_ok : SpecOk E spec_z52 := (Con.add_ok con_z50_ok noSpec_ok)
theorem good_z52 : ∀ pt r, run_z52 pt = some r → Good E Tryz.f163 code_z52 1 (res_z52.av r) (res_z52.bx r) (place_z52 pt) (st_z52 pt) := by
  intro pt r hr
  cases pt <;> exact fn_step (spec := spec_z52) (wr := (mkWr [] [])) (l := tab_z52) (z := 17) (p := res_z52) (run' := fun _ => none) E_ok tab_z52_ok.mem rfl spec_z52_ok (fun _ _ h => by cases h) (Eq.trans (by kernel_rfl) hr)
noncomputable def con_z52 : Con E := ⟨163, ((Unit × Unit) × ((Int × (Int × Unit)) × ((Int × (Int × Unit)) × ((Int × (Int × Unit)) × Unit)))), ((ByteArray × (Unit × (Unit × (Unit × (Unit × (Unit × (Unit × Unit))))))) × ((List api_Element) × ((List api_Node) × ((List api_Rule) × Unit)))), (RwL.cons (Rw.agg (RwL.cons (Rd.bp 0 0).w RwL.nil)) (RwL.cons (Rw.agg (RwL.cons (Rd.int .i64).w (RwL.cons (Rd.int .i64).w RwL.nil))) (RwL.cons (Rw.agg (RwL.cons (Rd.int .i64).w (RwL.cons (Rd.int .i64).w RwL.nil))) (RwL.cons (Rw.agg (RwL.cons (Rd.int .i64).w (RwL.cons (Rd.int .i64).w RwL.nil))) RwL.nil)))), (RdBL.cons (RdB.var 75 (RdL.cons Rd.str (RdL.cons Rd.nl (RdL.cons (Rd.rw 1) (RdL.cons (Rd.rw 2) (RdL.cons (Rd.rw 3) (RdL.cons Rd.nl (RdL.cons Rd.nl RdL.nil)))))))) (RdBL.cons (RdB.row 82 true) (RdBL.cons (RdB.row 208 true) (RdBL.cons (RdB.row 85 true) RdBL.nil)))), 1, R_z52, fun a b => run_z52 (.start a.2.1.1 a.2.1.2.1 a.2.2.1.1 a.2.2.1.2.1 a.2.2.2.1.1 a.2.2.2.1.2.1 b.1.1 b.2.1 b.2.2.1 b.2.2.2.1), res_z52.av, res_z52.bx⟩
theorem con_z52_ok : con_z52.Ok := fun a b r h => fn_ok (fn := Tryz.f163) (code := code_z52) E_ok (by kernel_rfl) (by kernel_rfl) (by kernel_rfl) (Nat.le_of_ble_eq_true rfl) (good_z52 (.start a.2.1.1 a.2.1.2.1 a.2.2.1.1 a.2.2.1.2.1 a.2.2.2.1.1 a.2.2.2.1.2.1 b.1.1 b.2.1 b.2.2.1 b.2.2.2.1) r h)

/-! ### (ratchet/machine.builder).chosen -/
inductive P_z53 where
 | start (l1 : (List machine_signal)) (number2_0 : Int) (number2_1 : Int) (B0 : ByteArray) (B1 : (List api_Element)) (B2 : (List api_Node)) (B3 : (List api_Rule))
 | p52 (l1 : (List machine_signal)) (bit7 : Int) (B0 : ByteArray) (B2_0 : Int) (B2_1 : Int) (B3_0 : Int) (B3_1 : Int) (B4 : (List api_Element)) (B5 : (List api_Node)) (B6 : (List api_Rule))
 | p26932 (l1 : (List machine_signal)) (bit7 : Int) (i10 : Int) (B0 : ByteArray) (B2_0 : Int) (B2_1 : Int) (B3_0 : Int) (B3_1 : Int) (B4_0 : Int) (B4_1 : Int) (B5 : (List machine_signal)) (B6 : (List api_Element)) (B7 : (List api_Node)) (B8 : (List api_Rule))
noncomputable def place_z53 : P_z53 → List Bool
 | .start .. => []
 | .p52 .. => [false, false, true, false, true]
 | .p26932 .. => [false, false, true, false, true, true, false, false, true, false, false, true, false, true]
noncomputable def st_z53 : P_z53 → St E.S
 | .start l1 number2_0 number2_1 B0 B1 B2 B3 => st0 45 [.agg [.bp 0 0], .sl 133 l1 false, .agg [.v (.int .i64 number2_0), .v (.int .i64 number2_1)]] [.var 75 [.v (.string B0), .nl, .rw 1, .rw 2, .rw 3, .nl, .nl], .row 82 B1 true, .row 208 B2 true, .row 85 B3 true]
 | .p52 l1 bit7 B0 B2_0 B2_1 B3_0 B3_1 B4 B5 B6 => mkSt 45 [1, 3, 5, 6, 7] [.sl 133 l1 false, .bp 1 0, .bp 2 0, .bp 3 0, .v (.int .i64 bit7)] [.var 75 [.v (.string B0), .nl, .rw 4, .rw 5, .rw 6, .nl, .nl], .var 131 [.bp 0 0], .var 133 [.v (.int .i64 B2_0), .v (.int .i64 B2_1)], .var 133 [.v (.int .i64 B3_0), .v (.int .i64 B3_1)], .row 82 B4 true, .row 208 B5 true, .row 85 B6 true]
 | .p26932 l1 bit7 i10 B0 B2_0 B2_1 B3_0 B3_1 B4_0 B4_1 B5 B6 B7 B8 => mkSt 45 [1, 3, 5, 6, 7, 8, 9, 10] [.sl 133 l1 false, .bp 1 0, .bp 2 0, .bp 3 0, .v (.int .i64 bit7), .bp 4 0, .rw 5, .v (.int .i64 i10)] [.var 75 [.v (.string B0), .nl, .rw 6, .rw 7, .rw 8, .nl, .nl], .var 131 [.bp 0 0], .var 133 [.v (.int .i64 B2_0), .v (.int .i64 B2_1)], .var 133 [.v (.int .i64 B3_0), .v (.int .i64 B3_1)], .var 133 [.v (.int .i64 B4_0), .v (.int .i64 B4_1)], .row 133 B5 false, .row 82 B6 true, .row 208 B7 true, .row 85 B8 true]
abbrev R_z53 : Type := (((Int × (Int × Unit)) × Unit) × ((ByteArray × (Unit × (Unit × (Unit × (Unit × (Unit × (Unit × Unit))))))) × ((List api_Element) × ((List api_Node) × ((List api_Rule) × Unit)))))
noncomputable def res_z53 : Res E ((Int × (Int × Unit)) × Unit) ((ByteArray × (Unit × (Unit × (Unit × (Unit × (Unit × (Unit × Unit))))))) × ((List api_Element) × ((List api_Node) × ((List api_Rule) × Unit)))) := { rows := [], flat := [], keep := 1, done := [0], rl := (RdL.cons (Rd.agg (RdL.cons (Rd.int .i64) (RdL.cons (Rd.int .i64) RdL.nil))) RdL.nil), rb := (RdBL.cons (RdB.var 75 (RdL.cons Rd.str (RdL.cons Rd.nl (RdL.cons (Rd.rw 1) (RdL.cons (Rd.rw 2) (RdL.cons (Rd.rw 3) (RdL.cons Rd.nl (RdL.cons Rd.nl RdL.nil)))))))) (RdBL.cons (RdB.row 82 true) (RdBL.cons (RdB.row 208 true) (RdBL.cons (RdB.row 85 true) RdBL.nil)))) }
noncomputable def run_z53 : P_z53 → Option R_z53
 | .start l1 number2_0 number2_1 B0 B1 B2 B3 =>
   run_z53 (.p52 l1 (0 : Int) B0 number2_0 number2_1 (0 : Int) (0 : Int) B1 B2 B3)
 | .p52 l1 bit7 B0 B2_0 B2_1 B3_0 B3_1 B4 B5 B6 =>
   if (decide ((List.length l1 : Int) > (1 : Int))) = true then
     (run_z51 (.start B2_0 B2_1 bit7 (1 : Int) B0 B4 B5 B6)) >>= fun t1 =>
     run_z53 (.p26932 l1 bit7 (0 : Int) t1.2.1.1 B2_0 B2_1 B3_0 B3_1 t1.1.1.1 t1.1.1.2.1 ([] : List machine_signal) t1.2.2.1 t1.2.2.2.1 t1.2.2.2.2.1)
   else
     (idx l1 (0 : Int)) >>= fun t2 =>
     some (((t2.node, (t2.width, ())), ()), ((B0, ((), ((), ((), ((), ((), ((), ()))))))), (B4, (B5, (B6, ())))))
 | .p26932 l1 bit7 i10 B0 B2_0 B2_1 B3_0 B3_1 B4_0 B4_1 B5 B6 B7 B8 =>
   if (decide (i10 < (List.length l1 : Int))) = true then
     (idx l1 (IntKind.wrap .i64 (i10 + (1 : Int)))) >>= fun t1 =>
     (idx l1 i10) >>= fun t2 =>
     (run_z52 (.start B4_0 B4_1 t1.node t1.width t2.node t2.width B0 B6 B7 B8)) >>= fun t3 =>
     if (fits (List.length B5) (List.length ([(⟨t3.1.1.1, t3.1.1.2.1⟩ : machine_signal)] : List machine_signal)) 16) = true then
       run_z53 (.p26932 l1 bit7 (IntKind.wrap .i64 (i10 + (2 : Int))) t3.2.1.1 B2_0 B2_1 B3_0 B3_1 B4_0 B4_1 (B5 ++ ([(⟨t3.1.1.1, t3.1.1.2.1⟩ : machine_signal)] : List machine_signal)) t3.2.2.1 t3.2.2.2.1 t3.2.2.2.2.1)
     else none
   else
     run_z53 (.p52 B5 (IntKind.wrap .i64 (bit7 + (1 : Int))) B0 B2_0 B2_1 B3_0 B3_1 B6 B7 B8)
  partial_fixpoint
noncomputable def tab_z53 : List (Plc E P_z53) := [⟨52, [false, false, true, false, true], { slots := [1, 3, 5, 6, 7], rows := [], flat := [(1, 133)], keep := 1, done := [1] }, ((List machine_signal) × (Unit × (Unit × (Unit × (Int × Unit))))), ((ByteArray × (Unit × (Unit × (Unit × (Unit × (Unit × (Unit × Unit))))))) × ((Unit × Unit) × ((Int × (Int × Unit)) × ((Int × (Int × Unit)) × ((List api_Element) × ((List api_Node) × ((List api_Rule) × Unit))))))), (RdL.cons (Rd.sl 133 false) (RdL.cons (Rd.bp 1 0) (RdL.cons (Rd.bp 2 0) (RdL.cons (Rd.bp 3 0) (RdL.cons (Rd.int .i64) RdL.nil))))), (RdBL.cons (RdB.var 75 (RdL.cons Rd.str (RdL.cons Rd.nl (RdL.cons (Rd.rw 4) (RdL.cons (Rd.rw 5) (RdL.cons (Rd.rw 6) (RdL.cons Rd.nl (RdL.cons Rd.nl RdL.nil)))))))) (RdBL.cons (RdB.var 131 (RdL.cons (Rd.bp 0 0) RdL.nil)) (RdBL.cons (RdB.var 133 (RdL.cons (Rd.int .i64) (RdL.cons (Rd.int .i64) RdL.nil))) (RdBL.cons (RdB.var 133 (RdL.cons (Rd.int .i64) (RdL.cons (Rd.int .i64) RdL.nil))) (RdBL.cons (RdB.row 82 true) (RdBL.cons (RdB.row 208 true) (RdBL.cons (RdB.row 85 true) RdBL.nil))))))), fun a b => .p52 a.1 a.2.2.2.2.1 b.1.1 b.2.2.1.1 b.2.2.1.2.1 b.2.2.2.1.1 b.2.2.2.1.2.1 b.2.2.2.2.1 b.2.2.2.2.2.1 b.2.2.2.2.2.2.1⟩,
  ⟨26932, [false, false, true, false, true, true, false, false, true, false, false, true, false, true], { slots := [1, 3, 5, 6, 7, 8, 9, 10], rows := [(9, 133)], flat := [], keep := 1 }, ((List machine_signal) × (Unit × (Unit × (Unit × (Int × (Unit × (Unit × (Int × Unit)))))))), ((ByteArray × (Unit × (Unit × (Unit × (Unit × (Unit × (Unit × Unit))))))) × ((Unit × Unit) × ((Int × (Int × Unit)) × ((Int × (Int × Unit)) × ((Int × (Int × Unit)) × ((List machine_signal) × ((List api_Element) × ((List api_Node) × ((List api_Rule) × Unit))))))))), (RdL.cons (Rd.sl 133 false) (RdL.cons (Rd.bp 1 0) (RdL.cons (Rd.bp 2 0) (RdL.cons (Rd.bp 3 0) (RdL.cons (Rd.int .i64) (RdL.cons (Rd.bp 4 0) (RdL.cons (Rd.rw 5) (RdL.cons (Rd.int .i64) RdL.nil)))))))), (RdBL.cons (RdB.var 75 (RdL.cons Rd.str (RdL.cons Rd.nl (RdL.cons (Rd.rw 6) (RdL.cons (Rd.rw 7) (RdL.cons (Rd.rw 8) (RdL.cons Rd.nl (RdL.cons Rd.nl RdL.nil)))))))) (RdBL.cons (RdB.var 131 (RdL.cons (Rd.bp 0 0) RdL.nil)) (RdBL.cons (RdB.var 133 (RdL.cons (Rd.int .i64) (RdL.cons (Rd.int .i64) RdL.nil))) (RdBL.cons (RdB.var 133 (RdL.cons (Rd.int .i64) (RdL.cons (Rd.int .i64) RdL.nil))) (RdBL.cons (RdB.var 133 (RdL.cons (Rd.int .i64) (RdL.cons (Rd.int .i64) RdL.nil))) (RdBL.cons (RdB.row 133 false) (RdBL.cons (RdB.row 82 true) (RdBL.cons (RdB.row 208 true) (RdBL.cons (RdB.row 85 true) RdBL.nil))))))))), fun a b => .p26932 a.1 a.2.2.2.2.1 a.2.2.2.2.2.2.2.1 b.1.1 b.2.2.1.1 b.2.2.1.2.1 b.2.2.2.1.1 b.2.2.2.1.2.1 b.2.2.2.2.1.1 b.2.2.2.2.1.2.1 b.2.2.2.2.2.1 b.2.2.2.2.2.2.1 b.2.2.2.2.2.2.2.1 b.2.2.2.2.2.2.2.2.1⟩]
theorem tab_z53_ok : All (PlcOk 45 1 place_z53 st_z53) tab_z53 := ⟨⟨rfl, rfl, fun _ _ => rfl, fun _ _ => rfl⟩, ⟨⟨rfl, rfl, fun _ _ => rfl, fun _ _ => rfl⟩, trivial⟩⟩
noncomputable def code_z53 : Code := Tryz.f161.body.getD .skip
noncomputable def spec_z53 : Spec E.S := (Con.add con_z52 (Con.add con_z51 noSpec))
theorem spec_z53_ok : SpecOk E spec_z53 := (Con.add_ok con_z52_ok (Con.add_ok con_z51_ok noSpec_ok))
theorem good_z53 : ∀ pt r, run_z53 pt = some r → Good E Tryz.f161 code_z53 1 (res_z53.av r) (res_z53.bx r) (place_z53 pt) (st_z53 pt) := by
  refine run_z53.partial_correctness (fun pt r => Good E Tryz.f161 code_z53 1 (res_z53.av r) (res_z53.bx r) (place_z53 pt) (st_z53 pt)) ?_
  intro run' ih pt r hr
  cases pt <;> exact fn_step (spec := spec_z53) (wr := (mkWr [] [])) (l := tab_z53) (z := 45) (p := res_z53) E_ok tab_z53_ok.mem rfl spec_z53_ok ih (Eq.trans (by kernel_rfl) hr)
noncomputable def con_z53 : Con E := ⟨161, ((Unit × Unit) × ((List machine_signal) × ((Int × (Int × Unit)) × Unit))), ((ByteArray × (Unit × (Unit × (Unit × (Unit × (Unit × (Unit × Unit))))))) × ((List api_Element) × ((List api_Node) × ((List api_Rule) × Unit)))), (RwL.cons (Rw.agg (RwL.cons (Rd.bp 0 0).w RwL.nil)) (RwL.cons (Rw.sl 133) (RwL.cons (Rw.agg (RwL.cons (Rd.int .i64).w (RwL.cons (Rd.int .i64).w RwL.nil))) RwL.nil))), (RdBL.cons (RdB.var 75 (RdL.cons Rd.str (RdL.cons Rd.nl (RdL.cons (Rd.rw 1) (RdL.cons (Rd.rw 2) (RdL.cons (Rd.rw 3) (RdL.cons Rd.nl (RdL.cons Rd.nl RdL.nil)))))))) (RdBL.cons (RdB.row 82 true) (RdBL.cons (RdB.row 208 true) (RdBL.cons (RdB.row 85 true) RdBL.nil)))), 1, R_z53, fun a b => run_z53 (.start a.2.1 a.2.2.1.1 a.2.2.1.2.1 b.1.1 b.2.1 b.2.2.1 b.2.2.2.1), res_z53.av, res_z53.bx⟩
theorem con_z53_ok : con_z53.Ok := fun a b r h => fn_ok (fn := Tryz.f161) (code := code_z53) E_ok (by kernel_rfl) (by kernel_rfl) (by kernel_rfl) (Nat.le_of_ble_eq_true rfl) (good_z53 (.start a.2.1 a.2.2.1.1 a.2.2.1.2.1 b.1.1 b.2.1 b.2.2.1 b.2.2.2.1) r h)

/-! ### (ratchet/machine.builder).and -/
inductive P_z54 where
 | start (x1_0 : Int) (x1_1 : Int) (y2_0 : Int) (y2_1 : Int) (B0 : ByteArray) (B1 : (List api_Element)) (B2 : (List api_Node)) (B3 : (List api_Rule))
noncomputable def place_z54 : P_z54 → List Bool
 | .start .. => []
noncomputable def st_z54 : P_z54 → St E.S
 | .start x1_0 x1_1 y2_0 y2_1 B0 B1 B2 B3 => st0 14 [.agg [.bp 0 0], .agg [.v (.int .i64 x1_0), .v (.int .i64 x1_1)], .agg [.v (.int .i64 y2_0), .v (.int .i64 y2_1)]] [.var 75 [.v (.string B0), .nl, .rw 1, .rw 2, .rw 3, .nl, .nl], .row 82 B1 true, .row 208 B2 true, .row 85 B3 true]
abbrev R_z54 : Type := (((Int × (Int × Unit)) × Unit) × ((ByteArray × (Unit × (Unit × (Unit × (Unit × (Unit × (Unit × Unit))))))) × ((List api_Element) × ((List api_Node) × ((List api_Rule) × Unit)))))
noncomputable def res_z54 : Res E ((Int × (Int × Unit)) × Unit) ((ByteArray × (Unit × (Unit × (Unit × (Unit × (Unit × (Unit × Unit))))))) × ((List api_Element) × ((List api_Node) × ((List api_Rule) × Unit)))) := { rows := [], flat := [], keep := 1, done := [0], rl := (RdL.cons (Rd.agg (RdL.cons (Rd.int .i64) (RdL.cons (Rd.int .i64) RdL.nil))) RdL.nil), rb := (RdBL.cons (RdB.var 75 (RdL.cons Rd.str (RdL.cons Rd.nl (RdL.cons (Rd.rw 1) (RdL.cons (Rd.rw 2) (RdL.cons (Rd.rw 3) (RdL.cons Rd.nl (RdL.cons Rd.nl RdL.nil)))))))) (RdBL.cons (RdB.row 82 true) (RdBL.cons (RdB.row 208 true) (RdBL.cons (RdB.row 85 true) RdBL.nil)))) }
noncomputable def run_z54 : P_z54 → Option R_z54
 | .start x1_0 x1_1 y2_0 y2_1 B0 B1 B2 B3 =>
   (run_z50 (.start (3 : Int) x1_1 (0 : Int) ([(⟨x1_0, x1_1⟩ : machine_signal), (⟨y2_0, y2_1⟩ : machine_signal)] : List machine_signal) B0 B1 B2 B3)) >>= fun t1 =>
   some (((t1.1.1.1, (t1.1.1.2.1, ())), ()), ((t1.2.1.1, ((), ((), ((), ((), ((), ((), ()))))))), (t1.2.2.1, (t1.2.2.2.1, (t1.2.2.2.2.1, ())))))
noncomputable def tab_z54 : List (Plc E P_z54) := []
theorem tab_z54_ok : All (PlcOk 14 1 place_z54 st_z54) tab_z54 := trivial
noncomputable def code_z54 : Code := Tryz.f134.body.getD .skip
noncomputable def spec_z54 : Spec E.S := (Con.add con_z50 noSpec)
theorem spec_z54_ok : SpecOk E spec_z54 := (Con.add_ok con_z50_ok noSpec_ok)
theorem good_z54 : ∀ pt r, run_z54 pt = some r → Good E Tryz.f134 code_z54 1 (res_z54.av r) (res_z54.bx r) (place_z54 pt) (st_z54 pt) := by
  intro pt r hr
  cases pt <;> exact fn_step (spec := spec_z54) (wr := (mkWr [] [])) (l := tab_z54) (z := 14) (p := res_z54) (run' := fun _ => none) E_ok tab_z54_ok.mem rfl spec_z54_ok (fun _ _ h => by cases h) (Eq.trans (by kernel_rfl) hr)
noncomputable def con_z54 : Con E := ⟨134, ((Unit × Unit) × ((Int × (Int × Unit)) × ((Int × (Int × Unit)) × Unit))), ((ByteArray × (Unit × (Unit × (Unit × (Unit × (Unit × (Unit × Unit))))))) × ((List api_Element) × ((List api_Node) × ((List api_Rule) × Unit)))), (RwL.cons (Rw.agg (RwL.cons (Rd.bp 0 0).w RwL.nil)) (RwL.cons (Rw.agg (RwL.cons (Rd.int .i64).w (RwL.cons (Rd.int .i64).w RwL.nil))) (RwL.cons (Rw.agg (RwL.cons (Rd.int .i64).w (RwL.cons (Rd.int .i64).w RwL.nil))) RwL.nil))), (RdBL.cons (RdB.var 75 (RdL.cons Rd.str (RdL.cons Rd.nl (RdL.cons (Rd.rw 1) (RdL.cons (Rd.rw 2) (RdL.cons (Rd.rw 3) (RdL.cons Rd.nl (RdL.cons Rd.nl RdL.nil)))))))) (RdBL.cons (RdB.row 82 true) (RdBL.cons (RdB.row 208 true) (RdBL.cons (RdB.row 85 true) RdBL.nil)))), 1, R_z54, fun a b => run_z54 (.start a.2.1.1 a.2.1.2.1 a.2.2.1.1 a.2.2.1.2.1 b.1.1 b.2.1 b.2.2.1 b.2.2.2.1), res_z54.av, res_z54.bx⟩
theorem con_z54_ok : con_z54.Ok := fun a b r h => fn_ok (fn := Tryz.f134) (code := code_z54) E_ok (by kernel_rfl) (by kernel_rfl) (by kernel_rfl) (Nat.le_of_ble_eq_true rfl) (good_z54 (.start a.2.1.1 a.2.1.2.1 a.2.2.1.1 a.2.2.1.2.1 b.1.1 b.2.1 b.2.2.1 b.2.2.2.1) r h)

/-! ### (ratchet/machine.builder).constant -/
inductive P_z55 where
 | start (width1 : Int) (value2 : Int) (B0 : ByteArray) (B1 : (List api_Element)) (B2 : (List api_Node)) (B3 : (List api_Rule))
noncomputable def place_z55 : P_z55 → List Bool
 | .start .. => []
noncomputable def st_z55 : P_z55 → St E.S
 | .start width1 value2 B0 B1 B2 B3 => st0 11 [.agg [.bp 0 0], .v (.int .i64 width1), .v (.int .i64 value2)] [.var 75 [.v (.string B0), .nl, .rw 1, .rw 2, .rw 3, .nl, .nl], .row 82 B1 true, .row 208 B2 true, .row 85 B3 true]
abbrev R_z55 : Type := (((Int × (Int × Unit)) × Unit) × ((ByteArray × (Unit × (Unit × (Unit × (Unit × (Unit × (Unit × Unit))))))) × ((List api_Element) × ((List api_Node) × ((List api_Rule) × Unit)))))
noncomputable def res_z55 : Res E ((Int × (Int × Unit)) × Unit) ((ByteArray × (Unit × (Unit × (Unit × (Unit × (Unit × (Unit × Unit))))))) × ((List api_Element) × ((List api_Node) × ((List api_Rule) × Unit)))) := { rows := [], flat := [], keep := 1, done := [0], rl := (RdL.cons (Rd.agg (RdL.cons (Rd.int .i64) (RdL.cons (Rd.int .i64) RdL.nil))) RdL.nil), rb := (RdBL.cons (RdB.var 75 (RdL.cons Rd.str (RdL.cons Rd.nl (RdL.cons (Rd.rw 1) (RdL.cons (Rd.rw 2) (RdL.cons (Rd.rw 3) (RdL.cons Rd.nl (RdL.cons Rd.nl RdL.nil)))))))) (RdBL.cons (RdB.row 82 true) (RdBL.cons (RdB.row 208 true) (RdBL.cons (RdB.row 85 true) RdBL.nil)))) }
noncomputable def run_z55 : P_z55 → Option R_z55
 | .start width1 value2 B0 B1 B2 B3 =>
   (run_z50 (.start (0 : Int) width1 value2 ([]) B0 B1 B2 B3)) >>= fun t1 =>
   some (((t1.1.1.1, (t1.1.1.2.1, ())), ()), ((t1.2.1.1, ((), ((), ((), ((), ((), ((), ()))))))), (t1.2.2.1, (t1.2.2.2.1, (t1.2.2.2.2.1, ())))))
noncomputable def tab_z55 : List (Plc E P_z55) := []
theorem tab_z55_ok : All (PlcOk 11 1 place_z55 st_z55) tab_z55 := trivial
noncomputable def code_z55 : Code := Tryz.f85.body.getD .skip
noncomputable def spec_z55 : Spec E.S := (Con.add con_z50 noSpec)
theorem spec_z55_ok : SpecOk E spec_z55 := (Con.add_ok con_z50_ok noSpec_ok)
theorem good_z55 : ∀ pt r, run_z55 pt = some r → Good E Tryz.f85 code_z55 1 (res_z55.av r) (res_z55.bx r) (place_z55 pt) (st_z55 pt) := by
  intro pt r hr
  cases pt <;> exact fn_step (spec := spec_z55) (wr := (mkWr [] [])) (l := tab_z55) (z := 11) (p := res_z55) (run' := fun _ => none) E_ok tab_z55_ok.mem rfl spec_z55_ok (fun _ _ h => by cases h) (Eq.trans (by kernel_rfl) hr)
noncomputable def con_z55 : Con E := ⟨85, ((Unit × Unit) × (Int × (Int × Unit))), ((ByteArray × (Unit × (Unit × (Unit × (Unit × (Unit × (Unit × Unit))))))) × ((List api_Element) × ((List api_Node) × ((List api_Rule) × Unit)))), (RwL.cons (Rw.agg (RwL.cons (Rd.bp 0 0).w RwL.nil)) (RwL.cons (Rd.int .i64).w (RwL.cons (Rd.int .i64).w RwL.nil))), (RdBL.cons (RdB.var 75 (RdL.cons Rd.str (RdL.cons Rd.nl (RdL.cons (Rd.rw 1) (RdL.cons (Rd.rw 2) (RdL.cons (Rd.rw 3) (RdL.cons Rd.nl (RdL.cons Rd.nl RdL.nil)))))))) (RdBL.cons (RdB.row 82 true) (RdBL.cons (RdB.row 208 true) (RdBL.cons (RdB.row 85 true) RdBL.nil)))), 1, R_z55, fun a b => run_z55 (.start a.2.1 a.2.2.1 b.1.1 b.2.1 b.2.2.1 b.2.2.2.1), res_z55.av, res_z55.bx⟩
theorem con_z55_ok : con_z55.Ok := fun a b r h => fn_ok (fn := Tryz.f85) (code := code_z55) E_ok (by kernel_rfl) (by kernel_rfl) (by kernel_rfl) (Nat.le_of_ble_eq_true rfl) (good_z55 (.start a.2.1 a.2.2.1 b.1.1 b.2.1 b.2.2.1 b.2.2.2.1) r h)

/-! ### (ratchet/machine.builder).is -/
inductive P_z56 where
 | start (x1_0 : Int) (x1_1 : Int) (value2 : Int) (B0 : ByteArray) (B1 : (List api_Element)) (B2 : (List api_Node)) (B3 : (List api_Rule))
noncomputable def place_z56 : P_z56 → List Bool
 | .start .. => []
noncomputable def st_z56 : P_z56 → St E.S
 | .start x1_0 x1_1 value2 B0 B1 B2 B3 => st0 16 [.agg [.bp 0 0], .agg [.v (.int .i64 x1_0), .v (.int .i64 x1_1)], .v (.int .i64 value2)] [.var 75 [.v (.string B0), .nl, .rw 1, .rw 2, .rw 3, .nl, .nl], .row 82 B1 true, .row 208 B2 true, .row 85 B3 true]
abbrev R_z56 : Type := (((Int × (Int × Unit)) × Unit) × ((ByteArray × (Unit × (Unit × (Unit × (Unit × (Unit × (Unit × Unit))))))) × ((List api_Element) × ((List api_Node) × ((List api_Rule) × Unit)))))
noncomputable def res_z56 : Res E ((Int × (Int × Unit)) × Unit) ((ByteArray × (Unit × (Unit × (Unit × (Unit × (Unit × (Unit × Unit))))))) × ((List api_Element) × ((List api_Node) × ((List api_Rule) × Unit)))) := { rows := [], flat := [], keep := 1, done := [0], rl := (RdL.cons (Rd.agg (RdL.cons (Rd.int .i64) (RdL.cons (Rd.int .i64) RdL.nil))) RdL.nil), rb := (RdBL.cons (RdB.var 75 (RdL.cons Rd.str (RdL.cons Rd.nl (RdL.cons (Rd.rw 1) (RdL.cons (Rd.rw 2) (RdL.cons (Rd.rw 3) (RdL.cons Rd.nl (RdL.cons Rd.nl RdL.nil)))))))) (RdBL.cons (RdB.row 82 true) (RdBL.cons (RdB.row 208 true) (RdBL.cons (RdB.row 85 true) RdBL.nil)))) }
noncomputable def run_z56 : P_z56 → Option R_z56
 | .start x1_0 x1_1 value2 B0 B1 B2 B3 =>
   (run_z55 (.start x1_1 value2 B0 B1 B2 B3)) >>= fun t1 =>
   (run_z50 (.start (9 : Int) (1 : Int) (0 : Int) ([(⟨x1_0, x1_1⟩ : machine_signal), (⟨t1.1.1.1, t1.1.1.2.1⟩ : machine_signal)] : List machine_signal) t1.2.1.1 t1.2.2.1 t1.2.2.2.1 t1.2.2.2.2.1)) >>= fun t2 =>
   some (((t2.1.1.1, (t2.1.1.2.1, ())), ()), ((t2.2.1.1, ((), ((), ((), ((), ((), ((), ()))))))), (t2.2.2.1, (t2.2.2.2.1, (t2.2.2.2.2.1, ())))))
noncomputable def tab_z56 : List (Plc E P_z56) := []
theorem tab_z56_ok : All (PlcOk 16 1 place_z56 st_z56) tab_z56 := trivial
noncomputable def code_z56 : Code := Tryz.f132.body.getD .skip
noncomputable def spec_z56 : Spec E.S := (Con.add con_z50 (Con.add con_z55 noSpec))
theorem spec_z56_ok : SpecOk E spec_z56 := (Con.add_ok con_z50_ok (Con.add_ok con_z55_ok noSpec_ok))
theorem good_z56 : ∀ pt r, run_z56 pt = some r → Good E Tryz.f132 code_z56 1 (res_z56.av r) (res_z56.bx r) (place_z56 pt) (st_z56 pt) := by
  intro pt r hr
  cases pt <;> exact fn_step (spec := spec_z56) (wr := (mkWr [] [])) (l := tab_z56) (z := 16) (p := res_z56) (run' := fun _ => none) E_ok tab_z56_ok.mem rfl spec_z56_ok (fun _ _ h => by cases h) (Eq.trans (by kernel_rfl) hr)
noncomputable def con_z56 : Con E := ⟨132, ((Unit × Unit) × ((Int × (Int × Unit)) × (Int × Unit))), ((ByteArray × (Unit × (Unit × (Unit × (Unit × (Unit × (Unit × Unit))))))) × ((List api_Element) × ((List api_Node) × ((List api_Rule) × Unit)))), (RwL.cons (Rw.agg (RwL.cons (Rd.bp 0 0).w RwL.nil)) (RwL.cons (Rw.agg (RwL.cons (Rd.int .i64).w (RwL.cons (Rd.int .i64).w RwL.nil))) (RwL.cons (Rd.int .i64).w RwL.nil))), (RdBL.cons (RdB.var 75 (RdL.cons Rd.str (RdL.cons Rd.nl (RdL.cons (Rd.rw 1) (RdL.cons (Rd.rw 2) (RdL.cons (Rd.rw 3) (RdL.cons Rd.nl (RdL.cons Rd.nl RdL.nil)))))))) (RdBL.cons (RdB.row 82 true) (RdBL.cons (RdB.row 208 true) (RdBL.cons (RdB.row 85 true) RdBL.nil)))), 1, R_z56, fun a b => run_z56 (.start a.2.1.1 a.2.1.2.1 a.2.2.1 b.1.1 b.2.1 b.2.2.1 b.2.2.2.1), res_z56.av, res_z56.bx⟩
theorem con_z56_ok : con_z56.Ok := fun a b r h => fn_ok (fn := Tryz.f132) (code := code_z56) E_ok (by kernel_rfl) (by kernel_rfl) (by kernel_rfl) (Nat.le_of_ble_eq_true rfl) (good_z56 (.start a.2.1.1 a.2.1.2.1 a.2.2.1 b.1.1 b.2.1 b.2.2.1 b.2.2.2.1) r h)

/-! ### (ratchet/machine.builder).or -/
inductive P_z57 where
 | start (x1_0 : Int) (x1_1 : Int) (y2_0 : Int) (y2_1 : Int) (B0 : ByteArray) (B1 : (List api_Element)) (B2 : (List api_Node)) (B3 : (List api_Rule))
noncomputable def place_z57 : P_z57 → List Bool
 | .start .. => []
noncomputable def st_z57 : P_z57 → St E.S
 | .start x1_0 x1_1 y2_0 y2_1 B0 B1 B2 B3 => st0 14 [.agg [.bp 0 0], .agg [.v (.int .i64 x1_0), .v (.int .i64 x1_1)], .agg [.v (.int .i64 y2_0), .v (.int .i64 y2_1)]] [.var 75 [.v (.string B0), .nl, .rw 1, .rw 2, .rw 3, .nl, .nl], .row 82 B1 true, .row 208 B2 true, .row 85 B3 true]
abbrev R_z57 : Type := (((Int × (Int × Unit)) × Unit) × ((ByteArray × (Unit × (Unit × (Unit × (Unit × (Unit × (Unit × Unit))))))) × ((List api_Element) × ((List api_Node) × ((List api_Rule) × Unit)))))
noncomputable def res_z57 : Res E ((Int × (Int × Unit)) × Unit) ((ByteArray × (Unit × (Unit × (Unit × (Unit × (Unit × (Unit × Unit))))))) × ((List api_Element) × ((List api_Node) × ((List api_Rule) × Unit)))) := { rows := [], flat := [], keep := 1, done := [0], rl := (RdL.cons (Rd.agg (RdL.cons (Rd.int .i64) (RdL.cons (Rd.int .i64) RdL.nil))) RdL.nil), rb := (RdBL.cons (RdB.var 75 (RdL.cons Rd.str (RdL.cons Rd.nl (RdL.cons (Rd.rw 1) (RdL.cons (Rd.rw 2) (RdL.cons (Rd.rw 3) (RdL.cons Rd.nl (RdL.cons Rd.nl RdL.nil)))))))) (RdBL.cons (RdB.row 82 true) (RdBL.cons (RdB.row 208 true) (RdBL.cons (RdB.row 85 true) RdBL.nil)))) }
noncomputable def run_z57 : P_z57 → Option R_z57
 | .start x1_0 x1_1 y2_0 y2_1 B0 B1 B2 B3 =>
   (run_z50 (.start (4 : Int) x1_1 (0 : Int) ([(⟨x1_0, x1_1⟩ : machine_signal), (⟨y2_0, y2_1⟩ : machine_signal)] : List machine_signal) B0 B1 B2 B3)) >>= fun t1 =>
   some (((t1.1.1.1, (t1.1.1.2.1, ())), ()), ((t1.2.1.1, ((), ((), ((), ((), ((), ((), ()))))))), (t1.2.2.1, (t1.2.2.2.1, (t1.2.2.2.2.1, ())))))
noncomputable def tab_z57 : List (Plc E P_z57) := []
theorem tab_z57_ok : All (PlcOk 14 1 place_z57 st_z57) tab_z57 := trivial
noncomputable def code_z57 : Code := Tryz.f164.body.getD .skip
noncomputable def spec_z57 : Spec E.S := (Con.add con_z50 noSpec)
theorem spec_z57_ok : SpecOk E spec_z57 := (Con.add_ok con_z50_ok noSpec_ok)
theorem good_z57 : ∀ pt r, run_z57 pt = some r → Good E Tryz.f164 code_z57 1 (res_z57.av r) (res_z57.bx r) (place_z57 pt) (st_z57 pt) := by
  intro pt r hr
  cases pt <;> exact fn_step (spec := spec_z57) (wr := (mkWr [] [])) (l := tab_z57) (z := 14) (p := res_z57) (run' := fun _ => none) E_ok tab_z57_ok.mem rfl spec_z57_ok (fun _ _ h => by cases h) (Eq.trans (by kernel_rfl) hr)
noncomputable def con_z57 : Con E := ⟨164, ((Unit × Unit) × ((Int × (Int × Unit)) × ((Int × (Int × Unit)) × Unit))), ((ByteArray × (Unit × (Unit × (Unit × (Unit × (Unit × (Unit × Unit))))))) × ((List api_Element) × ((List api_Node) × ((List api_Rule) × Unit)))), (RwL.cons (Rw.agg (RwL.cons (Rd.bp 0 0).w RwL.nil)) (RwL.cons (Rw.agg (RwL.cons (Rd.int .i64).w (RwL.cons (Rd.int .i64).w RwL.nil))) (RwL.cons (Rw.agg (RwL.cons (Rd.int .i64).w (RwL.cons (Rd.int .i64).w RwL.nil))) RwL.nil))), (RdBL.cons (RdB.var 75 (RdL.cons Rd.str (RdL.cons Rd.nl (RdL.cons (Rd.rw 1) (RdL.cons (Rd.rw 2) (RdL.cons (Rd.rw 3) (RdL.cons Rd.nl (RdL.cons Rd.nl RdL.nil)))))))) (RdBL.cons (RdB.row 82 true) (RdBL.cons (RdB.row 208 true) (RdBL.cons (RdB.row 85 true) RdBL.nil)))), 1, R_z57, fun a b => run_z57 (.start a.2.1.1 a.2.1.2.1 a.2.2.1.1 a.2.2.1.2.1 b.1.1 b.2.1 b.2.2.1 b.2.2.2.1), res_z57.av, res_z57.bx⟩
theorem con_z57_ok : con_z57.Ok := fun a b r h => fn_ok (fn := Tryz.f164) (code := code_z57) E_ok (by kernel_rfl) (by kernel_rfl) (by kernel_rfl) (Nat.le_of_ble_eq_true rfl) (good_z57 (.start a.2.1.1 a.2.1.2.1 a.2.2.1.1 a.2.2.1.2.1 b.1.1 b.2.1 b.2.2.1 b.2.2.2.1) r h)

/-! ### (ratchet/machine.builder).not -/
inductive P_z58 where
 | start (x1_0 : Int) (x1_1 : Int) (B0 : ByteArray) (B1 : (List api_Element)) (B2 : (List api_Node)) (B3 : (List api_Rule))
noncomputable def place_z58 : P_z58 → List Bool
 | .start .. => []
noncomputable def st_z58 : P_z58 → St E.S
 | .start x1_0 x1_1 B0 B1 B2 B3 => st0 11 [.agg [.bp 0 0], .agg [.v (.int .i64 x1_0), .v (.int .i64 x1_1)]] [.var 75 [.v (.string B0), .nl, .rw 1, .rw 2, .rw 3, .nl, .nl], .row 82 B1 true, .row 208 B2 true, .row 85 B3 true]
abbrev R_z58 : Type := (((Int × (Int × Unit)) × Unit) × ((ByteArray × (Unit × (Unit × (Unit × (Unit × (Unit × (Unit × Unit))))))) × ((List api_Element) × ((List api_Node) × ((List api_Rule) × Unit)))))
noncomputable def res_z58 : Res E ((Int × (Int × Unit)) × Unit) ((ByteArray × (Unit × (Unit × (Unit × (Unit × (Unit × (Unit × Unit))))))) × ((List api_Element) × ((List api_Node) × ((List api_Rule) × Unit)))) := { rows := [], flat := [], keep := 1, done := [0], rl := (RdL.cons (Rd.agg (RdL.cons (Rd.int .i64) (RdL.cons (Rd.int .i64) RdL.nil))) RdL.nil), rb := (RdBL.cons (RdB.var 75 (RdL.cons Rd.str (RdL.cons Rd.nl (RdL.cons (Rd.rw 1) (RdL.cons (Rd.rw 2) (RdL.cons (Rd.rw 3) (RdL.cons Rd.nl (RdL.cons Rd.nl RdL.nil)))))))) (RdBL.cons (RdB.row 82 true) (RdBL.cons (RdB.row 208 true) (RdBL.cons (RdB.row 85 true) RdBL.nil)))) }
noncomputable def run_z58 : P_z58 → Option R_z58
 | .start x1_0 x1_1 B0 B1 B2 B3 =>
   (run_z50 (.start (2 : Int) x1_1 (0 : Int) ([(⟨x1_0, x1_1⟩ : machine_signal)] : List machine_signal) B0 B1 B2 B3)) >>= fun t1 =>
   some (((t1.1.1.1, (t1.1.1.2.1, ())), ()), ((t1.2.1.1, ((), ((), ((), ((), ((), ((), ()))))))), (t1.2.2.1, (t1.2.2.2.1, (t1.2.2.2.2.1, ())))))
noncomputable def tab_z58 : List (Plc E P_z58) := []
theorem tab_z58_ok : All (PlcOk 11 1 place_z58 st_z58) tab_z58 := trivial
noncomputable def code_z58 : Code := Tryz.f135.body.getD .skip
noncomputable def spec_z58 : Spec E.S := (Con.add con_z50 noSpec)
theorem spec_z58_ok : SpecOk E spec_z58 := (Con.add_ok con_z50_ok noSpec_ok)
theorem good_z58 : ∀ pt r, run_z58 pt = some r → Good E Tryz.f135 code_z58 1 (res_z58.av r) (res_z58.bx r) (place_z58 pt) (st_z58 pt) := by
  intro pt r hr
  cases pt <;> exact fn_step (spec := spec_z58) (wr := (mkWr [] [])) (l := tab_z58) (z := 11) (p := res_z58) (run' := fun _ => none) E_ok tab_z58_ok.mem rfl spec_z58_ok (fun _ _ h => by cases h) (Eq.trans (by kernel_rfl) hr)
noncomputable def con_z58 : Con E := ⟨135, ((Unit × Unit) × ((Int × (Int × Unit)) × Unit)), ((ByteArray × (Unit × (Unit × (Unit × (Unit × (Unit × (Unit × Unit))))))) × ((List api_Element) × ((List api_Node) × ((List api_Rule) × Unit)))), (RwL.cons (Rw.agg (RwL.cons (Rd.bp 0 0).w RwL.nil)) (RwL.cons (Rw.agg (RwL.cons (Rd.int .i64).w (RwL.cons (Rd.int .i64).w RwL.nil))) RwL.nil)), (RdBL.cons (RdB.var 75 (RdL.cons Rd.str (RdL.cons Rd.nl (RdL.cons (Rd.rw 1) (RdL.cons (Rd.rw 2) (RdL.cons (Rd.rw 3) (RdL.cons Rd.nl (RdL.cons Rd.nl RdL.nil)))))))) (RdBL.cons (RdB.row 82 true) (RdBL.cons (RdB.row 208 true) (RdBL.cons (RdB.row 85 true) RdBL.nil)))), 1, R_z58, fun a b => run_z58 (.start a.2.1.1 a.2.1.2.1 b.1.1 b.2.1 b.2.2.1 b.2.2.2.1), res_z58.av, res_z58.bx⟩
theorem con_z58_ok : con_z58.Ok := fun a b r h => fn_ok (fn := Tryz.f135) (code := code_z58) E_ok (by kernel_rfl) (by kernel_rfl) (by kernel_rfl) (Nat.le_of_ble_eq_true rfl) (good_z58 (.start a.2.1.1 a.2.1.2.1 b.1.1 b.2.1 b.2.2.1 b.2.2.2.1) r h)

/-! ### (ratchet/machine.builder).rule -/
inductive P_z59 where
 | start (name1 : ByteArray) (guard2_0 : Int) (guard2_1 : Int) (writes3 : (List api_Write)) (B0 : ByteArray) (B1 : (List api_Element)) (B2 : (List api_Node)) (B3 : (List api_Rule))
noncomputable def place_z59 : P_z59 → List Bool
 | .start .. => []
noncomputable def st_z59 : P_z59 → St E.S
 | .start name1 guard2_0 guard2_1 writes3 B0 B1 B2 B3 => st0 24 [.agg [.bp 0 0], .v (.string name1), .agg [.v (.int .i64 guard2_0), .v (.int .i64 guard2_1)], .sl 151 writes3 false] [.var 75 [.v (.string B0), .nl, .rw 1, .rw 2, .rw 3, .nl, .nl], .row 82 B1 true, .row 208 B2 true, .row 85 B3 true]
abbrev R_z59 : Type := (Unit × ((ByteArray × (Unit × (Unit × (Unit × (Unit × (Unit × (Unit × Unit))))))) × ((List api_Element) × ((List api_Node) × ((List api_Rule) × Unit)))))
noncomputable def res_z59 : Res E Unit ((ByteArray × (Unit × (Unit × (Unit × (Unit × (Unit × (Unit × Unit))))))) × ((List api_Element) × ((List api_Node) × ((List api_Rule) × Unit)))) := { rows := [], flat := [], keep := 1, rl := RdL.nil, rb := (RdBL.cons (RdB.var 75 (RdL.cons Rd.str (RdL.cons Rd.nl (RdL.cons (Rd.rw 1) (RdL.cons (Rd.rw 2) (RdL.cons (Rd.rw 3) (RdL.cons Rd.nl (RdL.cons Rd.nl RdL.nil)))))))) (RdBL.cons (RdB.row 82 true) (RdBL.cons (RdB.row 208 true) (RdBL.cons (RdB.row 85 true) RdBL.nil)))) }
noncomputable def run_z59 : P_z59 → Option R_z59
 | .start name1 guard2_0 guard2_1 writes3 B0 B1 B2 B3 =>
   if (fits (List.length B3) (List.length ([(⟨name1, guard2_0, writes3⟩ : api_Rule)] : List api_Rule)) 48) = true then
     some ((), ((B0, ((), ((), ((), ((), ((), ((), ()))))))), (B1, (B2, (B3 ++ ([(⟨name1, guard2_0, writes3⟩ : api_Rule)] : List api_Rule), ())))))
   else none
noncomputable def tab_z59 : List (Plc E P_z59) := []
theorem tab_z59_ok : All (PlcOk 24 1 place_z59 st_z59) tab_z59 := trivial
noncomputable def code_z59 : Code := Tryz.f133.body.getD .skip
noncomputable def spec_z59 : Spec E.S := noSpec
theorem spec_z59_ok : SpecOk E spec_z59 := noSpec_ok
theorem good_z59 : ∀ pt r, run_z59 pt = some r → Good E Tryz.f133 code_z59 1 (res_z59.av r) (res_z59.bx r) (place_z59 pt) (st_z59 pt) := by
  intro pt r hr
  cases pt <;> exact fn_step (spec := spec_z59) (wr := (mkWr [] [])) (l := tab_z59) (z := 24) (p := res_z59) (run' := fun _ => none) E_ok tab_z59_ok.mem rfl spec_z59_ok (fun _ _ h => by cases h) (Eq.trans (by kernel_rfl) hr)
noncomputable def con_z59 : Con E := ⟨133, ((Unit × Unit) × (ByteArray × ((Int × (Int × Unit)) × ((List api_Write) × Unit)))), ((ByteArray × (Unit × (Unit × (Unit × (Unit × (Unit × (Unit × Unit))))))) × ((List api_Element) × ((List api_Node) × ((List api_Rule) × Unit)))), (RwL.cons (Rw.agg (RwL.cons (Rd.bp 0 0).w RwL.nil)) (RwL.cons Rd.str.w (RwL.cons (Rw.agg (RwL.cons (Rd.int .i64).w (RwL.cons (Rd.int .i64).w RwL.nil))) (RwL.cons (Rw.sl 151) RwL.nil)))), (RdBL.cons (RdB.var 75 (RdL.cons Rd.str (RdL.cons Rd.nl (RdL.cons (Rd.rw 1) (RdL.cons (Rd.rw 2) (RdL.cons (Rd.rw 3) (RdL.cons Rd.nl (RdL.cons Rd.nl RdL.nil)))))))) (RdBL.cons (RdB.row 82 true) (RdBL.cons (RdB.row 208 true) (RdBL.cons (RdB.row 85 true) RdBL.nil)))), 1, R_z59, fun a b => run_z59 (.start a.2.1 a.2.2.1.1 a.2.2.1.2.1 a.2.2.2.1 b.1.1 b.2.1 b.2.2.1 b.2.2.2.1), res_z59.av, res_z59.bx⟩
theorem con_z59_ok : con_z59.Ok := fun a b r h => fn_ok (fn := Tryz.f133) (code := code_z59) E_ok (by kernel_rfl) (by kernel_rfl) (by kernel_rfl) (Nat.le_of_ble_eq_true rfl) (good_z59 (.start a.2.1 a.2.2.1.1 a.2.2.1.2.1 a.2.2.2.1 b.1.1 b.2.1 b.2.2.1 b.2.2.2.1) r h)

end Go.Proofs.YtjededkgblbamaaGreatDoor.Ev.F
