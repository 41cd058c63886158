/- PRINTED by wip/gen/evp.py: what the functions come to. -/
import Derived.Test.YtjededkgblbamaaGreatDoorCEvShelf
import Derived.Test.YtjededkgblbamaaGreatDoorCEvSplit
import Derived.Test.YtjededkgblbamaaGreatDoorCShelf
import Derived.Test.YtjededkgblbamaaGreatDoorCEvLib
import Derived.Test.YtjededkgblbamaaGreatDoorCEvRun
import Derived.Test.YtjededkgblbamaaGreatDoorProg
set_option linter.unusedVariables false
set_option maxRecDepth 100000
namespace Go.Proofs.YtjededkgblbamaaGreatDoor.Ev.F
open Go.Proofs Go.Proofs.YtjededkgblbamaaGreatDoor.Ev

/-- api.Element -/
structure api_Element where
  Name : ByteArray
  Kind : Int
  Width : Int
  Init : Int
  Clock : Int
/-- machine.signal -/
structure machine_signal where
  node : Int
  width : Int
/-- api.Node -/
structure api_Node where
  Op : Int
  Width : Int
  Args : (List Int)
  Value : Int
/-- machine.cache -/
structure machine_cache where
  number : Int
  kind : machine_signal
  line : machine_signal
/-- api.Write -/
structure api_Write where
  Element : Int
  When : Int
  Value : Int
/-- api.Rule -/
structure api_Rule where
  Name : ByteArray
  Guard : Int
  Writes : (List api_Write)
/-- api.Port -/
structure api_Port where
  Name : ByteArray
  Width : Int
/-- api.Output -/
structure api_Output where
  Name : ByteArray
  Node : Int
/-- api.Attribute -/
structure api_Attribute where
  Kind : Int
  Rules : (List Int)
/-- api.MachineCode -/
structure api_MachineCode where
  Op : Int
  A : Int
  B : Int
  N : Int
/-- machine.line -/
structure machine_line where
  code : api_MachineCode
  target : ByteArray
  label : ByteArray
  jumps : Bool
  labelled : Bool
/-- machine.form -/
structure machine_form where
  name : ByteArray
  a : Bool
  b : Bool
  n : Bool
/-- utf8.acceptRange -/
structure utf8_acceptRange where
  lo : Int
  hi : Int
noncomputable def S : Nat → Type
 | 3 => Int
 | 5 => Int
 | 9 => ByteArray
 | 23 => (List Int)
 | 28 => Int
 | 40 => api_MachineCode
 | 82 => api_Element
 | 85 => api_Rule
 | 133 => machine_signal
 | 136 => machine_cache
 | 146 => api_Attribute
 | 151 => api_Write
 | 157 => machine_line
 | 166 => machine_form
 | 190 => api_Output
 | 206 => api_Port
 | 208 => api_Node
 | 230 => Bool
 | 255 => Int
 | 278 => utf8_acceptRange
 | _ => Unit
noncomputable def pk (e : Nat) : Pk S (S e) :=
  if h : e = 3 then h ▸ ((Pk.int .i64) : Pk S Int) else
  if h : e = 5 then h ▸ ((Pk.int .u8) : Pk S Int) else
  if h : e = 9 then h ▸ (Pk.str : Pk S ByteArray) else
  if h : e = 23 then h ▸ ((Pk.sl 3) : Pk S (List Int)) else
  if h : e = 28 then h ▸ ((Pk.int .i64) : Pk S Int) else
  if h : e = 40 then h ▸ ((Pk.iso (Pk.cons (Pk.int .i64) (Pk.cons (Pk.int .i64) (Pk.cons (Pk.int .i64) (Pk.cons (Pk.int .i64) Pk.unit)))) (fun a => (⟨a.1, a.2.1, a.2.2.1, a.2.2.2.1⟩ : api_MachineCode)) (fun x => (x.Op, x.A, x.B, x.N, ())) (fun _ => rfl)) : Pk S api_MachineCode) else
  if h : e = 82 then h ▸ ((Pk.iso (Pk.cons Pk.str (Pk.cons (Pk.int .i64) (Pk.cons (Pk.int .i64) (Pk.cons (Pk.int .i64) (Pk.cons (Pk.int .i64) Pk.unit))))) (fun a => (⟨a.1, a.2.1, a.2.2.1, a.2.2.2.1, a.2.2.2.2.1⟩ : api_Element)) (fun x => (x.Name, x.Kind, x.Width, x.Init, x.Clock, ())) (fun _ => rfl)) : Pk S api_Element) else
  if h : e = 85 then h ▸ ((Pk.iso (Pk.cons Pk.str (Pk.cons (Pk.int .i64) (Pk.cons (Pk.sl 151) Pk.unit))) (fun a => (⟨a.1, a.2.1, a.2.2.1⟩ : api_Rule)) (fun x => (x.Name, x.Guard, x.Writes, ())) (fun _ => rfl)) : Pk S api_Rule) else
  if h : e = 133 then h ▸ ((Pk.iso (Pk.cons (Pk.int .i64) (Pk.cons (Pk.int .i64) Pk.unit)) (fun a => (⟨a.1, a.2.1⟩ : machine_signal)) (fun x => (x.node, x.width, ())) (fun _ => rfl)) : Pk S machine_signal) else
  if h : e = 136 then h ▸ ((Pk.iso (Pk.cons (Pk.int .i64) (Pk.cons (Pk.iso (Pk.cons (Pk.int .i64) (Pk.cons (Pk.int .i64) Pk.unit)) (fun a => (⟨a.1, a.2.1⟩ : machine_signal)) (fun x => (x.node, x.width, ())) (fun _ => rfl)) (Pk.cons (Pk.iso (Pk.cons (Pk.int .i64) (Pk.cons (Pk.int .i64) Pk.unit)) (fun a => (⟨a.1, a.2.1⟩ : machine_signal)) (fun x => (x.node, x.width, ())) (fun _ => rfl)) Pk.unit))) (fun a => (⟨a.1, a.2.1, a.2.2.1⟩ : machine_cache)) (fun x => (x.number, x.kind, x.line, ())) (fun _ => rfl)) : Pk S machine_cache) else
  if h : e = 146 then h ▸ ((Pk.iso (Pk.cons (Pk.int .i64) (Pk.cons (Pk.sl 3) Pk.unit)) (fun a => (⟨a.1, a.2.1⟩ : api_Attribute)) (fun x => (x.Kind, x.Rules, ())) (fun _ => rfl)) : Pk S api_Attribute) else
  if h : e = 151 then h ▸ ((Pk.iso (Pk.cons (Pk.int .i64) (Pk.cons (Pk.int .i64) (Pk.cons (Pk.int .i64) Pk.unit))) (fun a => (⟨a.1, a.2.1, a.2.2.1⟩ : api_Write)) (fun x => (x.Element, x.When, x.Value, ())) (fun _ => rfl)) : Pk S api_Write) else
  if h : e = 157 then h ▸ ((Pk.iso (Pk.cons (Pk.iso (Pk.cons (Pk.int .i64) (Pk.cons (Pk.int .i64) (Pk.cons (Pk.int .i64) (Pk.cons (Pk.int .i64) Pk.unit)))) (fun a => (⟨a.1, a.2.1, a.2.2.1, a.2.2.2.1⟩ : api_MachineCode)) (fun x => (x.Op, x.A, x.B, x.N, ())) (fun _ => rfl)) (Pk.cons Pk.str (Pk.cons Pk.str (Pk.cons Pk.bool (Pk.cons Pk.bool Pk.unit))))) (fun a => (⟨a.1, a.2.1, a.2.2.1, a.2.2.2.1, a.2.2.2.2.1⟩ : machine_line)) (fun x => (x.code, x.target, x.label, x.jumps, x.labelled, ())) (fun _ => rfl)) : Pk S machine_line) else
  if h : e = 166 then h ▸ ((Pk.iso (Pk.cons Pk.str (Pk.cons Pk.bool (Pk.cons Pk.bool (Pk.cons Pk.bool Pk.unit)))) (fun a => (⟨a.1, a.2.1, a.2.2.1, a.2.2.2.1⟩ : machine_form)) (fun x => (x.name, x.a, x.b, x.n, ())) (fun _ => rfl)) : Pk S machine_form) else
  if h : e = 190 then h ▸ ((Pk.iso (Pk.cons Pk.str (Pk.cons (Pk.int .i64) Pk.unit)) (fun a => (⟨a.1, a.2.1⟩ : api_Output)) (fun x => (x.Name, x.Node, ())) (fun _ => rfl)) : Pk S api_Output) else
  if h : e = 206 then h ▸ ((Pk.iso (Pk.cons Pk.str (Pk.cons (Pk.int .i64) Pk.unit)) (fun a => (⟨a.1, a.2.1⟩ : api_Port)) (fun x => (x.Name, x.Width, ())) (fun _ => rfl)) : Pk S api_Port) else
  if h : e = 208 then h ▸ ((Pk.iso (Pk.cons (Pk.int .i64) (Pk.cons (Pk.int .i64) (Pk.cons (Pk.sl 3) (Pk.cons (Pk.int .i64) Pk.unit)))) (fun a => (⟨a.1, a.2.1, a.2.2.1, a.2.2.2.1⟩ : api_Node)) (fun x => (x.Op, x.Width, x.Args, x.Value, ())) (fun _ => rfl)) : Pk S api_Node) else
  if h : e = 230 then h ▸ (Pk.err : Pk S Bool) else
  if h : e = 255 then h ▸ ((Pk.int .u64) : Pk S Int) else
  if h : e = 278 then h ▸ ((Pk.iso (Pk.cons (Pk.int .u8) (Pk.cons (Pk.int .u8) Pk.unit)) (fun a => (⟨a.1, a.2.1⟩ : utf8_acceptRange)) (fun x => (x.lo, x.hi, ())) (fun _ => rfl)) : Pk S utf8_acceptRange) else
  Pk.no (Tryz.prog.cellsOf e)
theorem pk_len (e : Nat) : (pk e).len = Tryz.prog.cellsOf e := by
  unfold pk
  by_cases h : e = 3
  · subst h; kernel_rfl
  refine (congrArg Pk.len (dif_neg h)).trans ?_; clear h
  by_cases h : e = 5
  · subst h; kernel_rfl
  refine (congrArg Pk.len (dif_neg h)).trans ?_; clear h
  by_cases h : e = 9
  · subst h; kernel_rfl
  refine (congrArg Pk.len (dif_neg h)).trans ?_; clear h
  by_cases h : e = 23
  · subst h; kernel_rfl
  refine (congrArg Pk.len (dif_neg h)).trans ?_; clear h
  by_cases h : e = 28
  · subst h; kernel_rfl
  refine (congrArg Pk.len (dif_neg h)).trans ?_; clear h
  by_cases h : e = 40
  · subst h; kernel_rfl
  refine (congrArg Pk.len (dif_neg h)).trans ?_; clear h
  by_cases h : e = 82
  · subst h; kernel_rfl
  refine (congrArg Pk.len (dif_neg h)).trans ?_; clear h
  by_cases h : e = 85
  · subst h; kernel_rfl
  refine (congrArg Pk.len (dif_neg h)).trans ?_; clear h
  by_cases h : e = 133
  · subst h; kernel_rfl
  refine (congrArg Pk.len (dif_neg h)).trans ?_; clear h
  by_cases h : e = 136
  · subst h; kernel_rfl
  refine (congrArg Pk.len (dif_neg h)).trans ?_; clear h
  by_cases h : e = 146
  · subst h; kernel_rfl
  refine (congrArg Pk.len (dif_neg h)).trans ?_; clear h
  by_cases h : e = 151
  · subst h; kernel_rfl
  refine (congrArg Pk.len (dif_neg h)).trans ?_; clear h
  by_cases h : e = 157
  · subst h; kernel_rfl
  refine (congrArg Pk.len (dif_neg h)).trans ?_; clear h
  by_cases h : e = 166
  · subst h; kernel_rfl
  refine (congrArg Pk.len (dif_neg h)).trans ?_; clear h
  by_cases h : e = 190
  · subst h; kernel_rfl
  refine (congrArg Pk.len (dif_neg h)).trans ?_; clear h
  by_cases h : e = 206
  · subst h; kernel_rfl
  refine (congrArg Pk.len (dif_neg h)).trans ?_; clear h
  by_cases h : e = 208
  · subst h; kernel_rfl
  refine (congrArg Pk.len (dif_neg h)).trans ?_; clear h
  by_cases h : e = 230
  · subst h; kernel_rfl
  refine (congrArg Pk.len (dif_neg h)).trans ?_; clear h
  by_cases h : e = 255
  · subst h; kernel_rfl
  refine (congrArg Pk.len (dif_neg h)).trans ?_; clear h
  by_cases h : e = 278
  · subst h; kernel_rfl
  refine (congrArg Pk.len (dif_neg h)).trans ?_; clear h
  exact Pk.no_len _
noncomputable def plain : Nat → Bool := fun t => mem t [206, 190, 82, 151, 157, 40]
noncomputable def byt (e : Nat) (s : ByteArray) : Option (List (S e)) := if h : e = 5 then some (h ▸ (strBytes s : List Int)) else none
theorem byt_ok : ∀ e s l, byt e s = some l → Tryz.prog.underlying e = some (.int .u8) ∧ Tryz.prog.cellsOf e = 1 ∧ l.length = s.size ∧ ∀ i x, l[i]? = some x → (pk e).wt x = [.v (.int .u8 ((s.data.toList.getD i 0).toNat : Int))] := by
  intro e s l h
  unfold byt at h
  split at h
  · rename_i he; subst he; obtain rfl := Option.some.inj h
    exact ⟨by kernel_rfl, by kernel_rfl, (strBytes_ok s).1, fun i x hx => by rw [(strBytes_ok s).2 i x hx]; kernel_rfl⟩
  cases h
def glob1 : List Int := [1, 10, 100, 1000, 10000, 100000, 1000000, 10000000, 100000000, 1000000000, 10000000000, 100000000000, 1000000000000, 10000000000000, 100000000000000, 1000000000000000, 10000000000000000, 100000000000000000, 1000000000000000000, 10000000000000000000]
def glob5 : List Int := [0, 1, 28, 2, 29, 14, 24, 3, 30, 22, 20, 15, 25, 17, 4, 8, 31, 27, 13, 23, 21, 19, 16, 7, 26, 12, 18, 6, 11, 5, 10, 9]
def glob6 : List Int := [0, 1, 56, 2, 57, 49, 28, 3, 61, 58, 42, 50, 38, 29, 17, 4, 62, 47, 59, 36, 45, 43, 51, 22, 53, 39, 33, 30, 24, 18, 12, 5, 63, 55, 48, 27, 60, 41, 37, 16, 46, 35, 44, 21, 52, 32, 23, 11, 54, 26, 40, 15, 34, 20, 31, 10, 25, 14, 19, 9, 13, 8, 7, 6]
def glob0 : List machine_form := [⟨⟨#[104, 97, 108, 116]⟩, false, false, false⟩, ⟨⟨#[115, 101, 116]⟩, true, false, true⟩, ⟨⟨#[109, 111, 118, 101]⟩, true, true, false⟩, ⟨⟨#[97, 100, 100]⟩, true, true, false⟩, ⟨⟨#[115, 117, 98]⟩, true, true, false⟩, ⟨⟨#[97, 110, 100]⟩, true, true, false⟩, ⟨⟨#[108, 111, 97, 100]⟩, true, true, false⟩, ⟨⟨#[115, 116, 111, 114, 101]⟩, true, true, false⟩, ⟨⟨#[106, 117, 109, 112]⟩, false, false, true⟩, ⟨⟨#[122, 101, 114, 111]⟩, true, false, true⟩]
def glob4 : List utf8_acceptRange := [⟨128, 191⟩, ⟨160, 191⟩, ⟨128, 159⟩, ⟨144, 191⟩, ⟨128, 143⟩, ⟨0, 0⟩, ⟨0, 0⟩, ⟨0, 0⟩, ⟨0, 0⟩, ⟨0, 0⟩, ⟨0, 0⟩, ⟨0, 0⟩, ⟨0, 0⟩, ⟨0, 0⟩, ⟨0, 0⟩, ⟨0, 0⟩]
noncomputable def globs : Nat → Option (AV S)
 | 0 => some (.ar 166 glob0)
 | 4 => some (.ar 278 glob4)
 | 1 => some (.ar 255 glob1)
 | 5 => some (.ar 5 glob5)
 | 6 => some (.ar 5 glob6)
 | 7 => some (.el 230 true 0)
 | 8 => some (.el 230 true 0)
 | _ => none
theorem globs_ok : ∀ g x, globs g = some x → idsV x = [] := by
  intro g x h
  unfold globs at h
  split at h <;> first | (cases h; done) | (obtain rfl := Option.some.inj h; rfl)
noncomputable def nums : (e : Nat) → List (S e) → Option (List Int)
 | 5, l => some l
 | _, _ => none
theorem nums_ok : ∀ e l xs, nums e l = some xs → Tryz.prog.underlying e = some (.int .u8) ∧ xs.length = l.length ∧ ∀ (i : Nat) x n, l[i]? = some x → xs[i]? = some n → (pk e).wt x = [.v (.int .u8 n)] := by
  intro e l xs h
  unfold nums at h
  split at h
  · obtain rfl := Option.some.inj h
    exact ⟨by kernel_rfl, rfl, fun i x n hx hn => by obtain rfl : x = n := Option.some.inj (hx.symm.trans hn); kernel_rfl⟩
  · cases h
noncomputable def held : Nat → Option (String × Array Value)
 | 1 => some ("internal/strconv.uint64pow10", (Go.Lib.pow10Tab.map fun z => Value.int .u64 z).toArray)
 | _ => none
noncomputable def ro : Nat → Bool := fun f => mem f [125, 129]
noncomputable def rc : Nat → List Nat
 | 130 => [0, 2, 3]
 | _ => []
noncomputable def fr : Nat → Bool := fun f => mem f []
noncomputable def flat : Nat → Bool := fun e => mem e []
noncomputable abbrev E : Env := mkEnv Tryz.prog S pk globs plain byt nums held ro rc fr flat
theorem E_ok : E.Ok := mkEnv_ok pk_len (by kernel_rfl) globs_ok (fun t h => mem_cases (Q := fun t => Tryz.prog.stoodInHeld t = false ∧ Tryz.prog.eqGuardType Tryz.prog.depth t = false) h ⟨⟨by kernel_rfl, by kernel_rfl⟩, ⟨⟨by kernel_rfl, by kernel_rfl⟩, ⟨⟨by kernel_rfl, by kernel_rfl⟩, ⟨⟨by kernel_rfl, by kernel_rfl⟩, ⟨⟨by kernel_rfl, by kernel_rfl⟩, ⟨⟨by kernel_rfl, by kernel_rfl⟩, trivial⟩⟩⟩⟩⟩⟩) byt_ok nums_ok (fun e h => by cases h)
noncomputable def con_strconv_Itoa : Con E := conItoa E 84
theorem con_strconv_Itoa_ok : con_strconv_Itoa.Ok := conItoa_ok (fn := Tryz.f84) (by kernel_rfl) (by kernel_rfl) (by kernel_rfl) (g := 1) rfl (fun n w h0 h1 ht => Tryz.strconv_Itoa n h0 h1 w ht)
noncomputable def con_strings_Split : Con E := conSplit E 95 9 splitRun
theorem con_strings_Split_ok : con_strings_Split.Ok := conSplit_ok (ρ := Tryz.lays146_ren) Tryz.lays146 rfl (by kernel_rfl) (fn := Tryz.f95) (by kernel_rfl) (by kernel_rfl) (by kernel_rfl) (fun s => s) (fun _ => rfl) (by kernel_rfl) (fun p u r h => ⟨r.1.1, h, congrArg (fun l => ((l, ()), ())) (List.map_id' r.1.1).symm⟩)
noncomputable def con_strings_Join : Con E := conJoin E 102 9 joinRun
theorem con_strings_Join_ok : con_strings_Join.Ok := conJoin_ok (fn := Tryz.f102) (by kernel_rfl) (by kernel_rfl) (by kernel_rfl) (fun x => x) (fun _ => rfl) (by kernel_rfl) (fun p u => congrArg (fun l => joinRun (l, p.2) u) (List.map_id' p.1).symm) (fun a c sep w => Tryz.strings_Join_none a c sep w) (fun bk o c xs sep w => Tryz.strings_Join bk o c xs sep w)
noncomputable def con_internal_stringslite_Index : Con E := conOne E 197 Go.Lib.indexByte
theorem con_internal_stringslite_Index_ok : con_internal_stringslite_Index.Ok := conOne_ok (fn := Tryz.f197) (by kernel_rfl) (by kernel_rfl) (by kernel_rfl) Tryz.stringslite_Index_one
noncomputable def con_strconv_Atoi : Con E := conAtoi E 200
theorem con_strconv_Atoi_ok : con_strconv_Atoi.Ok := conAtoi_ok (ρ := Tryz.laysC172_ren) Tryz.laysC172 rfl rfl rfl (g15 := 7) (g16 := 8) (fn := Tryz.f200) (by kernel_rfl) (by kernel_rfl) (by kernel_rfl) (e := 230) (x15 := (true : Bool)) (x16 := (true : Bool)) rfl rfl (by kernel_rfl) (by kernel_rfl)
noncomputable def con_internal_bytealg_IndexByteString : Con E := conIndexByteString E 219
theorem con_internal_bytealg_IndexByteString_ok : con_internal_bytealg_IndexByteString.Ok := conIndexByteString_ok 219 (fn := Tryz.f219) (by kernel_rfl) (by kernel_rfl) (by kernel_rfl) (by kernel_rfl) (by kernel_rfl)
noncomputable def base : Spec E.S := (Con.add con_internal_bytealg_IndexByteString (Con.add con_strconv_Atoi (Con.add con_internal_stringslite_Index (Con.add con_strings_Join (Con.add con_strings_Split (Con.add con_strconv_Itoa noSpec))))))
theorem base_ok : SpecOk E base := (Con.add_ok con_internal_bytealg_IndexByteString_ok (Con.add_ok con_strconv_Atoi_ok (Con.add_ok con_internal_stringslite_Index_ok (Con.add_ok con_strings_Join_ok (Con.add_ok con_strings_Split_ok (Con.add_ok con_strconv_Itoa_ok noSpec_ok))))))
noncomputable def con_ratchetlaw31_awake : Con E := conConst E 11 (.v (.bool true))
noncomputable def wrs_ratchetlaw31_awake : Nat → Wr
 | 11 => mkWr [] [(6, [12]), (14, [18, 19])]
 | 13 => mkWr [6, 10, 22, 25, 31, 32, 33, 36, 40] [(12, [13, 15, 17]), (14, [1, 24]), (15666, [0, 10, 30, 31])]
 | 35 => mkWr [] [(28, [18, 19, 20])]
 | 49 => mkWr [2, 10, 58, 62, 64] [(14, [18]), (523571, [60])]
 | 64 => mkWr [0, 7] [(6, [1, 2, 3, 4, 5, 6])]
 | 69 => mkWr [2, 3, 5, 6] [(6, [0, 4])]
 | 70 => mkWr [1, 3, 4, 7, 9, 10, 11, 12, 13, 14, 15, 16, 17, 18, 21, 22, 28, 32, 36, 37, 40, 41, 42, 45, 47, 48, 51, 56, 58, 61, 64, 67, 69, 72, 73, 74, 79, 82, 83, 84, 89, 92, 93, 97, 100, 101, 102, 104, 107, 108, 109, 111, 118, 119, 125, 126] [(6, [3, 10, 11, 13, 14]), (65454, [63]), (261822, [68]), (1047294, [78]), (4189182, [88]), (16756734, [96]), (67026942, [103]), (268107774, [110])]
 | 72 => mkWr [] [(3378, [17, 18])]
 | 73 => mkWr [] [(62, [58, 61])]
 | 95 => mkWr [4, 7] [(6, [5, 6])]
 | 96 => mkWr [] [(3378, [17, 18])]
 | 120 => mkWr [] [(14, [12, 15])]
 | 121 => mkWr [2, 5, 7] []
 | 124 => mkWr [] [(3378, [17, 18])]
 | 146 => mkWr [8, 9, 18, 31, 42, 49, 58, 61, 62, 65] [(116, [16, 17]), (2046, [60]), (130838, [48])]
 | 177 => mkWr [4, 6, 21, 33, 38, 44, 48, 49] [(506, [47]), (16018, [37])]
 | 187 => mkWr [] [(3378, [15])]
 | _ => mkWr [] []
theorem con_ratchetlaw31_awake_ok : con_ratchetlaw31_awake.Ok := conConst_ok E_ok base_ok wrs_ratchetlaw31_awake 400 60 (ys := [.v (.bool true)]) rfl (by kernel_rfl)

/-! ### ratchet/ratchetbase.CopyInts -/
inductive P_ratchetbase_CopyInts where
 | start (l0 : (List Int))
noncomputable def place_ratchetbase_CopyInts : P_ratchetbase_CopyInts → List Bool
 | .start .. => []
noncomputable def st_ratchetbase_CopyInts : P_ratchetbase_CopyInts → St E.S
 | .start l0 => st0 6 [.sl 3 l0 false] []
abbrev R_ratchetbase_CopyInts : Type := ((Unit × Unit) × ((List Int) × Unit))
noncomputable def res_ratchetbase_CopyInts : Res E (Unit × Unit) ((List Int) × Unit) := { rows := [], flat := [], keep := 0, done := [0], rl := (RdL.cons (Rd.rw 0) RdL.nil), rb := (RdBL.cons (RdB.row 3 true) RdBL.nil) }
noncomputable def run_ratchetbase_CopyInts : P_ratchetbase_CopyInts → Option R_ratchetbase_CopyInts
 | .start l0 =>
   if (fits (List.length ([] : List Int)) (List.length l0) 8) = true then
     some (((), ()), (([] : List Int) ++ l0, ()))
   else none
noncomputable def tab_ratchetbase_CopyInts : List (Plc E P_ratchetbase_CopyInts) := []
theorem tab_ratchetbase_CopyInts_ok : All (PlcOk 6 0 place_ratchetbase_CopyInts st_ratchetbase_CopyInts) tab_ratchetbase_CopyInts := trivial
noncomputable def code_ratchetbase_CopyInts : Code := Tryz.f15.body.getD .skip
noncomputable def spec_ratchetbase_CopyInts : Spec E.S := noSpec
theorem spec_ratchetbase_CopyInts_ok : SpecOk E spec_ratchetbase_CopyInts := noSpec_ok
theorem good_ratchetbase_CopyInts : ∀ pt r, run_ratchetbase_CopyInts pt = some r → Good E Tryz.f15 code_ratchetbase_CopyInts 0 (res_ratchetbase_CopyInts.av r) (res_ratchetbase_CopyInts.bx r) (place_ratchetbase_CopyInts pt) (st_ratchetbase_CopyInts pt) := by
  intro pt r hr
  cases pt <;> exact fn_step (spec := spec_ratchetbase_CopyInts) (wr := (mkWr [] [])) (l := tab_ratchetbase_CopyInts) (z := 6) (p := res_ratchetbase_CopyInts) (run' := fun _ => none) E_ok tab_ratchetbase_CopyInts_ok.mem rfl spec_ratchetbase_CopyInts_ok (fun _ _ h => by cases h) (Eq.trans (by kernel_rfl) hr)
noncomputable def con_ratchetbase_CopyInts : Con E := ⟨15, ((List Int) × Unit), Unit, (RwL.cons (Rw.sl 3) RwL.nil), RdBL.nil, 0, R_ratchetbase_CopyInts, fun a b => run_ratchetbase_CopyInts (.start a.1), res_ratchetbase_CopyInts.av, res_ratchetbase_CopyInts.bx⟩
theorem con_ratchetbase_CopyInts_ok : con_ratchetbase_CopyInts.Ok := fun a b r h => fn_ok (fn := Tryz.f15) (code := code_ratchetbase_CopyInts) E_ok (by kernel_rfl) (by kernel_rfl) (by kernel_rfl) (Nat.le_of_ble_eq_true rfl) (good_ratchetbase_CopyInts (.start a.1) r h)

/-! ### ratchet/machine.within -/
inductive P_machine_within where
 | start (n0 : Int) (lo1 : Int) (hi2 : Int)
noncomputable def place_machine_within : P_machine_within → List Bool
 | .start .. => []
noncomputable def st_machine_within : P_machine_within → St E.S
 | .start n0 lo1 hi2 => st0 15 [.v (.int .i64 n0), .v (.int .i64 lo1), .v (.int .i64 hi2)] []
abbrev R_machine_within : Type := ((Bool × Unit) × Unit)
noncomputable def res_machine_within : Res E (Bool × Unit) Unit := { rows := [], flat := [], keep := 0, done := [0], rl := (RdL.cons Rd.bool RdL.nil), rb := RdBL.nil }
noncomputable def run_machine_within : P_machine_within → Option R_machine_within
 | .start n0 lo1 hi2 =>
   if (decide (lo1 ≤ n0)) = true then
     some ((decide (n0 ≤ hi2), ()), ())
   else
     some ((false, ()), ())
noncomputable def tab_machine_within : List (Plc E P_machine_within) := []
theorem tab_machine_within_ok : All (PlcOk 15 0 place_machine_within st_machine_within) tab_machine_within := trivial
noncomputable def code_machine_within : Code := Tryz.f75.body.getD .skip
noncomputable def spec_machine_within : Spec E.S := noSpec
theorem spec_machine_within_ok : SpecOk E spec_machine_within := noSpec_ok
theorem good_machine_within : ∀ pt r, run_machine_within pt = some r → Good E Tryz.f75 code_machine_within 0 (res_machine_within.av r) (res_machine_within.bx r) (place_machine_within pt) (st_machine_within pt) := by
  intro pt r hr
  cases pt <;> exact fn_step (spec := spec_machine_within) (wr := (mkWr [] [])) (l := tab_machine_within) (z := 15) (p := res_machine_within) (run' := fun _ => none) E_ok tab_machine_within_ok.mem rfl spec_machine_within_ok (fun _ _ h => by cases h) (Eq.trans (by kernel_rfl) hr)
noncomputable def con_machine_within : Con E := ⟨75, (Int × (Int × (Int × Unit))), Unit, (RwL.cons (Rd.int .i64).w (RwL.cons (Rd.int .i64).w (RwL.cons (Rd.int .i64).w RwL.nil))), RdBL.nil, 0, R_machine_within, fun a b => run_machine_within (.start a.1 a.2.1 a.2.2.1), res_machine_within.av, res_machine_within.bx⟩
theorem con_machine_within_ok : con_machine_within.Ok := fun a b r h => fn_ok (fn := Tryz.f75) (code := code_machine_within) E_ok (by kernel_rfl) (by kernel_rfl) (by kernel_rfl) (Nat.le_of_ble_eq_true rfl) (good_machine_within (.start a.1 a.2.1 a.2.2.1) r h)

/-! ### ratchet/machine.unless -/
inductive P_machine_unless where
 | start (right0 : Bool) (e1 : Int)
noncomputable def place_machine_unless : P_machine_unless → List Bool
 | .start .. => []
noncomputable def st_machine_unless : P_machine_unless → St E.S
 | .start right0 e1 => st0 7 [.v (.bool right0), .v (.int .i64 e1)] []
abbrev R_machine_unless : Type := ((Int × Unit) × Unit)
noncomputable def res_machine_unless : Res E (Int × Unit) Unit := { rows := [], flat := [], keep := 0, done := [0], rl := (RdL.cons (Rd.int .i64) RdL.nil), rb := RdBL.nil }
noncomputable def run_machine_unless : P_machine_unless → Option R_machine_unless
 | .start right0 e1 =>
   if right0 = true then
     some (((0 : Int), ()), ())
   else
     some ((e1, ()), ())
noncomputable def tab_machine_unless : List (Plc E P_machine_unless) := []
theorem tab_machine_unless_ok : All (PlcOk 7 0 place_machine_unless st_machine_unless) tab_machine_unless := trivial
noncomputable def code_machine_unless : Code := Tryz.f99.body.getD .skip
noncomputable def spec_machine_unless : Spec E.S := noSpec
theorem spec_machine_unless_ok : SpecOk E spec_machine_unless := noSpec_ok
theorem good_machine_unless : ∀ pt r, run_machine_unless pt = some r → Good E Tryz.f99 code_machine_unless 0 (res_machine_unless.av r) (res_machine_unless.bx r) (place_machine_unless pt) (st_machine_unless pt) := by
  intro pt r hr
  cases pt <;> exact fn_step (spec := spec_machine_unless) (wr := (mkWr [] [])) (l := tab_machine_unless) (z := 7) (p := res_machine_unless) (run' := fun _ => none) E_ok tab_machine_unless_ok.mem rfl spec_machine_unless_ok (fun _ _ h => by cases h) (Eq.trans (by kernel_rfl) hr)
noncomputable def con_machine_unless : Con E := ⟨99, (Bool × (Int × Unit)), Unit, (RwL.cons Rd.bool.w (RwL.cons (Rd.int .i64).w RwL.nil)), RdBL.nil, 0, R_machine_unless, fun a b => run_machine_unless (.start a.1 a.2.1), res_machine_unless.av, res_machine_unless.bx⟩
theorem con_machine_unless_ok : con_machine_unless.Ok := fun a b r h => fn_ok (fn := Tryz.f99) (code := code_machine_unless) E_ok (by kernel_rfl) (by kernel_rfl) (by kernel_rfl) (Nat.le_of_ble_eq_true rfl) (good_machine_unless (.start a.1 a.2.1) r h)

/-! ### ratchet/machine.lineErr -/
inductive P_machine_lineErr where
 | start (width0 : Int)
noncomputable def place_machine_lineErr : P_machine_lineErr → List Bool
 | .start .. => []
noncomputable def st_machine_lineErr : P_machine_lineErr → St E.S
 | .start width0 => st0 6 [.v (.int .i64 width0)] []
abbrev R_machine_lineErr : Type := ((Int × Unit) × Unit)
noncomputable def res_machine_lineErr : Res E (Int × Unit) Unit := { rows := [], flat := [], keep := 0, done := [0], rl := (RdL.cons (Rd.int .i64) RdL.nil), rb := RdBL.nil }
noncomputable def run_machine_lineErr : P_machine_lineErr → Option R_machine_lineErr
 | .start width0 =>
   (run_machine_within (.start width0 (1 : Int) (3 : Int))) >>= fun t1 =>
   (run_machine_unless (.start t1.1.1 (2 : Int))) >>= fun t2 =>
   some ((t2.1.1, ()), ())
noncomputable def tab_machine_lineErr : List (Plc E P_machine_lineErr) := []
theorem tab_machine_lineErr_ok : All (PlcOk 6 0 place_machine_lineErr st_machine_lineErr) tab_machine_lineErr := trivial
noncomputable def code_machine_lineErr : Code := Tryz.f78.body.getD .skip
noncomputable def spec_machine_lineErr : Spec E.S := (Con.add con_machine_unless (Con.add con_machine_within noSpec))
theorem spec_machine_lineErr_ok : SpecOk E spec_machine_lineErr := (Con.add_ok con_machine_unless_ok (Con.add_ok con_machine_within_ok noSpec_ok))
theorem good_machine_lineErr : ∀ pt r, run_machine_lineErr pt = some r → Good E Tryz.f78 code_machine_lineErr 0 (res_machine_lineErr.av r) (res_machine_lineErr.bx r) (place_machine_lineErr pt) (st_machine_lineErr pt) := by
  intro pt r hr
  cases pt <;> exact fn_step (spec := spec_machine_lineErr) (wr := (mkWr [] [])) (l := tab_machine_lineErr) (z := 6) (p := res_machine_lineErr) (run' := fun _ => none) E_ok tab_machine_lineErr_ok.mem rfl spec_machine_lineErr_ok (fun _ _ h => by cases h) (Eq.trans (by kernel_rfl) hr)
noncomputable def con_machine_lineErr : Con E := ⟨78, (Int × Unit), Unit, (RwL.cons (Rd.int .i64).w RwL.nil), RdBL.nil, 0, R_machine_lineErr, fun a b => run_machine_lineErr (.start a.1), res_machine_lineErr.av, res_machine_lineErr.bx⟩
theorem con_machine_lineErr_ok : con_machine_lineErr.Ok := fun a b r h => fn_ok (fn := Tryz.f78) (code := code_machine_lineErr) E_ok (by kernel_rfl) (by kernel_rfl) (by kernel_rfl) (Nat.le_of_ble_eq_true rfl) (good_machine_lineErr (.start a.1) r h)

/-! ### ratchet/machine.valuesErr$1 -/
inductive P_machine_valuesErr_1 where
 | start (i0 : Int) (n1 : Int) (s2 : (List Int))
noncomputable def place_machine_valuesErr_1 : P_machine_valuesErr_1 → List Bool
 | .start .. => []
noncomputable def st_machine_valuesErr_1 : P_machine_valuesErr_1 → St E.S
 | .start i0 n1 s2 => st0 15 [.v (.int .i64 i0), .v (.int .i64 n1), .el 23 s2 0] []
abbrev R_machine_valuesErr_1 : Type := ((Int × Unit) × Unit)
noncomputable def res_machine_valuesErr_1 : Res E (Int × Unit) Unit := { rows := [], flat := [], keep := 0, done := [0], rl := (RdL.cons (Rd.int .i64) RdL.nil), rb := RdBL.nil }
noncomputable def run_machine_valuesErr_1 : P_machine_valuesErr_1 → Option R_machine_valuesErr_1
 | .start i0 n1 s2 =>
   (idx s2 i0) >>= fun t1 =>
   if (decide ((0 : Int) ≤ t1)) = true then
     (run_machine_within (.start n1 (0 : Int) (IntKind.wrap .i64 ((shl .i64 (1 : Int) t1) - (1 : Int))))) >>= fun t2 =>
     (run_machine_unless (.start t2.1.1 (2 : Int))) >>= fun t3 =>
     some ((t3.1.1, ()), ())
   else none
noncomputable def tab_machine_valuesErr_1 : List (Plc E P_machine_valuesErr_1) := []
theorem tab_machine_valuesErr_1_ok : All (PlcOk 15 0 place_machine_valuesErr_1 st_machine_valuesErr_1) tab_machine_valuesErr_1 := trivial
noncomputable def code_machine_valuesErr_1 : Code := Tryz.f125.body.getD .skip
noncomputable def spec_machine_valuesErr_1 : Spec E.S := (Con.add con_machine_unless (Con.add con_machine_within noSpec))
theorem spec_machine_valuesErr_1_ok : SpecOk E spec_machine_valuesErr_1 := (Con.add_ok con_machine_unless_ok (Con.add_ok con_machine_within_ok noSpec_ok))
theorem good_machine_valuesErr_1 : ∀ pt r, run_machine_valuesErr_1 pt = some r → Good E Tryz.f125 code_machine_valuesErr_1 0 (res_machine_valuesErr_1.av r) (res_machine_valuesErr_1.bx r) (place_machine_valuesErr_1 pt) (st_machine_valuesErr_1 pt) := by
  intro pt r hr
  cases pt <;> exact fn_step (spec := spec_machine_valuesErr_1) (wr := (mkWr [] [])) (l := tab_machine_valuesErr_1) (z := 15) (p := res_machine_valuesErr_1) (run' := fun _ => none) E_ok tab_machine_valuesErr_1_ok.mem rfl spec_machine_valuesErr_1_ok (fun _ _ h => by cases h) (Eq.trans (by kernel_rfl) hr)
noncomputable def con_machine_valuesErr_1 : Con E := ⟨125, (Int × (Int × ((List Int) × Unit))), Unit, (RwL.cons (Rd.int .i64).w (RwL.cons (Rd.int .i64).w (RwL.cons (Rd.el 23 0).w RwL.nil))), RdBL.nil, 0, R_machine_valuesErr_1, fun a b => run_machine_valuesErr_1 (.start a.1 a.2.1 a.2.2.1), res_machine_valuesErr_1.av, res_machine_valuesErr_1.bx⟩
theorem con_machine_valuesErr_1_ok : con_machine_valuesErr_1.Ok := fun a b r h => fn_ok (fn := Tryz.f125) (code := code_machine_valuesErr_1) E_ok (by kernel_rfl) (by kernel_rfl) (by kernel_rfl) (Nat.le_of_ble_eq_true rfl) (good_machine_valuesErr_1 (.start a.1 a.2.1 a.2.2.1) r h)

/-! ### ratchet/machine.each[int] -/
inductive P_machine_each_int where
 | start (l0 : (List Int)) (B0 : (List Int))
 | p52 (s9 : (List Int)) (s10 : Int) (s11 : Int) (B0 : (List Int))
noncomputable def place_machine_each_int : P_machine_each_int → List Bool
 | .start .. => []
 | .p52 .. => [false, false, true, false, true]
noncomputable def st_machine_each_int : P_machine_each_int → St E.S
 | .start l0 B0 => st0 25 [.sl 3 l0 false, .fn 125 [.bp 0 0]] [.var 23 [.sl 3 B0 false]]
 | .p52 s9 s10 s11 B0 => mkSt 25 [1, 9, 10, 11] [.fn 125 [.bp 0 0], .sl 3 s9 false, .v (.int .i64 s10), .v (.int .i64 s11)] [.var 23 [.sl 3 B0 false]]
abbrev R_machine_each_int : Type := ((Int × (Int × Unit)) × (((List Int) × Unit) × Unit))
noncomputable def res_machine_each_int : Res E (Int × (Int × Unit)) (((List Int) × Unit) × Unit) := { rows := [], flat := [], keep := 1, done := [0, 1], rl := (RdL.cons (Rd.int .i64) (RdL.cons (Rd.int .i64) RdL.nil)), rb := (RdBL.cons (RdB.var 23 (RdL.cons (Rd.sl 3 false) RdL.nil)) RdBL.nil) }
noncomputable def run_machine_each_int : P_machine_each_int → Option R_machine_each_int
 | .start l0 B0 =>
   run_machine_each_int (.p52 l0 (List.length l0 : Int) (0 : Int) B0)
 | .p52 s9 s10 s11 B0 =>
   if (decide (s11 < s10)) = true then
     (idx s9 s11) >>= fun t1 =>
     (run_machine_valuesErr_1 (.start s11 t1 B0)) >>= fun t2 =>
     if (t2.1.1 != (0 : Int)) = true then
       some ((s11, (t2.1.1, ())), ((B0, ()), ()))
     else
       run_machine_each_int (.p52 s9 s10 (IntKind.wrap .i64 (s11 + (1 : Int))) B0)
   else
     some (((0 : Int), ((0 : Int), ())), ((B0, ()), ()))
  partial_fixpoint
noncomputable def tab_machine_each_int : List (Plc E P_machine_each_int) := [⟨52, [false, false, true, false, true], { slots := [1, 9, 10, 11], rows := [], flat := [], keep := 1 }, ((Unit × Unit) × ((List Int) × (Int × (Int × Unit)))), (((List Int) × Unit) × Unit), (RdL.cons (Rd.fn 125 (RdL.cons (Rd.bp 0 0) RdL.nil)) (RdL.cons (Rd.sl 3 false) (RdL.cons (Rd.int .i64) (RdL.cons (Rd.int .i64) RdL.nil)))), (RdBL.cons (RdB.var 23 (RdL.cons (Rd.sl 3 false) RdL.nil)) RdBL.nil), fun a b => .p52 a.2.1 a.2.2.1 a.2.2.2.1 b.1.1⟩]
theorem tab_machine_each_int_ok : All (PlcOk 25 1 place_machine_each_int st_machine_each_int) tab_machine_each_int := ⟨⟨rfl, rfl, fun _ _ => rfl, fun _ _ => rfl⟩, trivial⟩
noncomputable def code_machine_each_int : Code := Tryz.f124.body.getD .skip
noncomputable def spec_machine_each_int : Spec E.S := (Con.add con_machine_valuesErr_1 noSpec)
theorem spec_machine_each_int_ok : SpecOk E spec_machine_each_int := (Con.add_ok con_machine_valuesErr_1_ok noSpec_ok)
theorem good_machine_each_int : ∀ pt r, run_machine_each_int pt = some r → Good E Tryz.f124 code_machine_each_int 1 (res_machine_each_int.av r) (res_machine_each_int.bx r) (place_machine_each_int pt) (st_machine_each_int pt) := by
  refine run_machine_each_int.partial_correctness (fun pt r => Good E Tryz.f124 code_machine_each_int 1 (res_machine_each_int.av r) (res_machine_each_int.bx r) (place_machine_each_int pt) (st_machine_each_int pt)) ?_
  intro run' ih pt r hr
  cases pt <;> exact fn_step (spec := spec_machine_each_int) (wr := (mkWr [] [])) (l := tab_machine_each_int) (z := 25) (p := res_machine_each_int) E_ok tab_machine_each_int_ok.mem rfl spec_machine_each_int_ok ih (Eq.trans (by kernel_rfl) hr)
noncomputable def con_machine_each_int : Con E := ⟨124, ((List Int) × ((Unit × Unit) × Unit)), (((List Int) × Unit) × Unit), (RwL.cons (Rw.sl 3) (RwL.cons (Rd.fn 125 (RdL.cons (Rd.bp 0 0) RdL.nil)).w RwL.nil)), (RdBL.cons (RdB.var 23 (RdL.cons (Rd.sl 3 false) RdL.nil)) RdBL.nil), 1, R_machine_each_int, fun a b => run_machine_each_int (.start a.1 b.1.1), res_machine_each_int.av, res_machine_each_int.bx⟩
theorem con_machine_each_int_ok : con_machine_each_int.Ok := fun a b r h => fn_ok (fn := Tryz.f124) (code := code_machine_each_int) E_ok (by kernel_rfl) (by kernel_rfl) (by kernel_rfl) (Nat.le_of_ble_eq_true rfl) (good_machine_each_int (.start a.1 b.1.1) r h)

/-! ### ratchet/machine.valuesErr -/
inductive P_machine_valuesErr where
 | start (l0 : (List Int)) (widths1 : (List Int))
noncomputable def place_machine_valuesErr : P_machine_valuesErr → List Bool
 | .start .. => []
noncomputable def st_machine_valuesErr : P_machine_valuesErr → St E.S
 | .start l0 widths1 => st0 19 [.sl 3 l0 false, .sl 3 widths1 false] []
abbrev R_machine_valuesErr : Type := ((Int × Unit) × Unit)
noncomputable def res_machine_valuesErr : Res E (Int × Unit) Unit := { rows := [], flat := [], keep := 0, done := [0], rl := (RdL.cons (Rd.int .i64) RdL.nil), rb := RdBL.nil }
noncomputable def run_machine_valuesErr : P_machine_valuesErr → Option R_machine_valuesErr
 | .start l0 widths1 =>
   if ((List.length l0 : Int) != (List.length widths1 : Int)) = true then
     some (((10 : Int), ()), ())
   else
     (run_machine_each_int (.start l0 widths1)) >>= fun t1 =>
     some ((t1.1.2.1, ()), ())
noncomputable def tab_machine_valuesErr : List (Plc E P_machine_valuesErr) := []
theorem tab_machine_valuesErr_ok : All (PlcOk 19 0 place_machine_valuesErr st_machine_valuesErr) tab_machine_valuesErr := trivial
noncomputable def code_machine_valuesErr : Code := Tryz.f79.body.getD .skip
noncomputable def spec_machine_valuesErr : Spec E.S := (Con.add con_machine_each_int noSpec)
theorem spec_machine_valuesErr_ok : SpecOk E spec_machine_valuesErr := (Con.add_ok con_machine_each_int_ok noSpec_ok)
theorem good_machine_valuesErr : ∀ pt r, run_machine_valuesErr pt = some r → Good E Tryz.f79 code_machine_valuesErr 0 (res_machine_valuesErr.av r) (res_machine_valuesErr.bx r) (place_machine_valuesErr pt) (st_machine_valuesErr pt) := by
  intro pt r hr
  cases pt <;> exact fn_step (spec := spec_machine_valuesErr) (wr := (mkWr [] [])) (l := tab_machine_valuesErr) (z := 19) (p := res_machine_valuesErr) (run' := fun _ => none) E_ok tab_machine_valuesErr_ok.mem rfl spec_machine_valuesErr_ok (fun _ _ h => by cases h) (Eq.trans (by kernel_rfl) hr)
noncomputable def con_machine_valuesErr : Con E := ⟨79, ((List Int) × ((List Int) × Unit)), Unit, (RwL.cons (Rw.sl 3) (RwL.cons (Rw.sl 3) RwL.nil)), RdBL.nil, 0, R_machine_valuesErr, fun a b => run_machine_valuesErr (.start a.1 a.2.1), res_machine_valuesErr.av, res_machine_valuesErr.bx⟩
theorem con_machine_valuesErr_ok : con_machine_valuesErr.Ok := fun a b r h => fn_ok (fn := Tryz.f79) (code := code_machine_valuesErr) E_ok (by kernel_rfl) (by kernel_rfl) (by kernel_rfl) (Nat.le_of_ble_eq_true rfl) (good_machine_valuesErr (.start a.1 a.2.1) r h)

/-! ### ratchet/machine.kindAt -/
inductive P_machine_kindAt where
 | start (core0 : Int)
noncomputable def place_machine_kindAt : P_machine_kindAt → List Bool
 | .start .. => []
noncomputable def st_machine_kindAt : P_machine_kindAt → St E.S
 | .start core0 => st0 6 [.v (.int .i64 core0)] []
abbrev R_machine_kindAt : Type := ((Int × Unit) × Unit)
noncomputable def res_machine_kindAt : Res E (Int × Unit) Unit := { rows := [], flat := [], keep := 0, done := [0], rl := (RdL.cons (Rd.int .i64) RdL.nil), rb := RdBL.nil }
noncomputable def run_machine_kindAt : P_machine_kindAt → Option R_machine_kindAt
 | .start core0 =>
   some ((IntKind.wrap .i64 ((1 : Int) + (IntKind.wrap .i64 ((2 : Int) * core0))), ()), ())
noncomputable def tab_machine_kindAt : List (Plc E P_machine_kindAt) := []
theorem tab_machine_kindAt_ok : All (PlcOk 6 0 place_machine_kindAt st_machine_kindAt) tab_machine_kindAt := trivial
noncomputable def code_machine_kindAt : Code := Tryz.f80.body.getD .skip
noncomputable def spec_machine_kindAt : Spec E.S := noSpec
theorem spec_machine_kindAt_ok : SpecOk E spec_machine_kindAt := noSpec_ok
theorem good_machine_kindAt : ∀ pt r, run_machine_kindAt pt = some r → Good E Tryz.f80 code_machine_kindAt 0 (res_machine_kindAt.av r) (res_machine_kindAt.bx r) (place_machine_kindAt pt) (st_machine_kindAt pt) := by
  intro pt r hr
  cases pt <;> exact fn_step (spec := spec_machine_kindAt) (wr := (mkWr [] [])) (l := tab_machine_kindAt) (z := 6) (p := res_machine_kindAt) (run' := fun _ => none) E_ok tab_machine_kindAt_ok.mem rfl spec_machine_kindAt_ok (fun _ _ h => by cases h) (Eq.trans (by kernel_rfl) hr)
noncomputable def con_machine_kindAt : Con E := ⟨80, (Int × Unit), Unit, (RwL.cons (Rd.int .i64).w RwL.nil), RdBL.nil, 0, R_machine_kindAt, fun a b => run_machine_kindAt (.start a.1), res_machine_kindAt.av, res_machine_kindAt.bx⟩
theorem con_machine_kindAt_ok : con_machine_kindAt.Ok := fun a b r h => fn_ok (fn := Tryz.f80) (code := code_machine_kindAt) E_ok (by kernel_rfl) (by kernel_rfl) (by kernel_rfl) (Nat.le_of_ble_eq_true rfl) (good_machine_kindAt (.start a.1) r h)

/-! ### ratchet/machine.lineAt -/
inductive P_machine_lineAt where
 | start (core0 : Int)
noncomputable def place_machine_lineAt : P_machine_lineAt → List Bool
 | .start .. => []
noncomputable def st_machine_lineAt : P_machine_lineAt → St E.S
 | .start core0 => st0 6 [.v (.int .i64 core0)] []
abbrev R_machine_lineAt : Type := ((Int × Unit) × Unit)
noncomputable def res_machine_lineAt : Res E (Int × Unit) Unit := { rows := [], flat := [], keep := 0, done := [0], rl := (RdL.cons (Rd.int .i64) RdL.nil), rb := RdBL.nil }
noncomputable def run_machine_lineAt : P_machine_lineAt → Option R_machine_lineAt
 | .start core0 =>
   some ((IntKind.wrap .i64 ((2 : Int) + (IntKind.wrap .i64 ((2 : Int) * core0))), ()), ())
noncomputable def tab_machine_lineAt : List (Plc E P_machine_lineAt) := []
theorem tab_machine_lineAt_ok : All (PlcOk 6 0 place_machine_lineAt st_machine_lineAt) tab_machine_lineAt := trivial
noncomputable def code_machine_lineAt : Code := Tryz.f81.body.getD .skip
noncomputable def spec_machine_lineAt : Spec E.S := noSpec
theorem spec_machine_lineAt_ok : SpecOk E spec_machine_lineAt := noSpec_ok
theorem good_machine_lineAt : ∀ pt r, run_machine_lineAt pt = some r → Good E Tryz.f81 code_machine_lineAt 0 (res_machine_lineAt.av r) (res_machine_lineAt.bx r) (place_machine_lineAt pt) (st_machine_lineAt pt) := by
  intro pt r hr
  cases pt <;> exact fn_step (spec := spec_machine_lineAt) (wr := (mkWr [] [])) (l := tab_machine_lineAt) (z := 6) (p := res_machine_lineAt) (run' := fun _ => none) E_ok tab_machine_lineAt_ok.mem rfl spec_machine_lineAt_ok (fun _ _ h => by cases h) (Eq.trans (by kernel_rfl) hr)
noncomputable def con_machine_lineAt : Con E := ⟨81, (Int × Unit), Unit, (RwL.cons (Rd.int .i64).w RwL.nil), RdBL.nil, 0, R_machine_lineAt, fun a b => run_machine_lineAt (.start a.1), res_machine_lineAt.av, res_machine_lineAt.bx⟩
theorem con_machine_lineAt_ok : con_machine_lineAt.Ok := fun a b r h => fn_ok (fn := Tryz.f81) (code := code_machine_lineAt) E_ok (by kernel_rfl) (by kernel_rfl) (by kernel_rfl) (Nat.le_of_ble_eq_true rfl) (good_machine_lineAt (.start a.1) r h)

/-! ### ratchet/machine.IsCoherent -/
inductive P_machine_IsCoherent where
 | start (width0 : Int) (state1 : (List Int))
 | p63 (state1 : (List Int)) (coherent10 : Bool)
 | p1012 (state1 : (List Int)) (coherent10 : Bool) (s46 : Int)
noncomputable def place_machine_IsCoherent : P_machine_IsCoherent → List Bool
 | .start .. => []
 | .p63 .. => [true, true, true, true, true]
 | .p1012 .. => [false, false, true, false, true, true, true, true, true]
noncomputable def st_machine_IsCoherent : P_machine_IsCoherent → St E.S
 | .start width0 state1 => st0 71 [.v (.int .i64 width0), .sl 3 state1 false] []
 | .p63 state1 coherent10 => mkSt 71 [1, 10] [.sl 3 state1 false, .v (.bool coherent10)] []
 | .p1012 state1 coherent10 s46 => mkSt 71 [1, 10, 46] [.sl 3 state1 false, .v (.bool coherent10), .v (.int .i64 s46)] []
abbrev R_machine_IsCoherent : Type := ((Bool × (Int × Unit)) × Unit)
noncomputable def res_machine_IsCoherent : Res E (Bool × (Int × Unit)) Unit := { rows := [], flat := [], keep := 0, done := [0, 1], rl := (RdL.cons Rd.bool (RdL.cons (Rd.int .i64) RdL.nil)), rb := RdBL.nil }
noncomputable def run_machine_IsCoherent : P_machine_IsCoherent → Option R_machine_IsCoherent
 | .start width0 state1 =>
   (run_machine_lineErr (.start width0)) >>= fun t1 =>
   if (t1.1.1 != (0 : Int)) = true then
     some ((false, (t1.1.1, ())), ())
   else
     (run_machine_valuesErr (.start state1 ([width0, (2 : Int), width0, (2 : Int), width0] : List Int))) >>= fun t2 =>
     if (t2.1.1 != (0 : Int)) = true then
       some ((false, (t2.1.1, ())), ())
     else
       (run_machine_kindAt (.start (0 : Int))) >>= fun t3 =>
       (idx state1 t3.1.1) >>= fun t4 =>
       (run_machine_kindAt (.start (1 : Int))) >>= fun t5 =>
       (idx state1 t5.1.1) >>= fun t6 =>
       if (decide (t4 ≤ (2 : Int))) = true then
         if (decide (t6 ≤ (2 : Int))) = true then
           run_machine_IsCoherent (.p63 state1 (decide ((IntKind.wrap .i64 (t4 + t6)) ≤ (2 : Int))))
         else
           run_machine_IsCoherent (.p63 state1 false)
       else
         run_machine_IsCoherent (.p63 state1 false)
 | .p63 state1 coherent10 =>
   run_machine_IsCoherent (.p1012 state1 coherent10 (0 : Int))
 | .p1012 state1 coherent10 s46 =>
   if (decide (s46 < (2 : Int))) = true then
     if coherent10 = true then
       (run_machine_kindAt (.start s46)) >>= fun t1 =>
       (idx state1 t1.1.1) >>= fun t2 =>
       if (t2 != (1 : Int)) = true then
         run_machine_IsCoherent (.p1012 state1 true (IntKind.wrap .i64 (s46 + (1 : Int))))
       else
         (run_machine_lineAt (.start s46)) >>= fun t3 =>
         (idx state1 t3.1.1) >>= fun t4 =>
         (idx state1 (0 : Int)) >>= fun t5 =>
         run_machine_IsCoherent (.p1012 state1 (t4 == t5) (IntKind.wrap .i64 (s46 + (1 : Int))))
     else
       run_machine_IsCoherent (.p1012 state1 false (IntKind.wrap .i64 (s46 + (1 : Int))))
   else
     some ((coherent10, ((0 : Int), ())), ())
  partial_fixpoint
noncomputable def tab_machine_IsCoherent : List (Plc E P_machine_IsCoherent) := [⟨63, [true, true, true, true, true], { slots := [1, 10], rows := [], flat := [], keep := 0 }, ((List Int) × (Bool × Unit)), Unit, (RdL.cons (Rd.sl 3 false) (RdL.cons Rd.bool RdL.nil)), RdBL.nil, fun a b => .p63 a.1 a.2.1⟩,
  ⟨1012, [false, false, true, false, true, true, true, true, true], { slots := [1, 10, 46], rows := [], flat := [], keep := 0 }, ((List Int) × (Bool × (Int × Unit))), Unit, (RdL.cons (Rd.sl 3 false) (RdL.cons Rd.bool (RdL.cons (Rd.int .i64) RdL.nil))), RdBL.nil, fun a b => .p1012 a.1 a.2.1 a.2.2.1⟩]
theorem tab_machine_IsCoherent_ok : All (PlcOk 71 0 place_machine_IsCoherent st_machine_IsCoherent) tab_machine_IsCoherent := ⟨⟨rfl, rfl, fun _ _ => rfl, fun _ _ => rfl⟩, ⟨⟨rfl, rfl, fun _ _ => rfl, fun _ _ => rfl⟩, trivial⟩⟩
noncomputable def code_machine_IsCoherent : Code := Tryz.f35.body.getD .skip
noncomputable def spec_machine_IsCoherent : Spec E.S := (Con.add con_machine_lineAt (Con.add con_machine_kindAt (Con.add con_machine_valuesErr (Con.add con_machine_lineErr noSpec))))
theorem spec_machine_IsCoherent_ok : SpecOk E spec_machine_IsCoherent := (Con.add_ok con_machine_lineAt_ok (Con.add_ok con_machine_kindAt_ok (Con.add_ok con_machine_valuesErr_ok (Con.add_ok con_machine_lineErr_ok noSpec_ok))))
theorem good_machine_IsCoherent : ∀ pt r, run_machine_IsCoherent pt = some r → Good E Tryz.f35 code_machine_IsCoherent 0 (res_machine_IsCoherent.av r) (res_machine_IsCoherent.bx r) (place_machine_IsCoherent pt) (st_machine_IsCoherent pt) := by
  refine run_machine_IsCoherent.partial_correctness (fun pt r => Good E Tryz.f35 code_machine_IsCoherent 0 (res_machine_IsCoherent.av r) (res_machine_IsCoherent.bx r) (place_machine_IsCoherent pt) (st_machine_IsCoherent pt)) ?_
  intro run' ih pt r hr
  cases pt <;> exact fn_step (spec := spec_machine_IsCoherent) (wr := (mkWr [] [])) (l := tab_machine_IsCoherent) (z := 71) (p := res_machine_IsCoherent) E_ok tab_machine_IsCoherent_ok.mem rfl spec_machine_IsCoherent_ok ih (Eq.trans (by kernel_rfl) hr)
noncomputable def con_machine_IsCoherent : Con E := ⟨35, (Int × ((List Int) × Unit)), Unit, (RwL.cons (Rd.int .i64).w (RwL.cons (Rw.sl 3) RwL.nil)), RdBL.nil, 0, R_machine_IsCoherent, fun a b => run_machine_IsCoherent (.start a.1 a.2.1), res_machine_IsCoherent.av, res_machine_IsCoherent.bx⟩
theorem con_machine_IsCoherent_ok : con_machine_IsCoherent.Ok := fun a b r h => fn_ok (fn := Tryz.f35) (code := code_machine_IsCoherent) E_ok (by kernel_rfl) (by kernel_rfl) (by kernel_rfl) (Nat.le_of_ble_eq_true rfl) (good_machine_IsCoherent (.start a.1 a.2.1) r h)

/-! ### ratchet/ratchetbase.Within -/
inductive P_ratchetbase_Within where
 | start (n0 : Int) (lo1 : Int) (hi2 : Int)
noncomputable def place_ratchetbase_Within : P_ratchetbase_Within → List Bool
 | .start .. => []
noncomputable def st_ratchetbase_Within : P_ratchetbase_Within → St E.S
 | .start n0 lo1 hi2 => st0 15 [.v (.int .i64 n0), .v (.int .i64 lo1), .v (.int .i64 hi2)] []
abbrev R_ratchetbase_Within : Type := ((Bool × Unit) × Unit)
noncomputable def res_ratchetbase_Within : Res E (Bool × Unit) Unit := { rows := [], flat := [], keep := 0, done := [0], rl := (RdL.cons Rd.bool RdL.nil), rb := RdBL.nil }
noncomputable def run_ratchetbase_Within : P_ratchetbase_Within → Option R_ratchetbase_Within
 | .start n0 lo1 hi2 =>
   if (decide (lo1 ≤ n0)) = true then
     some ((decide (n0 ≤ hi2), ()), ())
   else
     some ((false, ()), ())
noncomputable def tab_ratchetbase_Within : List (Plc E P_ratchetbase_Within) := []
theorem tab_ratchetbase_Within_ok : All (PlcOk 15 0 place_ratchetbase_Within st_ratchetbase_Within) tab_ratchetbase_Within := trivial
noncomputable def code_ratchetbase_Within : Code := Tryz.f54.body.getD .skip
noncomputable def spec_ratchetbase_Within : Spec E.S := noSpec
theorem spec_ratchetbase_Within_ok : SpecOk E spec_ratchetbase_Within := noSpec_ok
theorem good_ratchetbase_Within : ∀ pt r, run_ratchetbase_Within pt = some r → Good E Tryz.f54 code_ratchetbase_Within 0 (res_ratchetbase_Within.av r) (res_ratchetbase_Within.bx r) (place_ratchetbase_Within pt) (st_ratchetbase_Within pt) := by
  intro pt r hr
  cases pt <;> exact fn_step (spec := spec_ratchetbase_Within) (wr := (mkWr [] [])) (l := tab_ratchetbase_Within) (z := 15) (p := res_ratchetbase_Within) (run' := fun _ => none) E_ok tab_ratchetbase_Within_ok.mem rfl spec_ratchetbase_Within_ok (fun _ _ h => by cases h) (Eq.trans (by kernel_rfl) hr)
noncomputable def con_ratchetbase_Within : Con E := ⟨54, (Int × (Int × (Int × Unit))), Unit, (RwL.cons (Rd.int .i64).w (RwL.cons (Rd.int .i64).w (RwL.cons (Rd.int .i64).w RwL.nil))), RdBL.nil, 0, R_ratchetbase_Within, fun a b => run_ratchetbase_Within (.start a.1 a.2.1 a.2.2.1), res_ratchetbase_Within.av, res_ratchetbase_Within.bx⟩
theorem con_ratchetbase_Within_ok : con_ratchetbase_Within.Ok := fun a b r h => fn_ok (fn := Tryz.f54) (code := code_ratchetbase_Within) E_ok (by kernel_rfl) (by kernel_rfl) (by kernel_rfl) (Nat.le_of_ble_eq_true rfl) (good_ratchetbase_Within (.start a.1 a.2.1 a.2.2.1) r h)

/-! ### ratchet/ratchetref31.WidthErr -/
inductive P_ratchetref31_WidthErr where
 | start (width0 : Int)
noncomputable def place_ratchetref31_WidthErr : P_ratchetref31_WidthErr → List Bool
 | .start .. => []
noncomputable def st_ratchetref31_WidthErr : P_ratchetref31_WidthErr → St E.S
 | .start width0 => st0 6 [.v (.int .i64 width0)] []
abbrev R_ratchetref31_WidthErr : Type := ((Int × Unit) × Unit)
noncomputable def res_ratchetref31_WidthErr : Res E (Int × Unit) Unit := { rows := [], flat := [], keep := 0, done := [0], rl := (RdL.cons (Rd.int .i64) RdL.nil), rb := RdBL.nil }
noncomputable def run_ratchetref31_WidthErr : P_ratchetref31_WidthErr → Option R_ratchetref31_WidthErr
 | .start width0 =>
   (run_ratchetbase_Within (.start width0 (1 : Int) (3 : Int))) >>= fun t1 =>
   if (!t1.1.1) = true then
     some (((2 : Int), ()), ())
   else
     some (((0 : Int), ()), ())
noncomputable def tab_ratchetref31_WidthErr : List (Plc E P_ratchetref31_WidthErr) := []
theorem tab_ratchetref31_WidthErr_ok : All (PlcOk 6 0 place_ratchetref31_WidthErr st_ratchetref31_WidthErr) tab_ratchetref31_WidthErr := trivial
noncomputable def code_ratchetref31_WidthErr : Code := Tryz.f39.body.getD .skip
noncomputable def spec_ratchetref31_WidthErr : Spec E.S := (Con.add con_ratchetbase_Within noSpec)
theorem spec_ratchetref31_WidthErr_ok : SpecOk E spec_ratchetref31_WidthErr := (Con.add_ok con_ratchetbase_Within_ok noSpec_ok)
theorem good_ratchetref31_WidthErr : ∀ pt r, run_ratchetref31_WidthErr pt = some r → Good E Tryz.f39 code_ratchetref31_WidthErr 0 (res_ratchetref31_WidthErr.av r) (res_ratchetref31_WidthErr.bx r) (place_ratchetref31_WidthErr pt) (st_ratchetref31_WidthErr pt) := by
  intro pt r hr
  cases pt <;> exact fn_step (spec := spec_ratchetref31_WidthErr) (wr := (mkWr [] [])) (l := tab_ratchetref31_WidthErr) (z := 6) (p := res_ratchetref31_WidthErr) (run' := fun _ => none) E_ok tab_ratchetref31_WidthErr_ok.mem rfl spec_ratchetref31_WidthErr_ok (fun _ _ h => by cases h) (Eq.trans (by kernel_rfl) hr)
noncomputable def con_ratchetref31_WidthErr : Con E := ⟨39, (Int × Unit), Unit, (RwL.cons (Rd.int .i64).w RwL.nil), RdBL.nil, 0, R_ratchetref31_WidthErr, fun a b => run_ratchetref31_WidthErr (.start a.1), res_ratchetref31_WidthErr.av, res_ratchetref31_WidthErr.bx⟩
theorem con_ratchetref31_WidthErr_ok : con_ratchetref31_WidthErr.Ok := fun a b r h => fn_ok (fn := Tryz.f39) (code := code_ratchetref31_WidthErr) E_ok (by kernel_rfl) (by kernel_rfl) (by kernel_rfl) (Nat.le_of_ble_eq_true rfl) (good_ratchetref31_WidthErr (.start a.1) r h)

/-! ### ratchet/ratchetbase.Power -/
inductive P_ratchetbase_Power where
 | start (n0 : Int)
noncomputable def place_ratchetbase_Power : P_ratchetbase_Power → List Bool
 | .start .. => []
noncomputable def st_ratchetbase_Power : P_ratchetbase_Power → St E.S
 | .start n0 => st0 5 [.v (.int .i64 n0)] []
abbrev R_ratchetbase_Power : Type := ((Int × Unit) × Unit)
noncomputable def res_ratchetbase_Power : Res E (Int × Unit) Unit := { rows := [], flat := [], keep := 0, done := [0], rl := (RdL.cons (Rd.int .i64) RdL.nil), rb := RdBL.nil }
noncomputable def run_ratchetbase_Power : P_ratchetbase_Power → Option R_ratchetbase_Power
 | .start n0 =>
   if (decide ((0 : Int) ≤ n0)) = true then
     some ((shl .i64 (1 : Int) n0, ()), ())
   else none
noncomputable def tab_ratchetbase_Power : List (Plc E P_ratchetbase_Power) := []
theorem tab_ratchetbase_Power_ok : All (PlcOk 5 0 place_ratchetbase_Power st_ratchetbase_Power) tab_ratchetbase_Power := trivial
noncomputable def code_ratchetbase_Power : Code := Tryz.f92.body.getD .skip
noncomputable def spec_ratchetbase_Power : Spec E.S := noSpec
theorem spec_ratchetbase_Power_ok : SpecOk E spec_ratchetbase_Power := noSpec_ok
theorem good_ratchetbase_Power : ∀ pt r, run_ratchetbase_Power pt = some r → Good E Tryz.f92 code_ratchetbase_Power 0 (res_ratchetbase_Power.av r) (res_ratchetbase_Power.bx r) (place_ratchetbase_Power pt) (st_ratchetbase_Power pt) := by
  intro pt r hr
  cases pt <;> exact fn_step (spec := spec_ratchetbase_Power) (wr := (mkWr [] [])) (l := tab_ratchetbase_Power) (z := 5) (p := res_ratchetbase_Power) (run' := fun _ => none) E_ok tab_ratchetbase_Power_ok.mem rfl spec_ratchetbase_Power_ok (fun _ _ h => by cases h) (Eq.trans (by kernel_rfl) hr)
noncomputable def con_ratchetbase_Power : Con E := ⟨92, (Int × Unit), Unit, (RwL.cons (Rd.int .i64).w RwL.nil), RdBL.nil, 0, R_ratchetbase_Power, fun a b => run_ratchetbase_Power (.start a.1), res_ratchetbase_Power.av, res_ratchetbase_Power.bx⟩
theorem con_ratchetbase_Power_ok : con_ratchetbase_Power.Ok := fun a b r h => fn_ok (fn := Tryz.f92) (code := code_ratchetbase_Power) E_ok (by kernel_rfl) (by kernel_rfl) (by kernel_rfl) (Nat.le_of_ble_eq_true rfl) (good_ratchetbase_Power (.start a.1) r h)

/-! ### ratchet/ratchetbase.Fits -/
inductive P_ratchetbase_Fits where
 | start (n0 : Int) (width1 : Int)
noncomputable def place_ratchetbase_Fits : P_ratchetbase_Fits → List Bool
 | .start .. => []
noncomputable def st_ratchetbase_Fits : P_ratchetbase_Fits → St E.S
 | .start n0 width1 => st0 10 [.v (.int .i64 n0), .v (.int .i64 width1)] []
abbrev R_ratchetbase_Fits : Type := ((Bool × Unit) × Unit)
noncomputable def res_ratchetbase_Fits : Res E (Bool × Unit) Unit := { rows := [], flat := [], keep := 0, done := [0], rl := (RdL.cons Rd.bool RdL.nil), rb := RdBL.nil }
noncomputable def run_ratchetbase_Fits : P_ratchetbase_Fits → Option R_ratchetbase_Fits
 | .start n0 width1 =>
   (run_ratchetbase_Power (.start width1)) >>= fun t1 =>
   (run_ratchetbase_Within (.start n0 (0 : Int) (IntKind.wrap .i64 (t1.1.1 - (1 : Int))))) >>= fun t2 =>
   some ((t2.1.1, ()), ())
noncomputable def tab_ratchetbase_Fits : List (Plc E P_ratchetbase_Fits) := []
theorem tab_ratchetbase_Fits_ok : All (PlcOk 10 0 place_ratchetbase_Fits st_ratchetbase_Fits) tab_ratchetbase_Fits := trivial
noncomputable def code_ratchetbase_Fits : Code := Tryz.f126.body.getD .skip
noncomputable def spec_ratchetbase_Fits : Spec E.S := (Con.add con_ratchetbase_Within (Con.add con_ratchetbase_Power noSpec))
theorem spec_ratchetbase_Fits_ok : SpecOk E spec_ratchetbase_Fits := (Con.add_ok con_ratchetbase_Within_ok (Con.add_ok con_ratchetbase_Power_ok noSpec_ok))
theorem good_ratchetbase_Fits : ∀ pt r, run_ratchetbase_Fits pt = some r → Good E Tryz.f126 code_ratchetbase_Fits 0 (res_ratchetbase_Fits.av r) (res_ratchetbase_Fits.bx r) (place_ratchetbase_Fits pt) (st_ratchetbase_Fits pt) := by
  intro pt r hr
  cases pt <;> exact fn_step (spec := spec_ratchetbase_Fits) (wr := (mkWr [] [])) (l := tab_ratchetbase_Fits) (z := 10) (p := res_ratchetbase_Fits) (run' := fun _ => none) E_ok tab_ratchetbase_Fits_ok.mem rfl spec_ratchetbase_Fits_ok (fun _ _ h => by cases h) (Eq.trans (by kernel_rfl) hr)
noncomputable def con_ratchetbase_Fits : Con E := ⟨126, (Int × (Int × Unit)), Unit, (RwL.cons (Rd.int .i64).w (RwL.cons (Rd.int .i64).w RwL.nil)), RdBL.nil, 0, R_ratchetbase_Fits, fun a b => run_ratchetbase_Fits (.start a.1 a.2.1), res_ratchetbase_Fits.av, res_ratchetbase_Fits.bx⟩
theorem con_ratchetbase_Fits_ok : con_ratchetbase_Fits.Ok := fun a b r h => fn_ok (fn := Tryz.f126) (code := code_ratchetbase_Fits) E_ok (by kernel_rfl) (by kernel_rfl) (by kernel_rfl) (Nat.le_of_ble_eq_true rfl) (good_ratchetbase_Fits (.start a.1 a.2.1) r h)

/-! ### ratchet/ratchetbase.IsValues -/
inductive P_ratchetbase_IsValues where
 | start (widths0 : (List Int)) (values1 : (List Int))
 | p116 (widths0 : (List Int)) (values1 : (List Int)) (i5 : Int)
noncomputable def place_ratchetbase_IsValues : P_ratchetbase_IsValues → List Bool
 | .start .. => []
 | .p116 .. => [false, false, true, false, true, true]
noncomputable def st_ratchetbase_IsValues : P_ratchetbase_IsValues → St E.S
 | .start widths0 values1 => st0 27 [.sl 3 widths0 false, .sl 3 values1 false] []
 | .p116 widths0 values1 i5 => mkSt 27 [0, 1, 5] [.sl 3 widths0 false, .sl 3 values1 false, .v (.int .i64 i5)] []
abbrev R_ratchetbase_IsValues : Type := ((Bool × Unit) × Unit)
noncomputable def res_ratchetbase_IsValues : Res E (Bool × Unit) Unit := { rows := [], flat := [], keep := 0, done := [0], rl := (RdL.cons Rd.bool RdL.nil), rb := RdBL.nil }
noncomputable def run_ratchetbase_IsValues : P_ratchetbase_IsValues → Option R_ratchetbase_IsValues
 | .start widths0 values1 =>
   if ((List.length widths0 : Int) != (List.length values1 : Int)) = true then
     some ((false, ()), ())
   else
     run_ratchetbase_IsValues (.p116 widths0 values1 (0 : Int))
 | .p116 widths0 values1 i5 =>
   if (decide (i5 < (List.length values1 : Int))) = true then
     (idx values1 i5) >>= fun t1 =>
     (idx widths0 i5) >>= fun t2 =>
     (run_ratchetbase_Fits (.start t1 t2)) >>= fun t3 =>
     if (!t3.1.1) = true then
       some ((false, ()), ())
     else
       run_ratchetbase_IsValues (.p116 widths0 values1 (IntKind.wrap .i64 (i5 + (1 : Int))))
   else
     some ((true, ()), ())
  partial_fixpoint
noncomputable def tab_ratchetbase_IsValues : List (Plc E P_ratchetbase_IsValues) := [⟨116, [false, false, true, false, true, true], { slots := [0, 1, 5], rows := [], flat := [], keep := 0 }, ((List Int) × ((List Int) × (Int × Unit))), Unit, (RdL.cons (Rd.sl 3 false) (RdL.cons (Rd.sl 3 false) (RdL.cons (Rd.int .i64) RdL.nil))), RdBL.nil, fun a b => .p116 a.1 a.2.1 a.2.2.1⟩]
theorem tab_ratchetbase_IsValues_ok : All (PlcOk 27 0 place_ratchetbase_IsValues st_ratchetbase_IsValues) tab_ratchetbase_IsValues := ⟨⟨rfl, rfl, fun _ _ => rfl, fun _ _ => rfl⟩, trivial⟩
noncomputable def code_ratchetbase_IsValues : Code := Tryz.f82.body.getD .skip
noncomputable def spec_ratchetbase_IsValues : Spec E.S := (Con.add con_ratchetbase_Fits noSpec)
theorem spec_ratchetbase_IsValues_ok : SpecOk E spec_ratchetbase_IsValues := (Con.add_ok con_ratchetbase_Fits_ok noSpec_ok)
theorem good_ratchetbase_IsValues : ∀ pt r, run_ratchetbase_IsValues pt = some r → Good E Tryz.f82 code_ratchetbase_IsValues 0 (res_ratchetbase_IsValues.av r) (res_ratchetbase_IsValues.bx r) (place_ratchetbase_IsValues pt) (st_ratchetbase_IsValues pt) := by
  refine run_ratchetbase_IsValues.partial_correctness (fun pt r => Good E Tryz.f82 code_ratchetbase_IsValues 0 (res_ratchetbase_IsValues.av r) (res_ratchetbase_IsValues.bx r) (place_ratchetbase_IsValues pt) (st_ratchetbase_IsValues pt)) ?_
  intro run' ih pt r hr
  cases pt <;> exact fn_step (spec := spec_ratchetbase_IsValues) (wr := (mkWr [] [])) (l := tab_ratchetbase_IsValues) (z := 27) (p := res_ratchetbase_IsValues) E_ok tab_ratchetbase_IsValues_ok.mem rfl spec_ratchetbase_IsValues_ok ih (Eq.trans (by kernel_rfl) hr)
noncomputable def con_ratchetbase_IsValues : Con E := ⟨82, ((List Int) × ((List Int) × Unit)), Unit, (RwL.cons (Rw.sl 3) (RwL.cons (Rw.sl 3) RwL.nil)), RdBL.nil, 0, R_ratchetbase_IsValues, fun a b => run_ratchetbase_IsValues (.start a.1 a.2.1), res_ratchetbase_IsValues.av, res_ratchetbase_IsValues.bx⟩
theorem con_ratchetbase_IsValues_ok : con_ratchetbase_IsValues.Ok := fun a b r h => fn_ok (fn := Tryz.f82) (code := code_ratchetbase_IsValues) E_ok (by kernel_rfl) (by kernel_rfl) (by kernel_rfl) (Nat.le_of_ble_eq_true rfl) (good_ratchetbase_IsValues (.start a.1 a.2.1) r h)

/-! ### ratchet/ratchetref31.CacheErr -/
inductive P_ratchetref31_CacheErr where
 | start (width0 : Int) (state1 : (List Int))
noncomputable def place_ratchetref31_CacheErr : P_ratchetref31_CacheErr → List Bool
 | .start .. => []
noncomputable def st_ratchetref31_CacheErr : P_ratchetref31_CacheErr → St E.S
 | .start width0 state1 => st0 25 [.v (.int .i64 width0), .sl 3 state1 false] []
abbrev R_ratchetref31_CacheErr : Type := ((Int × Unit) × Unit)
noncomputable def res_ratchetref31_CacheErr : Res E (Int × Unit) Unit := { rows := [], flat := [], keep := 0, done := [0], rl := (RdL.cons (Rd.int .i64) RdL.nil), rb := RdBL.nil }
noncomputable def run_ratchetref31_CacheErr : P_ratchetref31_CacheErr → Option R_ratchetref31_CacheErr
 | .start width0 state1 =>
   (run_ratchetref31_WidthErr (.start width0)) >>= fun t1 =>
   if (t1.1.1 != (0 : Int)) = true then
     some ((t1.1.1, ()), ())
   else
     if ((List.length state1 : Int) != (List.length ([width0, (2 : Int), width0, (2 : Int), width0] : List Int) : Int)) = true then
       some (((10 : Int), ()), ())
     else
       (run_ratchetbase_IsValues (.start ([width0, (2 : Int), width0, (2 : Int), width0] : List Int) state1)) >>= fun t2 =>
       if (!t2.1.1) = true then
         some (((2 : Int), ()), ())
       else
         some (((0 : Int), ()), ())
noncomputable def tab_ratchetref31_CacheErr : List (Plc E P_ratchetref31_CacheErr) := []
theorem tab_ratchetref31_CacheErr_ok : All (PlcOk 25 0 place_ratchetref31_CacheErr st_ratchetref31_CacheErr) tab_ratchetref31_CacheErr := trivial
noncomputable def code_ratchetref31_CacheErr : Code := Tryz.f36.body.getD .skip
noncomputable def spec_ratchetref31_CacheErr : Spec E.S := (Con.add con_ratchetbase_IsValues (Con.add con_ratchetref31_WidthErr noSpec))
theorem spec_ratchetref31_CacheErr_ok : SpecOk E spec_ratchetref31_CacheErr := (Con.add_ok con_ratchetbase_IsValues_ok (Con.add_ok con_ratchetref31_WidthErr_ok noSpec_ok))
theorem good_ratchetref31_CacheErr : ∀ pt r, run_ratchetref31_CacheErr pt = some r → Good E Tryz.f36 code_ratchetref31_CacheErr 0 (res_ratchetref31_CacheErr.av r) (res_ratchetref31_CacheErr.bx r) (place_ratchetref31_CacheErr pt) (st_ratchetref31_CacheErr pt) := by
  intro pt r hr
  cases pt <;> exact fn_step (spec := spec_ratchetref31_CacheErr) (wr := (mkWr [] [])) (l := tab_ratchetref31_CacheErr) (z := 25) (p := res_ratchetref31_CacheErr) (run' := fun _ => none) E_ok tab_ratchetref31_CacheErr_ok.mem rfl spec_ratchetref31_CacheErr_ok (fun _ _ h => by cases h) (Eq.trans (by kernel_rfl) hr)
noncomputable def con_ratchetref31_CacheErr : Con E := ⟨36, (Int × ((List Int) × Unit)), Unit, (RwL.cons (Rd.int .i64).w (RwL.cons (Rw.sl 3) RwL.nil)), RdBL.nil, 0, R_ratchetref31_CacheErr, fun a b => run_ratchetref31_CacheErr (.start a.1 a.2.1), res_ratchetref31_CacheErr.av, res_ratchetref31_CacheErr.bx⟩
theorem con_ratchetref31_CacheErr_ok : con_ratchetref31_CacheErr.Ok := fun a b r h => fn_ok (fn := Tryz.f36) (code := code_ratchetref31_CacheErr) E_ok (by kernel_rfl) (by kernel_rfl) (by kernel_rfl) (Nat.le_of_ble_eq_true rfl) (good_ratchetref31_CacheErr (.start a.1 a.2.1) r h)

/-! ### ratchet/ratchetref31.IsCoherent -/
inductive P_ratchetref31_IsCoherent where
 | start (s0 : (List Int))
 | p7 (s0 : (List Int))
noncomputable def place_ratchetref31_IsCoherent : P_ratchetref31_IsCoherent → List Bool
 | .start .. => []
 | .p7 .. => [true, true]
noncomputable def st_ratchetref31_IsCoherent : P_ratchetref31_IsCoherent → St E.S
 | .start s0 => st0 65 [.sl 3 s0 false] []
 | .p7 s0 => mkSt 65 [0] [.sl 3 s0 false] []
abbrev R_ratchetref31_IsCoherent : Type := ((Bool × Unit) × Unit)
noncomputable def res_ratchetref31_IsCoherent : Res E (Bool × Unit) Unit := { rows := [], flat := [], keep := 0, done := [0], rl := (RdL.cons Rd.bool RdL.nil), rb := RdBL.nil }
noncomputable def run_ratchetref31_IsCoherent : P_ratchetref31_IsCoherent → Option R_ratchetref31_IsCoherent
 | .start s0 =>
   (idx s0 (1 : Int)) >>= fun t1 =>
   if (t1 == (3 : Int)) = true then
     some ((false, ()), ())
   else
     (idx s0 (3 : Int)) >>= fun t2 =>
     if (t2 == (3 : Int)) = true then
       some ((false, ()), ())
     else
       (idx s0 (1 : Int)) >>= fun t3 =>
       if (t3 == (2 : Int)) = true then
         (idx s0 (3 : Int)) >>= fun t4 =>
         if (decide (t4 > (0 : Int))) = true then
           some ((false, ()), ())
         else
           (idx s0 (3 : Int)) >>= fun t5 =>
           if (t5 == (2 : Int)) = true then
             (idx s0 (1 : Int)) >>= fun t6 =>
             if (decide (t6 > (0 : Int))) = true then
               some ((false, ()), ())
             else
               run_ratchetref31_IsCoherent (.p7 s0)
           else
             run_ratchetref31_IsCoherent (.p7 s0)
       else
         (idx s0 (3 : Int)) >>= fun t7 =>
         if (t7 == (2 : Int)) = true then
           (idx s0 (1 : Int)) >>= fun t8 =>
           if (decide (t8 > (0 : Int))) = true then
             some ((false, ()), ())
           else
             run_ratchetref31_IsCoherent (.p7 s0)
         else
           run_ratchetref31_IsCoherent (.p7 s0)
 | .p7 s0 =>
   (idx s0 (1 : Int)) >>= fun t1 =>
   if (t1 != (1 : Int)) = true then
     (idx s0 (3 : Int)) >>= fun t2 =>
     if (t2 != (1 : Int)) = true then
       some ((true, ()), ())
     else
       (idx s0 (4 : Int)) >>= fun t3 =>
       (idx s0 (0 : Int)) >>= fun t4 =>
       some ((t3 == t4, ()), ())
   else
     (idx s0 (2 : Int)) >>= fun t5 =>
     (idx s0 (0 : Int)) >>= fun t6 =>
     if (t5 == t6) = true then
       (idx s0 (3 : Int)) >>= fun t7 =>
       if (t7 != (1 : Int)) = true then
         some ((true, ()), ())
       else
         (idx s0 (4 : Int)) >>= fun t8 =>
         (idx s0 (0 : Int)) >>= fun t9 =>
         some ((t8 == t9, ()), ())
     else
       some ((false, ()), ())
  partial_fixpoint
noncomputable def tab_ratchetref31_IsCoherent : List (Plc E P_ratchetref31_IsCoherent) := [⟨7, [true, true], { slots := [0], rows := [], flat := [], keep := 0 }, ((List Int) × Unit), Unit, (RdL.cons (Rd.sl 3 false) RdL.nil), RdBL.nil, fun a b => .p7 a.1⟩]
theorem tab_ratchetref31_IsCoherent_ok : All (PlcOk 65 0 place_ratchetref31_IsCoherent st_ratchetref31_IsCoherent) tab_ratchetref31_IsCoherent := ⟨⟨rfl, rfl, fun _ _ => rfl, fun _ _ => rfl⟩, trivial⟩
noncomputable def code_ratchetref31_IsCoherent : Code := Tryz.f37.body.getD .skip
noncomputable def spec_ratchetref31_IsCoherent : Spec E.S := noSpec
theorem spec_ratchetref31_IsCoherent_ok : SpecOk E spec_ratchetref31_IsCoherent := noSpec_ok
theorem good_ratchetref31_IsCoherent : ∀ pt r, run_ratchetref31_IsCoherent pt = some r → Good E Tryz.f37 code_ratchetref31_IsCoherent 0 (res_ratchetref31_IsCoherent.av r) (res_ratchetref31_IsCoherent.bx r) (place_ratchetref31_IsCoherent pt) (st_ratchetref31_IsCoherent pt) := by
  refine run_ratchetref31_IsCoherent.partial_correctness (fun pt r => Good E Tryz.f37 code_ratchetref31_IsCoherent 0 (res_ratchetref31_IsCoherent.av r) (res_ratchetref31_IsCoherent.bx r) (place_ratchetref31_IsCoherent pt) (st_ratchetref31_IsCoherent pt)) ?_
  intro run' ih pt r hr
  cases pt <;> exact fn_step (spec := spec_ratchetref31_IsCoherent) (wr := (mkWr [] [])) (l := tab_ratchetref31_IsCoherent) (z := 65) (p := res_ratchetref31_IsCoherent) E_ok tab_ratchetref31_IsCoherent_ok.mem rfl spec_ratchetref31_IsCoherent_ok ih (Eq.trans (by kernel_rfl) hr)
noncomputable def con_ratchetref31_IsCoherent : Con E := ⟨37, ((List Int) × Unit), Unit, (RwL.cons (Rw.sl 3) RwL.nil), RdBL.nil, 0, R_ratchetref31_IsCoherent, fun a b => run_ratchetref31_IsCoherent (.start a.1), res_ratchetref31_IsCoherent.av, res_ratchetref31_IsCoherent.bx⟩
theorem con_ratchetref31_IsCoherent_ok : con_ratchetref31_IsCoherent.Ok := fun a b r h => fn_ok (fn := Tryz.f37) (code := code_ratchetref31_IsCoherent) E_ok (by kernel_rfl) (by kernel_rfl) (by kernel_rfl) (Nat.le_of_ble_eq_true rfl) (good_ratchetref31_IsCoherent (.start a.1) r h)

/-! ### (ratchet/machine.builder).node -/
inductive P_machine_builder_node where
 | start (op1 : Int) (width2 : Int) (value3 : Int) (args4 : (List machine_signal)) (B0 : ByteArray) (B1 : (List api_Element))
 | p116 (op1 : Int) (width2 : Int) (value3 : Int) (s14 : (List machine_signal)) (s15 : Int) (s16 : Int) (B0 : ByteArray) (B2_0 : Int) (B2_1 : Int) (B3 : (List Int)) (B4 : (List api_Element))
noncomputable def place_machine_builder_node : P_machine_builder_node → List Bool
 | .start .. => []
 | .p116 .. => [false, false, true, false, true, true]
noncomputable def st_machine_builder_node : P_machine_builder_node → St E.S
 | .start op1 width2 value3 args4 B0 B1 => st0 51 [.agg [.bp 0 0], .v (.int .i64 op1), .v (.int .i64 width2), .v (.int .i64 value3), .sl 133 args4 false] [.var 75 [.v (.string B0), .nl, .rw 1, .nl, .nl, .nl, .nl], .row 82 B1 true]
 | .p116 op1 width2 value3 s14 s15 s16 B0 B2_0 B2_1 B3 B4 => mkSt 51 [1, 2, 3, 5, 10, 11, 14, 15, 16] [.v (.int .i64 op1), .v (.int .i64 width2), .v (.int .i64 value3), .bp 1 0, .bp 2 0, .rw 3, .sl 133 s14 false, .v (.int .i64 s15), .v (.int .i64 s16)] [.var 75 [.v (.string B0), .nl, .rw 4, .nl, .nl, .nl, .nl], .var 131 [.bp 0 0], .var 133 [.v (.int .i64 B2_0), .v (.int .i64 B2_1)], .row 3 B3 false, .row 82 B4 true]
abbrev R_machine_builder_node : Type := (((Int × (Int × Unit)) × Unit) × ((ByteArray × (Unit × (Unit × (Unit × (Unit × (Unit × (Unit × Unit))))))) × ((List api_Element) × ((List api_Node) × Unit))))
noncomputable def res_machine_builder_node : Res E ((Int × (Int × Unit)) × Unit) ((ByteArray × (Unit × (Unit × (Unit × (Unit × (Unit × (Unit × Unit))))))) × ((List api_Element) × ((List api_Node) × Unit))) := { rows := [], flat := [], keep := 1, done := [0], rl := (RdL.cons (Rd.agg (RdL.cons (Rd.int .i64) (RdL.cons (Rd.int .i64) RdL.nil))) RdL.nil), rb := (RdBL.cons (RdB.var 75 (RdL.cons Rd.str (RdL.cons Rd.nl (RdL.cons (Rd.rw 1) (RdL.cons (Rd.rw 2) (RdL.cons Rd.nl (RdL.cons Rd.nl (RdL.cons Rd.nl RdL.nil)))))))) (RdBL.cons (RdB.row 82 true) (RdBL.cons (RdB.row 208 true) RdBL.nil))) }
noncomputable def run_machine_builder_node : P_machine_builder_node → Option R_machine_builder_node
 | .start op1 width2 value3 args4 B0 B1 =>
   run_machine_builder_node (.p116 op1 width2 value3 args4 (List.length args4 : Int) (0 : Int) B0 (0 : Int) (0 : Int) ([] : List Int) B1)
 | .p116 op1 width2 value3 s14 s15 s16 B0 B2_0 B2_1 B3 B4 =>
   if (decide (s16 < s15)) = true then
     (idx s14 s16) >>= fun t1 =>
     if (fits (List.length B3) (List.length ([t1.node] : List Int)) 8) = true then
       run_machine_builder_node (.p116 op1 width2 value3 s14 s15 (IntKind.wrap .i64 (s16 + (1 : Int))) B0 B2_0 B2_1 (B3 ++ ([t1.node] : List Int)) B4)
     else none
   else
     if (fits (List.length ([] : List api_Node)) (List.length ([(⟨op1, width2, B3, value3⟩ : api_Node)] : List api_Node)) 48) = true then
       some (((IntKind.wrap .i64 ((List.length (([] : List api_Node) ++ ([(⟨op1, width2, B3, value3⟩ : api_Node)] : List api_Node)) : Int) - (1 : Int)), (width2, ())), ()), ((B0, ((), ((), ((), ((), ((), ((), ()))))))), (B4, (([] : List api_Node) ++ ([(⟨op1, width2, B3, value3⟩ : api_Node)] : List api_Node), ()))))
     else none
  partial_fixpoint
noncomputable def tab_machine_builder_node : List (Plc E P_machine_builder_node) := [⟨116, [false, false, true, false, true, true], { slots := [1, 2, 3, 5, 10, 11, 14, 15, 16], rows := [(11, 3)], flat := [], keep := 1 }, (Int × (Int × (Int × (Unit × (Unit × (Unit × ((List machine_signal) × (Int × (Int × Unit))))))))), ((ByteArray × (Unit × (Unit × (Unit × (Unit × (Unit × (Unit × Unit))))))) × ((Unit × Unit) × ((Int × (Int × Unit)) × ((List Int) × ((List api_Element) × Unit))))), (RdL.cons (Rd.int .i64) (RdL.cons (Rd.int .i64) (RdL.cons (Rd.int .i64) (RdL.cons (Rd.bp 1 0) (RdL.cons (Rd.bp 2 0) (RdL.cons (Rd.rw 3) (RdL.cons (Rd.sl 133 false) (RdL.cons (Rd.int .i64) (RdL.cons (Rd.int .i64) RdL.nil))))))))), (RdBL.cons (RdB.var 75 (RdL.cons Rd.str (RdL.cons Rd.nl (RdL.cons (Rd.rw 4) (RdL.cons Rd.nl (RdL.cons Rd.nl (RdL.cons Rd.nl (RdL.cons Rd.nl RdL.nil)))))))) (RdBL.cons (RdB.var 131 (RdL.cons (Rd.bp 0 0) RdL.nil)) (RdBL.cons (RdB.var 133 (RdL.cons (Rd.int .i64) (RdL.cons (Rd.int .i64) RdL.nil))) (RdBL.cons (RdB.row 3 false) (RdBL.cons (RdB.row 82 true) RdBL.nil))))), fun a b => .p116 a.1 a.2.1 a.2.2.1 a.2.2.2.2.2.2.1 a.2.2.2.2.2.2.2.1 a.2.2.2.2.2.2.2.2.1 b.1.1 b.2.2.1.1 b.2.2.1.2.1 b.2.2.2.1 b.2.2.2.2.1⟩]
theorem tab_machine_builder_node_ok : All (PlcOk 51 1 place_machine_builder_node st_machine_builder_node) tab_machine_builder_node := ⟨⟨rfl, rfl, fun _ _ => rfl, fun _ _ => rfl⟩, trivial⟩
noncomputable def code_machine_builder_node : Code := Tryz.f127.body.getD .skip
noncomputable def spec_machine_builder_node : Spec E.S := noSpec
theorem spec_machine_builder_node_ok : SpecOk E spec_machine_builder_node := noSpec_ok
theorem good_machine_builder_node : ∀ pt r, run_machine_builder_node pt = some r → Good E Tryz.f127 code_machine_builder_node 1 (res_machine_builder_node.av r) (res_machine_builder_node.bx r) (place_machine_builder_node pt) (st_machine_builder_node pt) := by
  refine run_machine_builder_node.partial_correctness (fun pt r => Good E Tryz.f127 code_machine_builder_node 1 (res_machine_builder_node.av r) (res_machine_builder_node.bx r) (place_machine_builder_node pt) (st_machine_builder_node pt)) ?_
  intro run' ih pt r hr
  cases pt <;> exact fn_step (spec := spec_machine_builder_node) (wr := (mkWr [] [(30, [11])])) (l := tab_machine_builder_node) (z := 51) (p := res_machine_builder_node) E_ok tab_machine_builder_node_ok.mem rfl spec_machine_builder_node_ok ih (Eq.trans (by kernel_rfl) hr)
noncomputable def con_machine_builder_node : Con E := ⟨127, ((Unit × Unit) × (Int × (Int × (Int × ((List machine_signal) × Unit))))), ((ByteArray × (Unit × (Unit × (Unit × (Unit × (Unit × (Unit × Unit))))))) × ((List api_Element) × Unit)), (RwL.cons (Rw.agg (RwL.cons (Rd.bp 0 0).w RwL.nil)) (RwL.cons (Rd.int .i64).w (RwL.cons (Rd.int .i64).w (RwL.cons (Rd.int .i64).w (RwL.cons (Rw.sl 133) RwL.nil))))), (RdBL.cons (RdB.var 75 (RdL.cons Rd.str (RdL.cons Rd.nl (RdL.cons (Rd.rw 1) (RdL.cons Rd.nl (RdL.cons Rd.nl (RdL.cons Rd.nl (RdL.cons Rd.nl RdL.nil)))))))) (RdBL.cons (RdB.row 82 true) RdBL.nil)), 1, R_machine_builder_node, fun a b => run_machine_builder_node (.start a.2.1 a.2.2.1 a.2.2.2.1 a.2.2.2.2.1 b.1.1 b.2.1), res_machine_builder_node.av, res_machine_builder_node.bx⟩
theorem con_machine_builder_node_ok : con_machine_builder_node.Ok := fun a b r h => fn_ok (fn := Tryz.f127) (code := code_machine_builder_node) E_ok (by kernel_rfl) (by kernel_rfl) (by kernel_rfl) (Nat.le_of_ble_eq_true rfl) (good_machine_builder_node (.start a.2.1 a.2.2.1 a.2.2.2.1 a.2.2.2.2.1 b.1.1 b.2.1) r h)

/-! ### (ratchet/machine.builder).register -/
inductive P_machine_builder_register where
 | start (name1 : ByteArray) (width2 : Int) (init3 : Int) (B0 : ByteArray)
noncomputable def place_machine_builder_register : P_machine_builder_register → List Bool
 | .start .. => []
noncomputable def st_machine_builder_register : P_machine_builder_register → St E.S
 | .start name1 width2 init3 B0 => st0 35 [.agg [.bp 0 0], .v (.string name1), .v (.int .i64 width2), .v (.int .i64 init3)] [.var 75 [.v (.string B0), .nl, .nl, .nl, .nl, .nl, .nl]]
abbrev R_machine_builder_register : Type := (((Int × (Int × Unit)) × Unit) × ((ByteArray × (Unit × (Unit × (Unit × (Unit × (Unit × (Unit × Unit))))))) × ((List api_Element) × ((List api_Node) × Unit))))
noncomputable def res_machine_builder_register : Res E ((Int × (Int × Unit)) × Unit) ((ByteArray × (Unit × (Unit × (Unit × (Unit × (Unit × (Unit × Unit))))))) × ((List api_Element) × ((List api_Node) × Unit))) := { rows := [], flat := [], keep := 1, done := [0], rl := (RdL.cons (Rd.agg (RdL.cons (Rd.int .i64) (RdL.cons (Rd.int .i64) RdL.nil))) RdL.nil), rb := (RdBL.cons (RdB.var 75 (RdL.cons Rd.str (RdL.cons Rd.nl (RdL.cons (Rd.rw 1) (RdL.cons (Rd.rw 2) (RdL.cons Rd.nl (RdL.cons Rd.nl (RdL.cons Rd.nl RdL.nil)))))))) (RdBL.cons (RdB.row 82 true) (RdBL.cons (RdB.row 208 true) RdBL.nil))) }
noncomputable def run_machine_builder_register : P_machine_builder_register → Option R_machine_builder_register
 | .start name1 width2 init3 B0 =>
   if (fits (List.length ([] : List api_Element)) (List.length ([(⟨name1, (0 : Int), width2, init3, (0 : Int)⟩ : api_Element)] : List api_Element)) 48) = true then
     (run_machine_builder_node (.start (1 : Int) width2 (0 : Int) ([]) B0 (([] : List api_Element) ++ ([(⟨name1, (0 : Int), width2, init3, (0 : Int)⟩ : api_Element)] : List api_Element)))) >>= fun t1 =>
     some (((t1.1.1.1, (t1.1.1.2.1, ())), ()), ((t1.2.1.1, ((), ((), ((), ((), ((), ((), ()))))))), (t1.2.2.1, (t1.2.2.2.1, ()))))
   else none
noncomputable def tab_machine_builder_register : List (Plc E P_machine_builder_register) := []
theorem tab_machine_builder_register_ok : All (PlcOk 35 1 place_machine_builder_register st_machine_builder_register) tab_machine_builder_register := trivial
noncomputable def code_machine_builder_register : Code := Tryz.f83.body.getD .skip
noncomputable def spec_machine_builder_register : Spec E.S := (Con.add con_machine_builder_node noSpec)
theorem spec_machine_builder_register_ok : SpecOk E spec_machine_builder_register := (Con.add_ok con_machine_builder_node_ok noSpec_ok)
theorem good_machine_builder_register : ∀ pt r, run_machine_builder_register pt = some r → Good E Tryz.f83 code_machine_builder_register 1 (res_machine_builder_register.av r) (res_machine_builder_register.bx r) (place_machine_builder_register pt) (st_machine_builder_register pt) := by
  intro pt r hr
  cases pt <;> exact fn_step (spec := spec_machine_builder_register) (wr := (mkWr [] [])) (l := tab_machine_builder_register) (z := 35) (p := res_machine_builder_register) (run' := fun _ => none) E_ok tab_machine_builder_register_ok.mem rfl spec_machine_builder_register_ok (fun _ _ h => by cases h) (Eq.trans (by kernel_rfl) hr)
noncomputable def con_machine_builder_register : Con E := ⟨83, ((Unit × Unit) × (ByteArray × (Int × (Int × Unit)))), ((ByteArray × (Unit × (Unit × (Unit × (Unit × (Unit × (Unit × Unit))))))) × Unit), (RwL.cons (Rw.agg (RwL.cons (Rd.bp 0 0).w RwL.nil)) (RwL.cons Rd.str.w (RwL.cons (Rd.int .i64).w (RwL.cons (Rd.int .i64).w RwL.nil)))), (RdBL.cons (RdB.var 75 (RdL.cons Rd.str (RdL.cons Rd.nl (RdL.cons Rd.nl (RdL.cons Rd.nl (RdL.cons Rd.nl (RdL.cons Rd.nl (RdL.cons Rd.nl RdL.nil)))))))) RdBL.nil), 1, R_machine_builder_register, fun a b => run_machine_builder_register (.start a.2.1 a.2.2.1 a.2.2.2.1 b.1.1), res_machine_builder_register.av, res_machine_builder_register.bx⟩
theorem con_machine_builder_register_ok : con_machine_builder_register.Ok := fun a b r h => fn_ok (fn := Tryz.f83) (code := code_machine_builder_register) E_ok (by kernel_rfl) (by kernel_rfl) (by kernel_rfl) (Nat.le_of_ble_eq_true rfl) (good_machine_builder_register (.start a.2.1 a.2.2.1 a.2.2.2.1 b.1.1) r h)

/-! ### (ratchet/machine.builder).node -/
inductive P_machine_builder_node_v1 where
 | start (op1 : Int) (width2 : Int) (value3 : Int) (args4 : (List machine_signal)) (B0 : ByteArray) (B1 : (List api_Element)) (B2 : (List api_Node))
 | p116 (op1 : Int) (width2 : Int) (value3 : Int) (s14 : (List machine_signal)) (s15 : Int) (s16 : Int) (B0 : ByteArray) (B2_0 : Int) (B2_1 : Int) (B3 : (List Int)) (B4 : (List api_Element)) (B5 : (List api_Node))
noncomputable def place_machine_builder_node_v1 : P_machine_builder_node_v1 → List Bool
 | .start .. => []
 | .p116 .. => [false, false, true, false, true, true]
noncomputable def st_machine_builder_node_v1 : P_machine_builder_node_v1 → St E.S
 | .start op1 width2 value3 args4 B0 B1 B2 => st0 51 [.agg [.bp 0 0], .v (.int .i64 op1), .v (.int .i64 width2), .v (.int .i64 value3), .sl 133 args4 false] [.var 75 [.v (.string B0), .nl, .rw 1, .rw 2, .nl, .nl, .nl], .row 82 B1 true, .row 208 B2 true]
 | .p116 op1 width2 value3 s14 s15 s16 B0 B2_0 B2_1 B3 B4 B5 => mkSt 51 [1, 2, 3, 5, 10, 11, 14, 15, 16] [.v (.int .i64 op1), .v (.int .i64 width2), .v (.int .i64 value3), .bp 1 0, .bp 2 0, .rw 3, .sl 133 s14 false, .v (.int .i64 s15), .v (.int .i64 s16)] [.var 75 [.v (.string B0), .nl, .rw 4, .rw 5, .nl, .nl, .nl], .var 131 [.bp 0 0], .var 133 [.v (.int .i64 B2_0), .v (.int .i64 B2_1)], .row 3 B3 false, .row 82 B4 true, .row 208 B5 true]
abbrev R_machine_builder_node_v1 : Type := (((Int × (Int × Unit)) × Unit) × ((ByteArray × (Unit × (Unit × (Unit × (Unit × (Unit × (Unit × Unit))))))) × ((List api_Element) × ((List api_Node) × Unit))))
noncomputable def res_machine_builder_node_v1 : Res E ((Int × (Int × Unit)) × Unit) ((ByteArray × (Unit × (Unit × (Unit × (Unit × (Unit × (Unit × Unit))))))) × ((List api_Element) × ((List api_Node) × Unit))) := { rows := [], flat := [], keep := 1, done := [0], rl := (RdL.cons (Rd.agg (RdL.cons (Rd.int .i64) (RdL.cons (Rd.int .i64) RdL.nil))) RdL.nil), rb := (RdBL.cons (RdB.var 75 (RdL.cons Rd.str (RdL.cons Rd.nl (RdL.cons (Rd.rw 1) (RdL.cons (Rd.rw 2) (RdL.cons Rd.nl (RdL.cons Rd.nl (RdL.cons Rd.nl RdL.nil)))))))) (RdBL.cons (RdB.row 82 true) (RdBL.cons (RdB.row 208 true) RdBL.nil))) }
noncomputable def run_machine_builder_node_v1 : P_machine_builder_node_v1 → Option R_machine_builder_node_v1
 | .start op1 width2 value3 args4 B0 B1 B2 =>
   run_machine_builder_node_v1 (.p116 op1 width2 value3 args4 (List.length args4 : Int) (0 : Int) B0 (0 : Int) (0 : Int) ([] : List Int) B1 B2)
 | .p116 op1 width2 value3 s14 s15 s16 B0 B2_0 B2_1 B3 B4 B5 =>
   if (decide (s16 < s15)) = true then
     (idx s14 s16) >>= fun t1 =>
     if (fits (List.length B3) (List.length ([t1.node] : List Int)) 8) = true then
       run_machine_builder_node_v1 (.p116 op1 width2 value3 s14 s15 (IntKind.wrap .i64 (s16 + (1 : Int))) B0 B2_0 B2_1 (B3 ++ ([t1.node] : List Int)) B4 B5)
     else none
   else
     if (fits (List.length B5) (List.length ([(⟨op1, width2, B3, value3⟩ : api_Node)] : List api_Node)) 48) = true then
       some (((IntKind.wrap .i64 ((List.length (B5 ++ ([(⟨op1, width2, B3, value3⟩ : api_Node)] : List api_Node)) : Int) - (1 : Int)), (width2, ())), ()), ((B0, ((), ((), ((), ((), ((), ((), ()))))))), (B4, (B5 ++ ([(⟨op1, width2, B3, value3⟩ : api_Node)] : List api_Node), ()))))
     else none
  partial_fixpoint
noncomputable def tab_machine_builder_node_v1 : List (Plc E P_machine_builder_node_v1) := [⟨116, [false, false, true, false, true, true], { slots := [1, 2, 3, 5, 10, 11, 14, 15, 16], rows := [(11, 3)], flat := [], keep := 1 }, (Int × (Int × (Int × (Unit × (Unit × (Unit × ((List machine_signal) × (Int × (Int × Unit))))))))), ((ByteArray × (Unit × (Unit × (Unit × (Unit × (Unit × (Unit × Unit))))))) × ((Unit × Unit) × ((Int × (Int × Unit)) × ((List Int) × ((List api_Element) × ((List api_Node) × Unit)))))), (RdL.cons (Rd.int .i64) (RdL.cons (Rd.int .i64) (RdL.cons (Rd.int .i64) (RdL.cons (Rd.bp 1 0) (RdL.cons (Rd.bp 2 0) (RdL.cons (Rd.rw 3) (RdL.cons (Rd.sl 133 false) (RdL.cons (Rd.int .i64) (RdL.cons (Rd.int .i64) RdL.nil))))))))), (RdBL.cons (RdB.var 75 (RdL.cons Rd.str (RdL.cons Rd.nl (RdL.cons (Rd.rw 4) (RdL.cons (Rd.rw 5) (RdL.cons Rd.nl (RdL.cons Rd.nl (RdL.cons Rd.nl RdL.nil)))))))) (RdBL.cons (RdB.var 131 (RdL.cons (Rd.bp 0 0) RdL.nil)) (RdBL.cons (RdB.var 133 (RdL.cons (Rd.int .i64) (RdL.cons (Rd.int .i64) RdL.nil))) (RdBL.cons (RdB.row 3 false) (RdBL.cons (RdB.row 82 true) (RdBL.cons (RdB.row 208 true) RdBL.nil)))))), fun a b => .p116 a.1 a.2.1 a.2.2.1 a.2.2.2.2.2.2.1 a.2.2.2.2.2.2.2.1 a.2.2.2.2.2.2.2.2.1 b.1.1 b.2.2.1.1 b.2.2.1.2.1 b.2.2.2.1 b.2.2.2.2.1 b.2.2.2.2.2.1⟩]
theorem tab_machine_builder_node_v1_ok : All (PlcOk 51 1 place_machine_builder_node_v1 st_machine_builder_node_v1) tab_machine_builder_node_v1 := ⟨⟨rfl, rfl, fun _ _ => rfl, fun _ _ => rfl⟩, trivial⟩
noncomputable def code_machine_builder_node_v1 : Code := Tryz.f127.body.getD .skip
noncomputable def spec_machine_builder_node_v1 : Spec E.S := noSpec
theorem spec_machine_builder_node_v1_ok : SpecOk E spec_machine_builder_node_v1 := noSpec_ok
theorem good_machine_builder_node_v1 : ∀ pt r, run_machine_builder_node_v1 pt = some r → Good E Tryz.f127 code_machine_builder_node_v1 1 (res_machine_builder_node_v1.av r) (res_machine_builder_node_v1.bx r) (place_machine_builder_node_v1 pt) (st_machine_builder_node_v1 pt) := by
  refine run_machine_builder_node_v1.partial_correctness (fun pt r => Good E Tryz.f127 code_machine_builder_node_v1 1 (res_machine_builder_node_v1.av r) (res_machine_builder_node_v1.bx r) (place_machine_builder_node_v1 pt) (st_machine_builder_node_v1 pt)) ?_
  intro run' ih pt r hr
  cases pt <;> exact fn_step (spec := spec_machine_builder_node_v1) (wr := (mkWr [] [(30, [11])])) (l := tab_machine_builder_node_v1) (z := 51) (p := res_machine_builder_node_v1) E_ok tab_machine_builder_node_v1_ok.mem rfl spec_machine_builder_node_v1_ok ih (Eq.trans (by kernel_rfl) hr)
noncomputable def con_machine_builder_node_v1 : Con E := ⟨127, ((Unit × Unit) × (Int × (Int × (Int × ((List machine_signal) × Unit))))), ((ByteArray × (Unit × (Unit × (Unit × (Unit × (Unit × (Unit × Unit))))))) × ((List api_Element) × ((List api_Node) × Unit))), (RwL.cons (Rw.agg (RwL.cons (Rd.bp 0 0).w RwL.nil)) (RwL.cons (Rd.int .i64).w (RwL.cons (Rd.int .i64).w (RwL.cons (Rd.int .i64).w (RwL.cons (Rw.sl 133) RwL.nil))))), (RdBL.cons (RdB.var 75 (RdL.cons Rd.str (RdL.cons Rd.nl (RdL.cons (Rd.rw 1) (RdL.cons (Rd.rw 2) (RdL.cons Rd.nl (RdL.cons Rd.nl (RdL.cons Rd.nl RdL.nil)))))))) (RdBL.cons (RdB.row 82 true) (RdBL.cons (RdB.row 208 true) RdBL.nil))), 1, R_machine_builder_node_v1, fun a b => run_machine_builder_node_v1 (.start a.2.1 a.2.2.1 a.2.2.2.1 a.2.2.2.2.1 b.1.1 b.2.1 b.2.2.1), res_machine_builder_node_v1.av, res_machine_builder_node_v1.bx⟩
theorem con_machine_builder_node_v1_ok : con_machine_builder_node_v1.Ok := fun a b r h => fn_ok (fn := Tryz.f127) (code := code_machine_builder_node_v1) E_ok (by kernel_rfl) (by kernel_rfl) (by kernel_rfl) (Nat.le_of_ble_eq_true rfl) (good_machine_builder_node_v1 (.start a.2.1 a.2.2.1 a.2.2.2.1 a.2.2.2.2.1 b.1.1 b.2.1 b.2.2.1) r h)

/-! ### (ratchet/machine.builder).register -/
inductive P_machine_builder_register_v1 where
 | start (name1 : ByteArray) (width2 : Int) (init3 : Int) (B0 : ByteArray) (B1 : (List api_Element)) (B2 : (List api_Node))
noncomputable def place_machine_builder_register_v1 : P_machine_builder_register_v1 → List Bool
 | .start .. => []
noncomputable def st_machine_builder_register_v1 : P_machine_builder_register_v1 → St E.S
 | .start name1 width2 init3 B0 B1 B2 => st0 35 [.agg [.bp 0 0], .v (.string name1), .v (.int .i64 width2), .v (.int .i64 init3)] [.var 75 [.v (.string B0), .nl, .rw 1, .rw 2, .nl, .nl, .nl], .row 82 B1 true, .row 208 B2 true]
abbrev R_machine_builder_register_v1 : Type := (((Int × (Int × Unit)) × Unit) × ((ByteArray × (Unit × (Unit × (Unit × (Unit × (Unit × (Unit × Unit))))))) × ((List api_Element) × ((List api_Node) × Unit))))
noncomputable def res_machine_builder_register_v1 : Res E ((Int × (Int × Unit)) × Unit) ((ByteArray × (Unit × (Unit × (Unit × (Unit × (Unit × (Unit × Unit))))))) × ((List api_Element) × ((List api_Node) × Unit))) := { rows := [], flat := [], keep := 1, done := [0], rl := (RdL.cons (Rd.agg (RdL.cons (Rd.int .i64) (RdL.cons (Rd.int .i64) RdL.nil))) RdL.nil), rb := (RdBL.cons (RdB.var 75 (RdL.cons Rd.str (RdL.cons Rd.nl (RdL.cons (Rd.rw 1) (RdL.cons (Rd.rw 2) (RdL.cons Rd.nl (RdL.cons Rd.nl (RdL.cons Rd.nl RdL.nil)))))))) (RdBL.cons (RdB.row 82 true) (RdBL.cons (RdB.row 208 true) RdBL.nil))) }
noncomputable def run_machine_builder_register_v1 : P_machine_builder_register_v1 → Option R_machine_builder_register_v1
 | .start name1 width2 init3 B0 B1 B2 =>
   if (fits (List.length B1) (List.length ([(⟨name1, (0 : Int), width2, init3, (0 : Int)⟩ : api_Element)] : List api_Element)) 48) = true then
     (run_machine_builder_node_v1 (.start (1 : Int) width2 (List.length B1 : Int) ([]) B0 (B1 ++ ([(⟨name1, (0 : Int), width2, init3, (0 : Int)⟩ : api_Element)] : List api_Element)) B2)) >>= fun t1 =>
     some (((t1.1.1.1, (t1.1.1.2.1, ())), ()), ((t1.2.1.1, ((), ((), ((), ((), ((), ((), ()))))))), (t1.2.2.1, (t1.2.2.2.1, ()))))
   else none
noncomputable def tab_machine_builder_register_v1 : List (Plc E P_machine_builder_register_v1) := []
theorem tab_machine_builder_register_v1_ok : All (PlcOk 35 1 place_machine_builder_register_v1 st_machine_builder_register_v1) tab_machine_builder_register_v1 := trivial
noncomputable def code_machine_builder_register_v1 : Code := Tryz.f83.body.getD .skip
noncomputable def spec_machine_builder_register_v1 : Spec E.S := (Con.add con_machine_builder_node_v1 noSpec)
theorem spec_machine_builder_register_v1_ok : SpecOk E spec_machine_builder_register_v1 := (Con.add_ok con_machine_builder_node_v1_ok noSpec_ok)
theorem good_machine_builder_register_v1 : ∀ pt r, run_machine_builder_register_v1 pt = some r → Good E Tryz.f83 code_machine_builder_register_v1 1 (res_machine_builder_register_v1.av r) (res_machine_builder_register_v1.bx r) (place_machine_builder_register_v1 pt) (st_machine_builder_register_v1 pt) := by
  intro pt r hr
  cases pt <;> exact fn_step (spec := spec_machine_builder_register_v1) (wr := (mkWr [] [])) (l := tab_machine_builder_register_v1) (z := 35) (p := res_machine_builder_register_v1) (run' := fun _ => none) E_ok tab_machine_builder_register_v1_ok.mem rfl spec_machine_builder_register_v1_ok (fun _ _ h => by cases h) (Eq.trans (by kernel_rfl) hr)
noncomputable def con_machine_builder_register_v1 : Con E := ⟨83, ((Unit × Unit) × (ByteArray × (Int × (Int × Unit)))), ((ByteArray × (Unit × (Unit × (Unit × (Unit × (Unit × (Unit × Unit))))))) × ((List api_Element) × ((List api_Node) × Unit))), (RwL.cons (Rw.agg (RwL.cons (Rd.bp 0 0).w RwL.nil)) (RwL.cons Rd.str.w (RwL.cons (Rd.int .i64).w (RwL.cons (Rd.int .i64).w RwL.nil)))), (RdBL.cons (RdB.var 75 (RdL.cons Rd.str (RdL.cons Rd.nl (RdL.cons (Rd.rw 1) (RdL.cons (Rd.rw 2) (RdL.cons Rd.nl (RdL.cons Rd.nl (RdL.cons Rd.nl RdL.nil)))))))) (RdBL.cons (RdB.row 82 true) (RdBL.cons (RdB.row 208 true) RdBL.nil))), 1, R_machine_builder_register_v1, fun a b => run_machine_builder_register_v1 (.start a.2.1 a.2.2.1 a.2.2.2.1 b.1.1 b.2.1 b.2.2.1), res_machine_builder_register_v1.av, res_machine_builder_register_v1.bx⟩
theorem con_machine_builder_register_v1_ok : con_machine_builder_register_v1.Ok := fun a b r h => fn_ok (fn := Tryz.f83) (code := code_machine_builder_register_v1) E_ok (by kernel_rfl) (by kernel_rfl) (by kernel_rfl) (Nat.le_of_ble_eq_true rfl) (good_machine_builder_register_v1 (.start a.2.1 a.2.2.1 a.2.2.2.1 b.1.1 b.2.1 b.2.2.1) r h)

/-! ### (ratchet/machine.builder).constant -/
inductive P_machine_builder_constant where
 | start (width1 : Int) (value2 : Int) (B0 : ByteArray) (B1 : (List api_Element)) (B2 : (List api_Node))
noncomputable def place_machine_builder_constant : P_machine_builder_constant → List Bool
 | .start .. => []
noncomputable def st_machine_builder_constant : P_machine_builder_constant → St E.S
 | .start width1 value2 B0 B1 B2 => st0 11 [.agg [.bp 0 0], .v (.int .i64 width1), .v (.int .i64 value2)] [.var 75 [.v (.string B0), .nl, .rw 1, .rw 2, .nl, .nl, .nl], .row 82 B1 true, .row 208 B2 true]
abbrev R_machine_builder_constant : Type := (((Int × (Int × Unit)) × Unit) × ((ByteArray × (Unit × (Unit × (Unit × (Unit × (Unit × (Unit × Unit))))))) × ((List api_Element) × ((List api_Node) × Unit))))
noncomputable def res_machine_builder_constant : Res E ((Int × (Int × Unit)) × Unit) ((ByteArray × (Unit × (Unit × (Unit × (Unit × (Unit × (Unit × Unit))))))) × ((List api_Element) × ((List api_Node) × Unit))) := { rows := [], flat := [], keep := 1, done := [0], rl := (RdL.cons (Rd.agg (RdL.cons (Rd.int .i64) (RdL.cons (Rd.int .i64) RdL.nil))) RdL.nil), rb := (RdBL.cons (RdB.var 75 (RdL.cons Rd.str (RdL.cons Rd.nl (RdL.cons (Rd.rw 1) (RdL.cons (Rd.rw 2) (RdL.cons Rd.nl (RdL.cons Rd.nl (RdL.cons Rd.nl RdL.nil)))))))) (RdBL.cons (RdB.row 82 true) (RdBL.cons (RdB.row 208 true) RdBL.nil))) }
noncomputable def run_machine_builder_constant : P_machine_builder_constant → Option R_machine_builder_constant
 | .start width1 value2 B0 B1 B2 =>
   (run_machine_builder_node_v1 (.start (0 : Int) width1 value2 ([]) B0 B1 B2)) >>= fun t1 =>
   some (((t1.1.1.1, (t1.1.1.2.1, ())), ()), ((t1.2.1.1, ((), ((), ((), ((), ((), ((), ()))))))), (t1.2.2.1, (t1.2.2.2.1, ()))))
noncomputable def tab_machine_builder_constant : List (Plc E P_machine_builder_constant) := []
theorem tab_machine_builder_constant_ok : All (PlcOk 11 1 place_machine_builder_constant st_machine_builder_constant) tab_machine_builder_constant := trivial
noncomputable def code_machine_builder_constant : Code := Tryz.f85.body.getD .skip
noncomputable def spec_machine_builder_constant : Spec E.S := (Con.add con_machine_builder_node_v1 noSpec)
theorem spec_machine_builder_constant_ok : SpecOk E spec_machine_builder_constant := (Con.add_ok con_machine_builder_node_v1_ok noSpec_ok)
theorem good_machine_builder_constant : ∀ pt r, run_machine_builder_constant pt = some r → Good E Tryz.f85 code_machine_builder_constant 1 (res_machine_builder_constant.av r) (res_machine_builder_constant.bx r) (place_machine_builder_constant pt) (st_machine_builder_constant pt) := by
  intro pt r hr
  cases pt <;> exact fn_step (spec := spec_machine_builder_constant) (wr := (mkWr [] [])) (l := tab_machine_builder_constant) (z := 11) (p := res_machine_builder_constant) (run' := fun _ => none) E_ok tab_machine_builder_constant_ok.mem rfl spec_machine_builder_constant_ok (fun _ _ h => by cases h) (Eq.trans (by kernel_rfl) hr)
noncomputable def con_machine_builder_constant : Con E := ⟨85, ((Unit × Unit) × (Int × (Int × Unit))), ((ByteArray × (Unit × (Unit × (Unit × (Unit × (Unit × (Unit × Unit))))))) × ((List api_Element) × ((List api_Node) × Unit))), (RwL.cons (Rw.agg (RwL.cons (Rd.bp 0 0).w RwL.nil)) (RwL.cons (Rd.int .i64).w (RwL.cons (Rd.int .i64).w RwL.nil))), (RdBL.cons (RdB.var 75 (RdL.cons Rd.str (RdL.cons Rd.nl (RdL.cons (Rd.rw 1) (RdL.cons (Rd.rw 2) (RdL.cons Rd.nl (RdL.cons Rd.nl (RdL.cons Rd.nl RdL.nil)))))))) (RdBL.cons (RdB.row 82 true) (RdBL.cons (RdB.row 208 true) RdBL.nil))), 1, R_machine_builder_constant, fun a b => run_machine_builder_constant (.start a.2.1 a.2.2.1 b.1.1 b.2.1 b.2.2.1), res_machine_builder_constant.av, res_machine_builder_constant.bx⟩
theorem con_machine_builder_constant_ok : con_machine_builder_constant.Ok := fun a b r h => fn_ok (fn := Tryz.f85) (code := code_machine_builder_constant) E_ok (by kernel_rfl) (by kernel_rfl) (by kernel_rfl) (Nat.le_of_ble_eq_true rfl) (good_machine_builder_constant (.start a.2.1 a.2.2.1 b.1.1 b.2.1 b.2.2.1) r h)

/-! ### (ratchet/machine.builder).node -/
inductive P_machine_builder_node_v2 where
 | start (op1 : Int) (width2 : Int) (value3 : Int) (args4 : (List machine_signal)) (B0 : ByteArray) (B1 : (List api_Element)) (B2 : (List api_Node)) (B3 : (List api_Rule))
 | p116 (op1 : Int) (width2 : Int) (value3 : Int) (s14 : (List machine_signal)) (s15 : Int) (s16 : Int) (B0 : ByteArray) (B2_0 : Int) (B2_1 : Int) (B3 : (List Int)) (B4 : (List api_Element)) (B5 : (List api_Node)) (B6 : (List api_Rule))
noncomputable def place_machine_builder_node_v2 : P_machine_builder_node_v2 → List Bool
 | .start .. => []
 | .p116 .. => [false, false, true, false, true, true]
noncomputable def st_machine_builder_node_v2 : P_machine_builder_node_v2 → St E.S
 | .start op1 width2 value3 args4 B0 B1 B2 B3 => st0 51 [.agg [.bp 0 0], .v (.int .i64 op1), .v (.int .i64 width2), .v (.int .i64 value3), .sl 133 args4 false] [.var 75 [.v (.string B0), .nl, .rw 1, .rw 2, .rw 3, .nl, .nl], .row 82 B1 true, .row 208 B2 true, .row 85 B3 false]
 | .p116 op1 width2 value3 s14 s15 s16 B0 B2_0 B2_1 B3 B4 B5 B6 => mkSt 51 [1, 2, 3, 5, 10, 11, 14, 15, 16] [.v (.int .i64 op1), .v (.int .i64 width2), .v (.int .i64 value3), .bp 1 0, .bp 2 0, .rw 3, .sl 133 s14 false, .v (.int .i64 s15), .v (.int .i64 s16)] [.var 75 [.v (.string B0), .nl, .rw 4, .rw 5, .rw 6, .nl, .nl], .var 131 [.bp 0 0], .var 133 [.v (.int .i64 B2_0), .v (.int .i64 B2_1)], .row 3 B3 false, .row 82 B4 true, .row 208 B5 true, .row 85 B6 false]
abbrev R_machine_builder_node_v2 : Type := (((Int × (Int × Unit)) × Unit) × ((ByteArray × (Unit × (Unit × (Unit × (Unit × (Unit × (Unit × Unit))))))) × ((List api_Element) × ((List api_Node) × ((List api_Rule) × Unit)))))
noncomputable def res_machine_builder_node_v2 : Res E ((Int × (Int × Unit)) × Unit) ((ByteArray × (Unit × (Unit × (Unit × (Unit × (Unit × (Unit × Unit))))))) × ((List api_Element) × ((List api_Node) × ((List api_Rule) × Unit)))) := { rows := [], flat := [], keep := 1, done := [0], rl := (RdL.cons (Rd.agg (RdL.cons (Rd.int .i64) (RdL.cons (Rd.int .i64) RdL.nil))) RdL.nil), rb := (RdBL.cons (RdB.var 75 (RdL.cons Rd.str (RdL.cons Rd.nl (RdL.cons (Rd.rw 1) (RdL.cons (Rd.rw 2) (RdL.cons (Rd.rw 3) (RdL.cons Rd.nl (RdL.cons Rd.nl RdL.nil)))))))) (RdBL.cons (RdB.row 82 true) (RdBL.cons (RdB.row 208 true) (RdBL.cons (RdB.row 85 false) RdBL.nil)))) }
noncomputable def run_machine_builder_node_v2 : P_machine_builder_node_v2 → Option R_machine_builder_node_v2
 | .start op1 width2 value3 args4 B0 B1 B2 B3 =>
   run_machine_builder_node_v2 (.p116 op1 width2 value3 args4 (List.length args4 : Int) (0 : Int) B0 (0 : Int) (0 : Int) ([] : List Int) B1 B2 B3)
 | .p116 op1 width2 value3 s14 s15 s16 B0 B2_0 B2_1 B3 B4 B5 B6 =>
   if (decide (s16 < s15)) = true then
     (idx s14 s16) >>= fun t1 =>
     if (fits (List.length B3) (List.length ([t1.node] : List Int)) 8) = true then
       run_machine_builder_node_v2 (.p116 op1 width2 value3 s14 s15 (IntKind.wrap .i64 (s16 + (1 : Int))) B0 B2_0 B2_1 (B3 ++ ([t1.node] : List Int)) B4 B5 B6)
     else none
   else
     if (fits (List.length B5) (List.length ([(⟨op1, width2, B3, value3⟩ : api_Node)] : List api_Node)) 48) = true then
       some (((IntKind.wrap .i64 ((List.length (B5 ++ ([(⟨op1, width2, B3, value3⟩ : api_Node)] : List api_Node)) : Int) - (1 : Int)), (width2, ())), ()), ((B0, ((), ((), ((), ((), ((), ((), ()))))))), (B4, (B5 ++ ([(⟨op1, width2, B3, value3⟩ : api_Node)] : List api_Node), (B6, ())))))
     else none
  partial_fixpoint
noncomputable def tab_machine_builder_node_v2 : List (Plc E P_machine_builder_node_v2) := [⟨116, [false, false, true, false, true, true], { slots := [1, 2, 3, 5, 10, 11, 14, 15, 16], rows := [(11, 3)], flat := [], keep := 1 }, (Int × (Int × (Int × (Unit × (Unit × (Unit × ((List machine_signal) × (Int × (Int × Unit))))))))), ((ByteArray × (Unit × (Unit × (Unit × (Unit × (Unit × (Unit × Unit))))))) × ((Unit × Unit) × ((Int × (Int × Unit)) × ((List Int) × ((List api_Element) × ((List api_Node) × ((List api_Rule) × Unit))))))), (RdL.cons (Rd.int .i64) (RdL.cons (Rd.int .i64) (RdL.cons (Rd.int .i64) (RdL.cons (Rd.bp 1 0) (RdL.cons (Rd.bp 2 0) (RdL.cons (Rd.rw 3) (RdL.cons (Rd.sl 133 false) (RdL.cons (Rd.int .i64) (RdL.cons (Rd.int .i64) RdL.nil))))))))), (RdBL.cons (RdB.var 75 (RdL.cons Rd.str (RdL.cons Rd.nl (RdL.cons (Rd.rw 4) (RdL.cons (Rd.rw 5) (RdL.cons (Rd.rw 6) (RdL.cons Rd.nl (RdL.cons Rd.nl RdL.nil)))))))) (RdBL.cons (RdB.var 131 (RdL.cons (Rd.bp 0 0) RdL.nil)) (RdBL.cons (RdB.var 133 (RdL.cons (Rd.int .i64) (RdL.cons (Rd.int .i64) RdL.nil))) (RdBL.cons (RdB.row 3 false) (RdBL.cons (RdB.row 82 true) (RdBL.cons (RdB.row 208 true) (RdBL.cons (RdB.row 85 false) RdBL.nil))))))), fun a b => .p116 a.1 a.2.1 a.2.2.1 a.2.2.2.2.2.2.1 a.2.2.2.2.2.2.2.1 a.2.2.2.2.2.2.2.2.1 b.1.1 b.2.2.1.1 b.2.2.1.2.1 b.2.2.2.1 b.2.2.2.2.1 b.2.2.2.2.2.1 b.2.2.2.2.2.2.1⟩]
theorem tab_machine_builder_node_v2_ok : All (PlcOk 51 1 place_machine_builder_node_v2 st_machine_builder_node_v2) tab_machine_builder_node_v2 := ⟨⟨rfl, rfl, fun _ _ => rfl, fun _ _ => rfl⟩, trivial⟩
noncomputable def code_machine_builder_node_v2 : Code := Tryz.f127.body.getD .skip
noncomputable def spec_machine_builder_node_v2 : Spec E.S := noSpec
theorem spec_machine_builder_node_v2_ok : SpecOk E spec_machine_builder_node_v2 := noSpec_ok
theorem good_machine_builder_node_v2 : ∀ pt r, run_machine_builder_node_v2 pt = some r → Good E Tryz.f127 code_machine_builder_node_v2 1 (res_machine_builder_node_v2.av r) (res_machine_builder_node_v2.bx r) (place_machine_builder_node_v2 pt) (st_machine_builder_node_v2 pt) := by
  refine run_machine_builder_node_v2.partial_correctness (fun pt r => Good E Tryz.f127 code_machine_builder_node_v2 1 (res_machine_builder_node_v2.av r) (res_machine_builder_node_v2.bx r) (place_machine_builder_node_v2 pt) (st_machine_builder_node_v2 pt)) ?_
  intro run' ih pt r hr
  cases pt <;> exact fn_step (spec := spec_machine_builder_node_v2) (wr := (mkWr [] [(30, [11])])) (l := tab_machine_builder_node_v2) (z := 51) (p := res_machine_builder_node_v2) E_ok tab_machine_builder_node_v2_ok.mem rfl spec_machine_builder_node_v2_ok ih (Eq.trans (by kernel_rfl) hr)
noncomputable def con_machine_builder_node_v2 : Con E := ⟨127, ((Unit × Unit) × (Int × (Int × (Int × ((List machine_signal) × Unit))))), ((ByteArray × (Unit × (Unit × (Unit × (Unit × (Unit × (Unit × Unit))))))) × ((List api_Element) × ((List api_Node) × ((List api_Rule) × Unit)))), (RwL.cons (Rw.agg (RwL.cons (Rd.bp 0 0).w RwL.nil)) (RwL.cons (Rd.int .i64).w (RwL.cons (Rd.int .i64).w (RwL.cons (Rd.int .i64).w (RwL.cons (Rw.sl 133) RwL.nil))))), (RdBL.cons (RdB.var 75 (RdL.cons Rd.str (RdL.cons Rd.nl (RdL.cons (Rd.rw 1) (RdL.cons (Rd.rw 2) (RdL.cons (Rd.rw 3) (RdL.cons Rd.nl (RdL.cons Rd.nl RdL.nil)))))))) (RdBL.cons (RdB.row 82 true) (RdBL.cons (RdB.row 208 true) (RdBL.cons (RdB.row 85 false) RdBL.nil)))), 1, R_machine_builder_node_v2, fun a b => run_machine_builder_node_v2 (.start a.2.1 a.2.2.1 a.2.2.2.1 a.2.2.2.2.1 b.1.1 b.2.1 b.2.2.1 b.2.2.2.1), res_machine_builder_node_v2.av, res_machine_builder_node_v2.bx⟩
theorem con_machine_builder_node_v2_ok : con_machine_builder_node_v2.Ok := fun a b r h => fn_ok (fn := Tryz.f127) (code := code_machine_builder_node_v2) E_ok (by kernel_rfl) (by kernel_rfl) (by kernel_rfl) (Nat.le_of_ble_eq_true rfl) (good_machine_builder_node_v2 (.start a.2.1 a.2.2.1 a.2.2.2.1 a.2.2.2.2.1 b.1.1 b.2.1 b.2.2.1 b.2.2.2.1) r h)

/-! ### (ratchet/machine.builder).constant -/
inductive P_machine_builder_constant_v1 where
 | start (width1 : Int) (value2 : Int) (B0 : ByteArray) (B1 : (List api_Element)) (B2 : (List api_Node)) (B3 : (List api_Rule))
noncomputable def place_machine_builder_constant_v1 : P_machine_builder_constant_v1 → List Bool
 | .start .. => []
noncomputable def st_machine_builder_constant_v1 : P_machine_builder_constant_v1 → St E.S
 | .start width1 value2 B0 B1 B2 B3 => st0 11 [.agg [.bp 0 0], .v (.int .i64 width1), .v (.int .i64 value2)] [.var 75 [.v (.string B0), .nl, .rw 1, .rw 2, .rw 3, .nl, .nl], .row 82 B1 true, .row 208 B2 true, .row 85 B3 false]
abbrev R_machine_builder_constant_v1 : Type := (((Int × (Int × Unit)) × Unit) × ((ByteArray × (Unit × (Unit × (Unit × (Unit × (Unit × (Unit × Unit))))))) × ((List api_Element) × ((List api_Node) × ((List api_Rule) × Unit)))))
noncomputable def res_machine_builder_constant_v1 : Res E ((Int × (Int × Unit)) × Unit) ((ByteArray × (Unit × (Unit × (Unit × (Unit × (Unit × (Unit × Unit))))))) × ((List api_Element) × ((List api_Node) × ((List api_Rule) × Unit)))) := { rows := [], flat := [], keep := 1, done := [0], rl := (RdL.cons (Rd.agg (RdL.cons (Rd.int .i64) (RdL.cons (Rd.int .i64) RdL.nil))) RdL.nil), rb := (RdBL.cons (RdB.var 75 (RdL.cons Rd.str (RdL.cons Rd.nl (RdL.cons (Rd.rw 1) (RdL.cons (Rd.rw 2) (RdL.cons (Rd.rw 3) (RdL.cons Rd.nl (RdL.cons Rd.nl RdL.nil)))))))) (RdBL.cons (RdB.row 82 true) (RdBL.cons (RdB.row 208 true) (RdBL.cons (RdB.row 85 false) RdBL.nil)))) }
noncomputable def run_machine_builder_constant_v1 : P_machine_builder_constant_v1 → Option R_machine_builder_constant_v1
 | .start width1 value2 B0 B1 B2 B3 =>
   (run_machine_builder_node_v2 (.start (0 : Int) width1 value2 ([]) B0 B1 B2 B3)) >>= fun t1 =>
   some (((t1.1.1.1, (t1.1.1.2.1, ())), ()), ((t1.2.1.1, ((), ((), ((), ((), ((), ((), ()))))))), (t1.2.2.1, (t1.2.2.2.1, (t1.2.2.2.2.1, ())))))
noncomputable def tab_machine_builder_constant_v1 : List (Plc E P_machine_builder_constant_v1) := []
theorem tab_machine_builder_constant_v1_ok : All (PlcOk 11 1 place_machine_builder_constant_v1 st_machine_builder_constant_v1) tab_machine_builder_constant_v1 := trivial
noncomputable def code_machine_builder_constant_v1 : Code := Tryz.f85.body.getD .skip
noncomputable def spec_machine_builder_constant_v1 : Spec E.S := (Con.add con_machine_builder_node_v2 noSpec)
theorem spec_machine_builder_constant_v1_ok : SpecOk E spec_machine_builder_constant_v1 := (Con.add_ok con_machine_builder_node_v2_ok noSpec_ok)
theorem good_machine_builder_constant_v1 : ∀ pt r, run_machine_builder_constant_v1 pt = some r → Good E Tryz.f85 code_machine_builder_constant_v1 1 (res_machine_builder_constant_v1.av r) (res_machine_builder_constant_v1.bx r) (place_machine_builder_constant_v1 pt) (st_machine_builder_constant_v1 pt) := by
  intro pt r hr
  cases pt <;> exact fn_step (spec := spec_machine_builder_constant_v1) (wr := (mkWr [] [])) (l := tab_machine_builder_constant_v1) (z := 11) (p := res_machine_builder_constant_v1) (run' := fun _ => none) E_ok tab_machine_builder_constant_v1_ok.mem rfl spec_machine_builder_constant_v1_ok (fun _ _ h => by cases h) (Eq.trans (by kernel_rfl) hr)
noncomputable def con_machine_builder_constant_v1 : Con E := ⟨85, ((Unit × Unit) × (Int × (Int × Unit))), ((ByteArray × (Unit × (Unit × (Unit × (Unit × (Unit × (Unit × Unit))))))) × ((List api_Element) × ((List api_Node) × ((List api_Rule) × Unit)))), (RwL.cons (Rw.agg (RwL.cons (Rd.bp 0 0).w RwL.nil)) (RwL.cons (Rd.int .i64).w (RwL.cons (Rd.int .i64).w RwL.nil))), (RdBL.cons (RdB.var 75 (RdL.cons Rd.str (RdL.cons Rd.nl (RdL.cons (Rd.rw 1) (RdL.cons (Rd.rw 2) (RdL.cons (Rd.rw 3) (RdL.cons Rd.nl (RdL.cons Rd.nl RdL.nil)))))))) (RdBL.cons (RdB.row 82 true) (RdBL.cons (RdB.row 208 true) (RdBL.cons (RdB.row 85 false) RdBL.nil)))), 1, R_machine_builder_constant_v1, fun a b => run_machine_builder_constant_v1 (.start a.2.1 a.2.2.1 b.1.1 b.2.1 b.2.2.1 b.2.2.2.1), res_machine_builder_constant_v1.av, res_machine_builder_constant_v1.bx⟩
theorem con_machine_builder_constant_v1_ok : con_machine_builder_constant_v1.Ok := fun a b r h => fn_ok (fn := Tryz.f85) (code := code_machine_builder_constant_v1) E_ok (by kernel_rfl) (by kernel_rfl) (by kernel_rfl) (Nat.le_of_ble_eq_true rfl) (good_machine_builder_constant_v1 (.start a.2.1 a.2.2.1 b.1.1 b.2.1 b.2.2.1 b.2.2.2.1) r h)

/-! ### (ratchet/machine.builder).is -/
inductive P_machine_builder_is where
 | start (x1_0 : Int) (x1_1 : Int) (value2 : Int) (B0 : ByteArray) (B1 : (List api_Element)) (B2 : (List api_Node)) (B3 : (List api_Rule))
noncomputable def place_machine_builder_is : P_machine_builder_is → List Bool
 | .start .. => []
noncomputable def st_machine_builder_is : P_machine_builder_is → St E.S
 | .start x1_0 x1_1 value2 B0 B1 B2 B3 => st0 16 [.agg [.bp 0 0], .agg [.v (.int .i64 x1_0), .v (.int .i64 x1_1)], .v (.int .i64 value2)] [.var 75 [.v (.string B0), .nl, .rw 1, .rw 2, .rw 3, .nl, .nl], .row 82 B1 true, .row 208 B2 true, .row 85 B3 false]
abbrev R_machine_builder_is : Type := (((Int × (Int × Unit)) × Unit) × ((ByteArray × (Unit × (Unit × (Unit × (Unit × (Unit × (Unit × Unit))))))) × ((List api_Element) × ((List api_Node) × ((List api_Rule) × Unit)))))
noncomputable def res_machine_builder_is : Res E ((Int × (Int × Unit)) × Unit) ((ByteArray × (Unit × (Unit × (Unit × (Unit × (Unit × (Unit × Unit))))))) × ((List api_Element) × ((List api_Node) × ((List api_Rule) × Unit)))) := { rows := [], flat := [], keep := 1, done := [0], rl := (RdL.cons (Rd.agg (RdL.cons (Rd.int .i64) (RdL.cons (Rd.int .i64) RdL.nil))) RdL.nil), rb := (RdBL.cons (RdB.var 75 (RdL.cons Rd.str (RdL.cons Rd.nl (RdL.cons (Rd.rw 1) (RdL.cons (Rd.rw 2) (RdL.cons (Rd.rw 3) (RdL.cons Rd.nl (RdL.cons Rd.nl RdL.nil)))))))) (RdBL.cons (RdB.row 82 true) (RdBL.cons (RdB.row 208 true) (RdBL.cons (RdB.row 85 false) RdBL.nil)))) }
noncomputable def run_machine_builder_is : P_machine_builder_is → Option R_machine_builder_is
 | .start x1_0 x1_1 value2 B0 B1 B2 B3 =>
   (run_machine_builder_constant_v1 (.start x1_1 value2 B0 B1 B2 B3)) >>= fun t1 =>
   (run_machine_builder_node_v2 (.start (9 : Int) (1 : Int) (0 : Int) ([(⟨x1_0, x1_1⟩ : machine_signal), (⟨t1.1.1.1, t1.1.1.2.1⟩ : machine_signal)] : List machine_signal) t1.2.1.1 t1.2.2.1 t1.2.2.2.1 t1.2.2.2.2.1)) >>= fun t2 =>
   some (((t2.1.1.1, (t2.1.1.2.1, ())), ()), ((t2.2.1.1, ((), ((), ((), ((), ((), ((), ()))))))), (t2.2.2.1, (t2.2.2.2.1, (t2.2.2.2.2.1, ())))))
noncomputable def tab_machine_builder_is : List (Plc E P_machine_builder_is) := []
theorem tab_machine_builder_is_ok : All (PlcOk 16 1 place_machine_builder_is st_machine_builder_is) tab_machine_builder_is := trivial
noncomputable def code_machine_builder_is : Code := Tryz.f132.body.getD .skip
noncomputable def spec_machine_builder_is : Spec E.S := (Con.add con_machine_builder_node_v2 (Con.add con_machine_builder_constant_v1 noSpec))
theorem spec_machine_builder_is_ok : SpecOk E spec_machine_builder_is := (Con.add_ok con_machine_builder_node_v2_ok (Con.add_ok con_machine_builder_constant_v1_ok noSpec_ok))
theorem good_machine_builder_is : ∀ pt r, run_machine_builder_is pt = some r → Good E Tryz.f132 code_machine_builder_is 1 (res_machine_builder_is.av r) (res_machine_builder_is.bx r) (place_machine_builder_is pt) (st_machine_builder_is pt) := by
  intro pt r hr
  cases pt <;> exact fn_step (spec := spec_machine_builder_is) (wr := (mkWr [] [])) (l := tab_machine_builder_is) (z := 16) (p := res_machine_builder_is) (run' := fun _ => none) E_ok tab_machine_builder_is_ok.mem rfl spec_machine_builder_is_ok (fun _ _ h => by cases h) (Eq.trans (by kernel_rfl) hr)
noncomputable def con_machine_builder_is : Con E := ⟨132, ((Unit × Unit) × ((Int × (Int × Unit)) × (Int × Unit))), ((ByteArray × (Unit × (Unit × (Unit × (Unit × (Unit × (Unit × Unit))))))) × ((List api_Element) × ((List api_Node) × ((List api_Rule) × Unit)))), (RwL.cons (Rw.agg (RwL.cons (Rd.bp 0 0).w RwL.nil)) (RwL.cons (Rw.agg (RwL.cons (Rd.int .i64).w (RwL.cons (Rd.int .i64).w RwL.nil))) (RwL.cons (Rd.int .i64).w RwL.nil))), (RdBL.cons (RdB.var 75 (RdL.cons Rd.str (RdL.cons Rd.nl (RdL.cons (Rd.rw 1) (RdL.cons (Rd.rw 2) (RdL.cons (Rd.rw 3) (RdL.cons Rd.nl (RdL.cons Rd.nl RdL.nil)))))))) (RdBL.cons (RdB.row 82 true) (RdBL.cons (RdB.row 208 true) (RdBL.cons (RdB.row 85 false) RdBL.nil)))), 1, R_machine_builder_is, fun a b => run_machine_builder_is (.start a.2.1.1 a.2.1.2.1 a.2.2.1 b.1.1 b.2.1 b.2.2.1 b.2.2.2.1), res_machine_builder_is.av, res_machine_builder_is.bx⟩
theorem con_machine_builder_is_ok : con_machine_builder_is.Ok := fun a b r h => fn_ok (fn := Tryz.f132) (code := code_machine_builder_is) E_ok (by kernel_rfl) (by kernel_rfl) (by kernel_rfl) (Nat.le_of_ble_eq_true rfl) (good_machine_builder_is (.start a.2.1.1 a.2.1.2.1 a.2.2.1 b.1.1 b.2.1 b.2.2.1 b.2.2.2.1) r h)

/-! ### (ratchet/machine.builder).coreRules$1 -/
inductive P_machine_builder_coreRules_1 where
 | start (s0 : ByteArray) (s1 : machine_cache)
noncomputable def place_machine_builder_coreRules_1 : P_machine_builder_coreRules_1 → List Bool
 | .start .. => []
noncomputable def st_machine_builder_coreRules_1 : P_machine_builder_coreRules_1 → St E.S
 | .start s0 s1 => st0 9 [.v (.string s0), .el 136 s1 0] []
abbrev R_machine_builder_coreRules_1 : Type := ((ByteArray × Unit) × Unit)
noncomputable def res_machine_builder_coreRules_1 : Res E (ByteArray × Unit) Unit := { rows := [], flat := [], keep := 0, done := [0], rl := (RdL.cons Rd.str RdL.nil), rb := RdBL.nil }
noncomputable def run_machine_builder_coreRules_1 : P_machine_builder_coreRules_1 → Option R_machine_builder_coreRules_1
 | .start s0 s1 =>
   (itoaRun (s1.number, ()) ()) >>= fun t1 =>
   if (Nat.ble (s0.size + t1.1.1.size) 9223372036854775807) = true then
     some ((s0 ++ t1.1.1, ()), ())
   else none
noncomputable def tab_machine_builder_coreRules_1 : List (Plc E P_machine_builder_coreRules_1) := []
theorem tab_machine_builder_coreRules_1_ok : All (PlcOk 9 0 place_machine_builder_coreRules_1 st_machine_builder_coreRules_1) tab_machine_builder_coreRules_1 := trivial
noncomputable def code_machine_builder_coreRules_1 : Code := Tryz.f129.body.getD .skip
noncomputable def spec_machine_builder_coreRules_1 : Spec E.S := (Con.add con_strconv_Itoa noSpec)
theorem spec_machine_builder_coreRules_1_ok : SpecOk E spec_machine_builder_coreRules_1 := (Con.add_ok con_strconv_Itoa_ok noSpec_ok)
theorem good_machine_builder_coreRules_1 : ∀ pt r, run_machine_builder_coreRules_1 pt = some r → Good E Tryz.f129 code_machine_builder_coreRules_1 0 (res_machine_builder_coreRules_1.av r) (res_machine_builder_coreRules_1.bx r) (place_machine_builder_coreRules_1 pt) (st_machine_builder_coreRules_1 pt) := by
  intro pt r hr
  cases pt <;> exact fn_step (spec := spec_machine_builder_coreRules_1) (wr := (mkWr [] [])) (l := tab_machine_builder_coreRules_1) (z := 9) (p := res_machine_builder_coreRules_1) (run' := fun _ => none) E_ok tab_machine_builder_coreRules_1_ok.mem rfl spec_machine_builder_coreRules_1_ok (fun _ _ h => by cases h) (Eq.trans (by kernel_rfl) hr)
noncomputable def con_machine_builder_coreRules_1 : Con E := ⟨129, (ByteArray × (machine_cache × Unit)), Unit, (RwL.cons Rd.str.w (RwL.cons (Rd.el 136 0).w RwL.nil)), RdBL.nil, 0, R_machine_builder_coreRules_1, fun a b => run_machine_builder_coreRules_1 (.start a.1 a.2.1), res_machine_builder_coreRules_1.av, res_machine_builder_coreRules_1.bx⟩
theorem con_machine_builder_coreRules_1_ok : con_machine_builder_coreRules_1.Ok := fun a b r h => fn_ok (fn := Tryz.f129) (code := code_machine_builder_coreRules_1) E_ok (by kernel_rfl) (by kernel_rfl) (by kernel_rfl) (Nat.le_of_ble_eq_true rfl) (good_machine_builder_coreRules_1 (.start a.1 a.2.1) r h)

/-! ### (ratchet/machine.builder).not -/
inductive P_machine_builder_not where
 | start (x1_0 : Int) (x1_1 : Int) (B0 : ByteArray) (B1 : (List api_Element)) (B2 : (List api_Node)) (B3 : (List api_Rule))
noncomputable def place_machine_builder_not : P_machine_builder_not → List Bool
 | .start .. => []
noncomputable def st_machine_builder_not : P_machine_builder_not → St E.S
 | .start x1_0 x1_1 B0 B1 B2 B3 => st0 11 [.agg [.bp 0 0], .agg [.v (.int .i64 x1_0), .v (.int .i64 x1_1)]] [.var 75 [.v (.string B0), .nl, .rw 1, .rw 2, .rw 3, .nl, .nl], .row 82 B1 true, .row 208 B2 true, .row 85 B3 false]
abbrev R_machine_builder_not : Type := (((Int × (Int × Unit)) × Unit) × ((ByteArray × (Unit × (Unit × (Unit × (Unit × (Unit × (Unit × Unit))))))) × ((List api_Element) × ((List api_Node) × ((List api_Rule) × Unit)))))
noncomputable def res_machine_builder_not : Res E ((Int × (Int × Unit)) × Unit) ((ByteArray × (Unit × (Unit × (Unit × (Unit × (Unit × (Unit × Unit))))))) × ((List api_Element) × ((List api_Node) × ((List api_Rule) × Unit)))) := { rows := [], flat := [], keep := 1, done := [0], rl := (RdL.cons (Rd.agg (RdL.cons (Rd.int .i64) (RdL.cons (Rd.int .i64) RdL.nil))) RdL.nil), rb := (RdBL.cons (RdB.var 75 (RdL.cons Rd.str (RdL.cons Rd.nl (RdL.cons (Rd.rw 1) (RdL.cons (Rd.rw 2) (RdL.cons (Rd.rw 3) (RdL.cons Rd.nl (RdL.cons Rd.nl RdL.nil)))))))) (RdBL.cons (RdB.row 82 true) (RdBL.cons (RdB.row 208 true) (RdBL.cons (RdB.row 85 false) RdBL.nil)))) }
noncomputable def run_machine_builder_not : P_machine_builder_not → Option R_machine_builder_not
 | .start x1_0 x1_1 B0 B1 B2 B3 =>
   (run_machine_builder_node_v2 (.start (2 : Int) x1_1 (0 : Int) ([(⟨x1_0, x1_1⟩ : machine_signal)] : List machine_signal) B0 B1 B2 B3)) >>= fun t1 =>
   some (((t1.1.1.1, (t1.1.1.2.1, ())), ()), ((t1.2.1.1, ((), ((), ((), ((), ((), ((), ()))))))), (t1.2.2.1, (t1.2.2.2.1, (t1.2.2.2.2.1, ())))))
noncomputable def tab_machine_builder_not : List (Plc E P_machine_builder_not) := []
theorem tab_machine_builder_not_ok : All (PlcOk 11 1 place_machine_builder_not st_machine_builder_not) tab_machine_builder_not := trivial
noncomputable def code_machine_builder_not : Code := Tryz.f135.body.getD .skip
noncomputable def spec_machine_builder_not : Spec E.S := (Con.add con_machine_builder_node_v2 noSpec)
theorem spec_machine_builder_not_ok : SpecOk E spec_machine_builder_not := (Con.add_ok con_machine_builder_node_v2_ok noSpec_ok)
theorem good_machine_builder_not : ∀ pt r, run_machine_builder_not pt = some r → Good E Tryz.f135 code_machine_builder_not 1 (res_machine_builder_not.av r) (res_machine_builder_not.bx r) (place_machine_builder_not pt) (st_machine_builder_not pt) := by
  intro pt r hr
  cases pt <;> exact fn_step (spec := spec_machine_builder_not) (wr := (mkWr [] [])) (l := tab_machine_builder_not) (z := 11) (p := res_machine_builder_not) (run' := fun _ => none) E_ok tab_machine_builder_not_ok.mem rfl spec_machine_builder_not_ok (fun _ _ h => by cases h) (Eq.trans (by kernel_rfl) hr)
noncomputable def con_machine_builder_not : Con E := ⟨135, ((Unit × Unit) × ((Int × (Int × Unit)) × Unit)), ((ByteArray × (Unit × (Unit × (Unit × (Unit × (Unit × (Unit × Unit))))))) × ((List api_Element) × ((List api_Node) × ((List api_Rule) × Unit)))), (RwL.cons (Rw.agg (RwL.cons (Rd.bp 0 0).w RwL.nil)) (RwL.cons (Rw.agg (RwL.cons (Rd.int .i64).w (RwL.cons (Rd.int .i64).w RwL.nil))) RwL.nil)), (RdBL.cons (RdB.var 75 (RdL.cons Rd.str (RdL.cons Rd.nl (RdL.cons (Rd.rw 1) (RdL.cons (Rd.rw 2) (RdL.cons (Rd.rw 3) (RdL.cons Rd.nl (RdL.cons Rd.nl RdL.nil)))))))) (RdBL.cons (RdB.row 82 true) (RdBL.cons (RdB.row 208 true) (RdBL.cons (RdB.row 85 false) RdBL.nil)))), 1, R_machine_builder_not, fun a b => run_machine_builder_not (.start a.2.1.1 a.2.1.2.1 b.1.1 b.2.1 b.2.2.1 b.2.2.2.1), res_machine_builder_not.av, res_machine_builder_not.bx⟩
theorem con_machine_builder_not_ok : con_machine_builder_not.Ok := fun a b r h => fn_ok (fn := Tryz.f135) (code := code_machine_builder_not) E_ok (by kernel_rfl) (by kernel_rfl) (by kernel_rfl) (Nat.le_of_ble_eq_true rfl) (good_machine_builder_not (.start a.2.1.1 a.2.1.2.1 b.1.1 b.2.1 b.2.2.1 b.2.2.2.1) r h)

/-! ### (ratchet/machine.builder).and -/
inductive P_machine_builder_and where
 | start (x1_0 : Int) (x1_1 : Int) (y2_0 : Int) (y2_1 : Int) (B0 : ByteArray) (B1 : (List api_Element)) (B2 : (List api_Node)) (B3 : (List api_Rule))
noncomputable def place_machine_builder_and : P_machine_builder_and → List Bool
 | .start .. => []
noncomputable def st_machine_builder_and : P_machine_builder_and → St E.S
 | .start x1_0 x1_1 y2_0 y2_1 B0 B1 B2 B3 => st0 14 [.agg [.bp 0 0], .agg [.v (.int .i64 x1_0), .v (.int .i64 x1_1)], .agg [.v (.int .i64 y2_0), .v (.int .i64 y2_1)]] [.var 75 [.v (.string B0), .nl, .rw 1, .rw 2, .rw 3, .nl, .nl], .row 82 B1 true, .row 208 B2 true, .row 85 B3 false]
abbrev R_machine_builder_and : Type := (((Int × (Int × Unit)) × Unit) × ((ByteArray × (Unit × (Unit × (Unit × (Unit × (Unit × (Unit × Unit))))))) × ((List api_Element) × ((List api_Node) × ((List api_Rule) × Unit)))))
noncomputable def res_machine_builder_and : Res E ((Int × (Int × Unit)) × Unit) ((ByteArray × (Unit × (Unit × (Unit × (Unit × (Unit × (Unit × Unit))))))) × ((List api_Element) × ((List api_Node) × ((List api_Rule) × Unit)))) := { rows := [], flat := [], keep := 1, done := [0], rl := (RdL.cons (Rd.agg (RdL.cons (Rd.int .i64) (RdL.cons (Rd.int .i64) RdL.nil))) RdL.nil), rb := (RdBL.cons (RdB.var 75 (RdL.cons Rd.str (RdL.cons Rd.nl (RdL.cons (Rd.rw 1) (RdL.cons (Rd.rw 2) (RdL.cons (Rd.rw 3) (RdL.cons Rd.nl (RdL.cons Rd.nl RdL.nil)))))))) (RdBL.cons (RdB.row 82 true) (RdBL.cons (RdB.row 208 true) (RdBL.cons (RdB.row 85 false) RdBL.nil)))) }
noncomputable def run_machine_builder_and : P_machine_builder_and → Option R_machine_builder_and
 | .start x1_0 x1_1 y2_0 y2_1 B0 B1 B2 B3 =>
   (run_machine_builder_node_v2 (.start (3 : Int) x1_1 (0 : Int) ([(⟨x1_0, x1_1⟩ : machine_signal), (⟨y2_0, y2_1⟩ : machine_signal)] : List machine_signal) B0 B1 B2 B3)) >>= fun t1 =>
   some (((t1.1.1.1, (t1.1.1.2.1, ())), ()), ((t1.2.1.1, ((), ((), ((), ((), ((), ((), ()))))))), (t1.2.2.1, (t1.2.2.2.1, (t1.2.2.2.2.1, ())))))
noncomputable def tab_machine_builder_and : List (Plc E P_machine_builder_and) := []
theorem tab_machine_builder_and_ok : All (PlcOk 14 1 place_machine_builder_and st_machine_builder_and) tab_machine_builder_and := trivial
noncomputable def code_machine_builder_and : Code := Tryz.f134.body.getD .skip
noncomputable def spec_machine_builder_and : Spec E.S := (Con.add con_machine_builder_node_v2 noSpec)
theorem spec_machine_builder_and_ok : SpecOk E spec_machine_builder_and := (Con.add_ok con_machine_builder_node_v2_ok noSpec_ok)
theorem good_machine_builder_and : ∀ pt r, run_machine_builder_and pt = some r → Good E Tryz.f134 code_machine_builder_and 1 (res_machine_builder_and.av r) (res_machine_builder_and.bx r) (place_machine_builder_and pt) (st_machine_builder_and pt) := by
  intro pt r hr
  cases pt <;> exact fn_step (spec := spec_machine_builder_and) (wr := (mkWr [] [])) (l := tab_machine_builder_and) (z := 14) (p := res_machine_builder_and) (run' := fun _ => none) E_ok tab_machine_builder_and_ok.mem rfl spec_machine_builder_and_ok (fun _ _ h => by cases h) (Eq.trans (by kernel_rfl) hr)
noncomputable def con_machine_builder_and : Con E := ⟨134, ((Unit × Unit) × ((Int × (Int × Unit)) × ((Int × (Int × Unit)) × Unit))), ((ByteArray × (Unit × (Unit × (Unit × (Unit × (Unit × (Unit × Unit))))))) × ((List api_Element) × ((List api_Node) × ((List api_Rule) × Unit)))), (RwL.cons (Rw.agg (RwL.cons (Rd.bp 0 0).w RwL.nil)) (RwL.cons (Rw.agg (RwL.cons (Rd.int .i64).w (RwL.cons (Rd.int .i64).w RwL.nil))) (RwL.cons (Rw.agg (RwL.cons (Rd.int .i64).w (RwL.cons (Rd.int .i64).w RwL.nil))) RwL.nil))), (RdBL.cons (RdB.var 75 (RdL.cons Rd.str (RdL.cons Rd.nl (RdL.cons (Rd.rw 1) (RdL.cons (Rd.rw 2) (RdL.cons (Rd.rw 3) (RdL.cons Rd.nl (RdL.cons Rd.nl RdL.nil)))))))) (RdBL.cons (RdB.row 82 true) (RdBL.cons (RdB.row 208 true) (RdBL.cons (RdB.row 85 false) RdBL.nil)))), 1, R_machine_builder_and, fun a b => run_machine_builder_and (.start a.2.1.1 a.2.1.2.1 a.2.2.1.1 a.2.2.1.2.1 b.1.1 b.2.1 b.2.2.1 b.2.2.2.1), res_machine_builder_and.av, res_machine_builder_and.bx⟩
theorem con_machine_builder_and_ok : con_machine_builder_and.Ok := fun a b r h => fn_ok (fn := Tryz.f134) (code := code_machine_builder_and) E_ok (by kernel_rfl) (by kernel_rfl) (by kernel_rfl) (Nat.le_of_ble_eq_true rfl) (good_machine_builder_and (.start a.2.1.1 a.2.1.2.1 a.2.2.1.1 a.2.2.1.2.1 b.1.1 b.2.1 b.2.2.1 b.2.2.2.1) r h)

/-! ### ratchet/machine.write -/
inductive P_machine_write where
 | start (element0 : Int) (when1_0 : Int) (when1_1 : Int) (value2_0 : Int) (value2_1 : Int)
noncomputable def place_machine_write : P_machine_write → List Bool
 | .start .. => []
noncomputable def st_machine_write : P_machine_write → St E.S
 | .start element0 when1_0 when1_1 value2_0 value2_1 => st0 13 [.v (.int .i64 element0), .agg [.v (.int .i64 when1_0), .v (.int .i64 when1_1)], .agg [.v (.int .i64 value2_0), .v (.int .i64 value2_1)]] []
abbrev R_machine_write : Type := (((Int × (Int × (Int × Unit))) × Unit) × Unit)
noncomputable def res_machine_write : Res E ((Int × (Int × (Int × Unit))) × Unit) Unit := { rows := [], flat := [], keep := 0, done := [0], rl := (RdL.cons (Rd.agg (RdL.cons (Rd.int .i64) (RdL.cons (Rd.int .i64) (RdL.cons (Rd.int .i64) RdL.nil)))) RdL.nil), rb := RdBL.nil }
noncomputable def run_machine_write : P_machine_write → Option R_machine_write
 | .start element0 when1_0 when1_1 value2_0 value2_1 =>
   some (((element0, (when1_0, (value2_0, ()))), ()), ())
noncomputable def tab_machine_write : List (Plc E P_machine_write) := []
theorem tab_machine_write_ok : All (PlcOk 13 0 place_machine_write st_machine_write) tab_machine_write := trivial
noncomputable def code_machine_write : Code := Tryz.f131.body.getD .skip
noncomputable def spec_machine_write : Spec E.S := noSpec
theorem spec_machine_write_ok : SpecOk E spec_machine_write := noSpec_ok
theorem good_machine_write : ∀ pt r, run_machine_write pt = some r → Good E Tryz.f131 code_machine_write 0 (res_machine_write.av r) (res_machine_write.bx r) (place_machine_write pt) (st_machine_write pt) := by
  intro pt r hr
  cases pt <;> exact fn_step (spec := spec_machine_write) (wr := (mkWr [] [])) (l := tab_machine_write) (z := 13) (p := res_machine_write) (run' := fun _ => none) E_ok tab_machine_write_ok.mem rfl spec_machine_write_ok (fun _ _ h => by cases h) (Eq.trans (by kernel_rfl) hr)
noncomputable def con_machine_write : Con E := ⟨131, (Int × ((Int × (Int × Unit)) × ((Int × (Int × Unit)) × Unit))), Unit, (RwL.cons (Rd.int .i64).w (RwL.cons (Rw.agg (RwL.cons (Rd.int .i64).w (RwL.cons (Rd.int .i64).w RwL.nil))) (RwL.cons (Rw.agg (RwL.cons (Rd.int .i64).w (RwL.cons (Rd.int .i64).w RwL.nil))) RwL.nil))), RdBL.nil, 0, R_machine_write, fun a b => run_machine_write (.start a.1 a.2.1.1 a.2.1.2.1 a.2.2.1.1 a.2.2.1.2.1), res_machine_write.av, res_machine_write.bx⟩
theorem con_machine_write_ok : con_machine_write.Ok := fun a b r h => fn_ok (fn := Tryz.f131) (code := code_machine_write) E_ok (by kernel_rfl) (by kernel_rfl) (by kernel_rfl) (Nat.le_of_ble_eq_true rfl) (good_machine_write (.start a.1 a.2.1.1 a.2.1.2.1 a.2.2.1.1 a.2.2.1.2.1) r h)

/-! ### (ratchet/machine.builder).coreRules$2 -/
inductive P_machine_builder_coreRules_2 where
 | start (core0 : Int) (value1 : Int) (B0_0 : Int) (B0_1 : Int) (B2 : ByteArray) (B3 : (List api_Element)) (B4 : (List api_Node)) (B5 : (List api_Rule))
noncomputable def place_machine_builder_coreRules_2 : P_machine_builder_coreRules_2 → List Bool
 | .start .. => []
noncomputable def st_machine_builder_coreRules_2 : P_machine_builder_coreRules_2 → St E.S
 | .start core0 value1 B0_0 B0_1 B2 B3 B4 B5 => st0 14 [.v (.int .i64 core0), .v (.int .i64 value1), .bp 0 0, .bp 1 0] [.var 133 [.v (.int .i64 B0_0), .v (.int .i64 B0_1)], .var 131 [.bp 2 0], .var 75 [.v (.string B2), .nl, .rw 3, .rw 4, .rw 5, .nl, .nl], .row 82 B3 true, .row 208 B4 true, .row 85 B5 false]
abbrev R_machine_builder_coreRules_2 : Type := (((Int × (Int × (Int × Unit))) × Unit) × ((Int × (Int × Unit)) × ((Unit × Unit) × ((ByteArray × (Unit × (Unit × (Unit × (Unit × (Unit × (Unit × Unit))))))) × ((List api_Element) × ((List api_Node) × ((List api_Rule) × Unit)))))))
noncomputable def res_machine_builder_coreRules_2 : Res E ((Int × (Int × (Int × Unit))) × Unit) ((Int × (Int × Unit)) × ((Unit × Unit) × ((ByteArray × (Unit × (Unit × (Unit × (Unit × (Unit × (Unit × Unit))))))) × ((List api_Element) × ((List api_Node) × ((List api_Rule) × Unit)))))) := { rows := [], flat := [], keep := 3, done := [0], rl := (RdL.cons (Rd.agg (RdL.cons (Rd.int .i64) (RdL.cons (Rd.int .i64) (RdL.cons (Rd.int .i64) RdL.nil)))) RdL.nil), rb := (RdBL.cons (RdB.var 133 (RdL.cons (Rd.int .i64) (RdL.cons (Rd.int .i64) RdL.nil))) (RdBL.cons (RdB.var 131 (RdL.cons (Rd.bp 2 0) RdL.nil)) (RdBL.cons (RdB.var 75 (RdL.cons Rd.str (RdL.cons Rd.nl (RdL.cons (Rd.rw 3) (RdL.cons (Rd.rw 4) (RdL.cons (Rd.rw 5) (RdL.cons Rd.nl (RdL.cons Rd.nl RdL.nil)))))))) (RdBL.cons (RdB.row 82 true) (RdBL.cons (RdB.row 208 true) (RdBL.cons (RdB.row 85 false) RdBL.nil)))))) }
noncomputable def run_machine_builder_coreRules_2 : P_machine_builder_coreRules_2 → Option R_machine_builder_coreRules_2
 | .start core0 value1 B0_0 B0_1 B2 B3 B4 B5 =>
   (run_machine_kindAt (.start core0)) >>= fun t1 =>
   (run_machine_builder_constant_v1 (.start (2 : Int) value1 B2 B3 B4 B5)) >>= fun t2 =>
   (run_machine_write (.start t1.1.1 B0_0 B0_1 t2.1.1.1 t2.1.1.2.1)) >>= fun t3 =>
   some (((t3.1.1.1, (t3.1.1.2.1, (t3.1.1.2.2.1, ()))), ()), ((B0_0, (B0_1, ())), (((), ()), ((t2.2.1.1, ((), ((), ((), ((), ((), ((), ()))))))), (t2.2.2.1, (t2.2.2.2.1, (t2.2.2.2.2.1, ())))))))
noncomputable def tab_machine_builder_coreRules_2 : List (Plc E P_machine_builder_coreRules_2) := []
theorem tab_machine_builder_coreRules_2_ok : All (PlcOk 14 3 place_machine_builder_coreRules_2 st_machine_builder_coreRules_2) tab_machine_builder_coreRules_2 := trivial
noncomputable def code_machine_builder_coreRules_2 : Code := Tryz.f130.body.getD .skip
noncomputable def spec_machine_builder_coreRules_2 : Spec E.S := (Con.add con_machine_write (Con.add con_machine_builder_constant_v1 (Con.add con_machine_kindAt noSpec)))
theorem spec_machine_builder_coreRules_2_ok : SpecOk E spec_machine_builder_coreRules_2 := (Con.add_ok con_machine_write_ok (Con.add_ok con_machine_builder_constant_v1_ok (Con.add_ok con_machine_kindAt_ok noSpec_ok)))
theorem good_machine_builder_coreRules_2 : ∀ pt r, run_machine_builder_coreRules_2 pt = some r → Good E Tryz.f130 code_machine_builder_coreRules_2 3 (res_machine_builder_coreRules_2.av r) (res_machine_builder_coreRules_2.bx r) (place_machine_builder_coreRules_2 pt) (st_machine_builder_coreRules_2 pt) := by
  intro pt r hr
  cases pt <;> exact fn_step (spec := spec_machine_builder_coreRules_2) (wr := (mkWr [] [])) (l := tab_machine_builder_coreRules_2) (z := 14) (p := res_machine_builder_coreRules_2) (run' := fun _ => none) E_ok tab_machine_builder_coreRules_2_ok.mem rfl spec_machine_builder_coreRules_2_ok (fun _ _ h => by cases h) (Eq.trans (by kernel_rfl) hr)
noncomputable def con_machine_builder_coreRules_2 : Con E := ⟨130, (Int × (Int × (Unit × (Unit × Unit)))), ((Int × (Int × Unit)) × ((Unit × Unit) × ((ByteArray × (Unit × (Unit × (Unit × (Unit × (Unit × (Unit × Unit))))))) × ((List api_Element) × ((List api_Node) × ((List api_Rule) × Unit)))))), (RwL.cons (Rd.int .i64).w (RwL.cons (Rd.int .i64).w (RwL.cons (Rd.bp 0 0).w (RwL.cons (Rd.bp 1 0).w RwL.nil)))), (RdBL.cons (RdB.var 133 (RdL.cons (Rd.int .i64) (RdL.cons (Rd.int .i64) RdL.nil))) (RdBL.cons (RdB.var 131 (RdL.cons (Rd.bp 2 0) RdL.nil)) (RdBL.cons (RdB.var 75 (RdL.cons Rd.str (RdL.cons Rd.nl (RdL.cons (Rd.rw 3) (RdL.cons (Rd.rw 4) (RdL.cons (Rd.rw 5) (RdL.cons Rd.nl (RdL.cons Rd.nl RdL.nil)))))))) (RdBL.cons (RdB.row 82 true) (RdBL.cons (RdB.row 208 true) (RdBL.cons (RdB.row 85 false) RdBL.nil)))))), 3, R_machine_builder_coreRules_2, fun a b => run_machine_builder_coreRules_2 (.start a.1 a.2.1 b.1.1 b.1.2.1 b.2.2.1.1 b.2.2.2.1 b.2.2.2.2.1 b.2.2.2.2.2.1), res_machine_builder_coreRules_2.av, res_machine_builder_coreRules_2.bx⟩
theorem con_machine_builder_coreRules_2_ok : con_machine_builder_coreRules_2.Ok := fun a b r h => fn_ok (fn := Tryz.f130) (code := code_machine_builder_coreRules_2) E_ok (by kernel_rfl) (by kernel_rfl) (by kernel_rfl) (Nat.le_of_ble_eq_true rfl) (good_machine_builder_coreRules_2 (.start a.1 a.2.1 b.1.1 b.1.2.1 b.2.2.1.1 b.2.2.2.1 b.2.2.2.2.1 b.2.2.2.2.2.1) r h)

/-! ### (ratchet/machine.builder).rule -/
inductive P_machine_builder_rule where
 | start (name1 : ByteArray) (guard2_0 : Int) (guard2_1 : Int) (writes3 : (List api_Write)) (B0 : ByteArray) (B1 : (List api_Element)) (B2 : (List api_Node)) (B3 : (List api_Rule))
noncomputable def place_machine_builder_rule : P_machine_builder_rule → List Bool
 | .start .. => []
noncomputable def st_machine_builder_rule : P_machine_builder_rule → St E.S
 | .start name1 guard2_0 guard2_1 writes3 B0 B1 B2 B3 => st0 24 [.agg [.bp 0 0], .v (.string name1), .agg [.v (.int .i64 guard2_0), .v (.int .i64 guard2_1)], .sl 151 writes3 false] [.var 75 [.v (.string B0), .nl, .rw 1, .rw 2, .rw 3, .nl, .nl], .row 82 B1 true, .row 208 B2 true, .row 85 B3 false]
abbrev R_machine_builder_rule : Type := (Unit × ((ByteArray × (Unit × (Unit × (Unit × (Unit × (Unit × (Unit × Unit))))))) × ((List api_Element) × ((List api_Node) × ((List api_Rule) × Unit)))))
noncomputable def res_machine_builder_rule : Res E Unit ((ByteArray × (Unit × (Unit × (Unit × (Unit × (Unit × (Unit × Unit))))))) × ((List api_Element) × ((List api_Node) × ((List api_Rule) × Unit)))) := { rows := [], flat := [], keep := 1, rl := RdL.nil, rb := (RdBL.cons (RdB.var 75 (RdL.cons Rd.str (RdL.cons Rd.nl (RdL.cons (Rd.rw 1) (RdL.cons (Rd.rw 2) (RdL.cons (Rd.rw 3) (RdL.cons Rd.nl (RdL.cons Rd.nl RdL.nil)))))))) (RdBL.cons (RdB.row 82 true) (RdBL.cons (RdB.row 208 true) (RdBL.cons (RdB.row 85 false) RdBL.nil)))) }
noncomputable def run_machine_builder_rule : P_machine_builder_rule → Option R_machine_builder_rule
 | .start name1 guard2_0 guard2_1 writes3 B0 B1 B2 B3 =>
   if (fits (List.length B3) (List.length ([(⟨name1, guard2_0, writes3⟩ : api_Rule)] : List api_Rule)) 48) = true then
     some ((), ((B0, ((), ((), ((), ((), ((), ((), ()))))))), (B1, (B2, (B3 ++ ([(⟨name1, guard2_0, writes3⟩ : api_Rule)] : List api_Rule), ())))))
   else none
noncomputable def tab_machine_builder_rule : List (Plc E P_machine_builder_rule) := []
theorem tab_machine_builder_rule_ok : All (PlcOk 24 1 place_machine_builder_rule st_machine_builder_rule) tab_machine_builder_rule := trivial
noncomputable def code_machine_builder_rule : Code := Tryz.f133.body.getD .skip
noncomputable def spec_machine_builder_rule : Spec E.S := noSpec
theorem spec_machine_builder_rule_ok : SpecOk E spec_machine_builder_rule := noSpec_ok
theorem good_machine_builder_rule : ∀ pt r, run_machine_builder_rule pt = some r → Good E Tryz.f133 code_machine_builder_rule 1 (res_machine_builder_rule.av r) (res_machine_builder_rule.bx r) (place_machine_builder_rule pt) (st_machine_builder_rule pt) := by
  intro pt r hr
  cases pt <;> exact fn_step (spec := spec_machine_builder_rule) (wr := (mkWr [] [])) (l := tab_machine_builder_rule) (z := 24) (p := res_machine_builder_rule) (run' := fun _ => none) E_ok tab_machine_builder_rule_ok.mem rfl spec_machine_builder_rule_ok (fun _ _ h => by cases h) (Eq.trans (by kernel_rfl) hr)
noncomputable def con_machine_builder_rule : Con E := ⟨133, ((Unit × Unit) × (ByteArray × ((Int × (Int × Unit)) × ((List api_Write) × Unit)))), ((ByteArray × (Unit × (Unit × (Unit × (Unit × (Unit × (Unit × Unit))))))) × ((List api_Element) × ((List api_Node) × ((List api_Rule) × Unit)))), (RwL.cons (Rw.agg (RwL.cons (Rd.bp 0 0).w RwL.nil)) (RwL.cons Rd.str.w (RwL.cons (Rw.agg (RwL.cons (Rd.int .i64).w (RwL.cons (Rd.int .i64).w RwL.nil))) (RwL.cons (Rw.sl 151) RwL.nil)))), (RdBL.cons (RdB.var 75 (RdL.cons Rd.str (RdL.cons Rd.nl (RdL.cons (Rd.rw 1) (RdL.cons (Rd.rw 2) (RdL.cons (Rd.rw 3) (RdL.cons Rd.nl (RdL.cons Rd.nl RdL.nil)))))))) (RdBL.cons (RdB.row 82 true) (RdBL.cons (RdB.row 208 true) (RdBL.cons (RdB.row 85 false) RdBL.nil)))), 1, R_machine_builder_rule, fun a b => run_machine_builder_rule (.start a.2.1 a.2.2.1.1 a.2.2.1.2.1 a.2.2.2.1 b.1.1 b.2.1 b.2.2.1 b.2.2.2.1), res_machine_builder_rule.av, res_machine_builder_rule.bx⟩
theorem con_machine_builder_rule_ok : con_machine_builder_rule.Ok := fun a b r h => fn_ok (fn := Tryz.f133) (code := code_machine_builder_rule) E_ok (by kernel_rfl) (by kernel_rfl) (by kernel_rfl) (Nat.le_of_ble_eq_true rfl) (good_machine_builder_rule (.start a.2.1 a.2.2.1.1 a.2.2.1.2.1 a.2.2.2.1 b.1.1 b.2.1 b.2.2.1 b.2.2.2.1) r h)

/-! ### (ratchet/machine.builder).coreRules -/
inductive P_machine_builder_coreRules where
 | start (own1_0 : Int) (own1_1 : Int) (own1_2 : Int) (own1_3 : Int) (own1_4 : Int) (other2_0 : Int) (other2_1 : Int) (other2_2 : Int) (other2_3 : Int) (other2_4 : Int) (memory3_0 : Int) (memory3_1 : Int) (one4_0 : Int) (one4_1 : Int) (B0 : ByteArray) (B1 : (List api_Element)) (B2 : (List api_Node)) (B3 : (List api_Rule))
noncomputable def place_machine_builder_coreRules : P_machine_builder_coreRules → List Bool
 | .start .. => []
noncomputable def st_machine_builder_coreRules : P_machine_builder_coreRules → St E.S
 | .start own1_0 own1_1 own1_2 own1_3 own1_4 other2_0 other2_1 other2_2 other2_3 other2_4 memory3_0 memory3_1 one4_0 one4_1 B0 B1 B2 B3 => st0 146 [.agg [.bp 0 0], .agg [.v (.int .i64 own1_0), .v (.int .i64 own1_1), .v (.int .i64 own1_2), .v (.int .i64 own1_3), .v (.int .i64 own1_4)], .agg [.v (.int .i64 other2_0), .v (.int .i64 other2_1), .v (.int .i64 other2_2), .v (.int .i64 other2_3), .v (.int .i64 other2_4)], .agg [.v (.int .i64 memory3_0), .v (.int .i64 memory3_1)], .agg [.v (.int .i64 one4_0), .v (.int .i64 one4_1)]] [.var 75 [.v (.string B0), .nl, .rw 1, .rw 2, .rw 3, .nl, .nl], .row 82 B1 true, .row 208 B2 true, .row 85 B3 false]
abbrev R_machine_builder_coreRules : Type := (Unit × ((ByteArray × (Unit × (Unit × (Unit × (Unit × (Unit × (Unit × Unit))))))) × ((List api_Element) × ((List api_Node) × ((List api_Rule) × Unit)))))
noncomputable def res_machine_builder_coreRules : Res E Unit ((ByteArray × (Unit × (Unit × (Unit × (Unit × (Unit × (Unit × Unit))))))) × ((List api_Element) × ((List api_Node) × ((List api_Rule) × Unit)))) := { rows := [], flat := [], keep := 1, rl := RdL.nil, rb := (RdBL.cons (RdB.var 75 (RdL.cons Rd.str (RdL.cons Rd.nl (RdL.cons (Rd.rw 1) (RdL.cons (Rd.rw 2) (RdL.cons (Rd.rw 3) (RdL.cons Rd.nl (RdL.cons Rd.nl RdL.nil)))))))) (RdBL.cons (RdB.row 82 true) (RdBL.cons (RdB.row 208 true) (RdBL.cons (RdB.row 85 false) RdBL.nil)))) }
noncomputable def run_machine_builder_coreRules : P_machine_builder_coreRules → Option R_machine_builder_coreRules
 | .start own1_0 own1_1 own1_2 own1_3 own1_4 other2_0 other2_1 other2_2 other2_3 other2_4 memory3_0 memory3_1 one4_0 one4_1 B0 B1 B2 B3 =>
   (run_machine_lineAt (.start own1_0)) >>= fun t1 =>
   (run_machine_builder_is (.start own1_1 own1_2 (0 : Int) B0 B1 B2 B3)) >>= fun t2 =>
   (run_machine_builder_is (.start own1_1 own1_2 (2 : Int) t2.2.1.1 t2.2.2.1 t2.2.2.2.1 t2.2.2.2.2.1)) >>= fun t3 =>
   (run_machine_builder_coreRules_1 (.start (⟨#[114, 101, 97, 100]⟩ : ByteArray) (⟨own1_0, (⟨own1_1, own1_2⟩ : machine_signal), (⟨own1_3, own1_4⟩ : machine_signal)⟩ : machine_cache))) >>= fun t4 =>
   (run_machine_builder_is (.start other2_1 other2_2 (2 : Int) t3.2.1.1 t3.2.2.1 t3.2.2.2.1 t3.2.2.2.2.1)) >>= fun t5 =>
   (run_machine_builder_not (.start t5.1.1.1 t5.1.1.2.1 t5.2.1.1 t5.2.2.1 t5.2.2.2.1 t5.2.2.2.2.1)) >>= fun t6 =>
   (run_machine_builder_and (.start t2.1.1.1 t2.1.1.2.1 t6.1.1.1 t6.1.1.2.1 t6.2.1.1 t6.2.2.1 t6.2.2.2.1 t6.2.2.2.2.1)) >>= fun t7 =>
   (run_machine_builder_coreRules_2 (.start own1_0 (1 : Int) one4_0 one4_1 t7.2.1.1 t7.2.2.1 t7.2.2.2.1 t7.2.2.2.2.1)) >>= fun t8 =>
   if (((one4_0 == t8.2.1.1) && ((one4_1 == t8.2.1.2.1) && true)) && true) = true then
     (run_machine_write (.start t1.1.1 t8.2.1.1 t8.2.1.2.1 memory3_0 memory3_1)) >>= fun t9 =>
     (run_machine_builder_rule (.start t4.1.1 t7.1.1.1 t7.1.1.2.1 ([(⟨t8.1.1.1, t8.1.1.2.1, t8.1.1.2.2.1⟩ : api_Write), (⟨t9.1.1.1, t9.1.1.2.1, t9.1.1.2.2.1⟩ : api_Write)] : List api_Write) t8.2.2.2.1.1 t8.2.2.2.2.1 t8.2.2.2.2.2.1 t8.2.2.2.2.2.2.1)) >>= fun t10 =>
     (run_machine_builder_coreRules_1 (.start (⟨#[111, 119, 110]⟩ : ByteArray) (⟨own1_0, (⟨own1_1, own1_2⟩ : machine_signal), (⟨own1_3, own1_4⟩ : machine_signal)⟩ : machine_cache))) >>= fun t11 =>
     (run_machine_builder_not (.start t3.1.1.1 t3.1.1.2.1 t10.2.1.1 t10.2.2.1 t10.2.2.2.1 t10.2.2.2.2.1)) >>= fun t12 =>
     (run_machine_builder_is (.start other2_1 other2_2 (0 : Int) t12.2.1.1 t12.2.2.1 t12.2.2.2.1 t12.2.2.2.2.1)) >>= fun t13 =>
     (run_machine_builder_and (.start t12.1.1.1 t12.1.1.2.1 t13.1.1.1 t13.1.1.2.1 t13.2.1.1 t13.2.2.1 t13.2.2.2.1 t13.2.2.2.2.1)) >>= fun t14 =>
     (run_machine_builder_coreRules_2 (.start own1_0 (2 : Int) t8.2.1.1 t8.2.1.2.1 t14.2.1.1 t14.2.2.1 t14.2.2.2.1 t14.2.2.2.2.1)) >>= fun t15 =>
     if (((t8.2.1.1 == t15.2.1.1) && ((t8.2.1.2.1 == t15.2.1.2.1) && true)) && true) = true then
       (run_machine_write (.start t1.1.1 t2.1.1.1 t2.1.1.2.1 memory3_0 memory3_1)) >>= fun t16 =>
       (run_machine_builder_rule (.start t11.1.1 t14.1.1.1 t14.1.1.2.1 ([(⟨t15.1.1.1, t15.1.1.2.1, t15.1.1.2.2.1⟩ : api_Write), (⟨t16.1.1.1, t16.1.1.2.1, t16.1.1.2.2.1⟩ : api_Write)] : List api_Write) t15.2.2.2.1.1 t15.2.2.2.2.1 t15.2.2.2.2.2.1 t15.2.2.2.2.2.2.1)) >>= fun t17 =>
       (run_machine_builder_constant_v1 (.start own1_4 (1 : Int) t17.2.1.1 t17.2.2.1 t17.2.2.2.1 t17.2.2.2.2.1)) >>= fun t18 =>
       (run_machine_builder_node_v2 (.start (6 : Int) own1_4 (0 : Int) ([(⟨own1_3, own1_4⟩ : machine_signal), (⟨t18.1.1.1, t18.1.1.2.1⟩ : machine_signal)] : List machine_signal) t18.2.1.1 t18.2.2.1 t18.2.2.2.1 t18.2.2.2.2.1)) >>= fun t19 =>
       (run_machine_builder_coreRules_1 (.start (⟨#[119, 114, 105, 116, 101]⟩ : ByteArray) (⟨own1_0, (⟨own1_1, own1_2⟩ : machine_signal), (⟨own1_3, own1_4⟩ : machine_signal)⟩ : machine_cache))) >>= fun t20 =>
       (run_machine_write (.start t1.1.1 t15.2.1.1 t15.2.1.2.1 t19.1.1.1 t19.1.1.2.1)) >>= fun t21 =>
       (run_machine_builder_rule (.start t20.1.1 t3.1.1.1 t3.1.1.2.1 ([(⟨t21.1.1.1, t21.1.1.2.1, t21.1.1.2.2.1⟩ : api_Write)] : List api_Write) t19.2.1.1 t19.2.2.1 t19.2.2.2.1 t19.2.2.2.2.1)) >>= fun t22 =>
       (run_machine_builder_coreRules_1 (.start (⟨#[100, 114, 111, 112]⟩ : ByteArray) (⟨own1_0, (⟨own1_1, own1_2⟩ : machine_signal), (⟨own1_3, own1_4⟩ : machine_signal)⟩ : machine_cache))) >>= fun t23 =>
       (run_machine_builder_is (.start own1_1 own1_2 (1 : Int) t22.2.1.1 t22.2.2.1 t22.2.2.2.1 t22.2.2.2.2.1)) >>= fun t24 =>
       (run_machine_builder_coreRules_2 (.start own1_0 (0 : Int) t15.2.1.1 t15.2.1.2.1 t24.2.1.1 t24.2.2.1 t24.2.2.2.1 t24.2.2.2.2.1)) >>= fun t25 =>
       if (((t15.2.1.1 == t25.2.1.1) && ((t15.2.1.2.1 == t25.2.1.2.1) && true)) && true) = true then
         (run_machine_builder_rule (.start t23.1.1 t24.1.1.1 t24.1.1.2.1 ([(⟨t25.1.1.1, t25.1.1.2.1, t25.1.1.2.2.1⟩ : api_Write)] : List api_Write) t25.2.2.2.1.1 t25.2.2.2.2.1 t25.2.2.2.2.2.1 t25.2.2.2.2.2.2.1)) >>= fun t26 =>
         (run_machine_builder_coreRules_1 (.start (⟨#[98, 97, 99, 107]⟩ : ByteArray) (⟨own1_0, (⟨own1_1, own1_2⟩ : machine_signal), (⟨own1_3, own1_4⟩ : machine_signal)⟩ : machine_cache))) >>= fun t27 =>
         (run_machine_builder_coreRules_2 (.start own1_0 (1 : Int) t25.2.1.1 t25.2.1.2.1 t26.2.1.1 t26.2.2.1 t26.2.2.2.1 t26.2.2.2.2.1)) >>= fun t28 =>
         if (((t25.2.1.1 == t28.2.1.1) && ((t25.2.1.2.1 == t28.2.1.2.1) && true)) && true) = true then
           (run_machine_write (.start (0 : Int) t28.2.1.1 t28.2.1.2.1 own1_3 own1_4)) >>= fun t29 =>
           (run_machine_builder_rule (.start t27.1.1 t3.1.1.1 t3.1.1.2.1 ([(⟨t28.1.1.1, t28.1.1.2.1, t28.1.1.2.2.1⟩ : api_Write), (⟨t29.1.1.1, t29.1.1.2.1, t29.1.1.2.2.1⟩ : api_Write)] : List api_Write) t28.2.2.2.1.1 t28.2.2.2.2.1 t28.2.2.2.2.2.1 t28.2.2.2.2.2.2.1)) >>= fun t30 =>
           (run_machine_builder_coreRules_1 (.start (⟨#[121, 105, 101, 108, 100]⟩ : ByteArray) (⟨own1_0, (⟨own1_1, own1_2⟩ : machine_signal), (⟨own1_3, own1_4⟩ : machine_signal)⟩ : machine_cache))) >>= fun t31 =>
           (run_machine_builder_is (.start own1_1 own1_2 (1 : Int) t30.2.1.1 t30.2.2.1 t30.2.2.2.1 t30.2.2.2.2.1)) >>= fun t32 =>
           (run_machine_builder_is (.start other2_1 other2_2 (1 : Int) t32.2.1.1 t32.2.2.1 t32.2.2.2.1 t32.2.2.2.2.1)) >>= fun t33 =>
           (run_machine_builder_and (.start t32.1.1.1 t32.1.1.2.1 t33.1.1.1 t33.1.1.2.1 t33.2.1.1 t33.2.2.1 t33.2.2.2.1 t33.2.2.2.2.1)) >>= fun t34 =>
           (run_machine_builder_coreRules_2 (.start own1_0 (0 : Int) t28.2.1.1 t28.2.1.2.1 t34.2.1.1 t34.2.2.1 t34.2.2.2.1 t34.2.2.2.2.1)) >>= fun t35 =>
           if (((t28.2.1.1 == t35.2.1.1) && ((t28.2.1.2.1 == t35.2.1.2.1) && true)) && true) = true then
             (run_machine_builder_coreRules_2 (.start other2_0 (2 : Int) t35.2.1.1 t35.2.1.2.1 t35.2.2.2.1.1 t35.2.2.2.2.1 t35.2.2.2.2.2.1 t35.2.2.2.2.2.2.1)) >>= fun t36 =>
             if (((t35.2.1.1 == t36.2.1.1) && ((t35.2.1.2.1 == t36.2.1.2.1) && true)) && true) = true then
               (run_machine_builder_rule (.start t31.1.1 t34.1.1.1 t34.1.1.2.1 ([(⟨t35.1.1.1, t35.1.1.2.1, t35.1.1.2.2.1⟩ : api_Write), (⟨t36.1.1.1, t36.1.1.2.1, t36.1.1.2.2.1⟩ : api_Write)] : List api_Write) t36.2.2.2.1.1 t36.2.2.2.2.1 t36.2.2.2.2.2.1 t36.2.2.2.2.2.2.1)) >>= fun t37 =>
               some ((), ((t37.2.1.1, ((), ((), ((), ((), ((), ((), ()))))))), (t37.2.2.1, (t37.2.2.2.1, (t37.2.2.2.2.1, ())))))
             else none
           else none
         else none
       else none
     else none
   else none
noncomputable def tab_machine_builder_coreRules : List (Plc E P_machine_builder_coreRules) := []
theorem tab_machine_builder_coreRules_ok : All (PlcOk 146 1 place_machine_builder_coreRules st_machine_builder_coreRules) tab_machine_builder_coreRules := trivial
noncomputable def code_machine_builder_coreRules : Code := Tryz.f86.body.getD .skip
noncomputable def spec_machine_builder_coreRules : Spec E.S := (Con.add con_machine_builder_node_v2 (Con.add con_machine_builder_constant_v1 (Con.add con_machine_builder_rule (Con.add con_machine_write (Con.add con_machine_builder_coreRules_2 (Con.add con_machine_builder_and (Con.add con_machine_builder_not (Con.add con_machine_builder_coreRules_1 (Con.add con_machine_builder_is (Con.add con_machine_lineAt noSpec))))))))))
theorem spec_machine_builder_coreRules_ok : SpecOk E spec_machine_builder_coreRules := (Con.add_ok con_machine_builder_node_v2_ok (Con.add_ok con_machine_builder_constant_v1_ok (Con.add_ok con_machine_builder_rule_ok (Con.add_ok con_machine_write_ok (Con.add_ok con_machine_builder_coreRules_2_ok (Con.add_ok con_machine_builder_and_ok (Con.add_ok con_machine_builder_not_ok (Con.add_ok con_machine_builder_coreRules_1_ok (Con.add_ok con_machine_builder_is_ok (Con.add_ok con_machine_lineAt_ok noSpec_ok))))))))))
theorem good_machine_builder_coreRules : ∀ pt r, run_machine_builder_coreRules pt = some r → Good E Tryz.f86 code_machine_builder_coreRules 1 (res_machine_builder_coreRules.av r) (res_machine_builder_coreRules.bx r) (place_machine_builder_coreRules pt) (st_machine_builder_coreRules pt) := by
  intro pt r hr
  cases pt <;> exact fn_step (spec := spec_machine_builder_coreRules) (wr := (mkWr [] [])) (l := tab_machine_builder_coreRules) (z := 146) (p := res_machine_builder_coreRules) (run' := fun _ => none) E_ok tab_machine_builder_coreRules_ok.mem rfl spec_machine_builder_coreRules_ok (fun _ _ h => by cases h) (Eq.trans (by kernel_rfl) hr)
noncomputable def con_machine_builder_coreRules : Con E := ⟨86, ((Unit × Unit) × ((Int × (Int × (Int × (Int × (Int × Unit))))) × ((Int × (Int × (Int × (Int × (Int × Unit))))) × ((Int × (Int × Unit)) × ((Int × (Int × Unit)) × Unit))))), ((ByteArray × (Unit × (Unit × (Unit × (Unit × (Unit × (Unit × Unit))))))) × ((List api_Element) × ((List api_Node) × ((List api_Rule) × Unit)))), (RwL.cons (Rw.agg (RwL.cons (Rd.bp 0 0).w RwL.nil)) (RwL.cons (Rw.agg (RwL.cons (Rd.int .i64).w (RwL.cons (Rd.int .i64).w (RwL.cons (Rd.int .i64).w (RwL.cons (Rd.int .i64).w (RwL.cons (Rd.int .i64).w RwL.nil)))))) (RwL.cons (Rw.agg (RwL.cons (Rd.int .i64).w (RwL.cons (Rd.int .i64).w (RwL.cons (Rd.int .i64).w (RwL.cons (Rd.int .i64).w (RwL.cons (Rd.int .i64).w RwL.nil)))))) (RwL.cons (Rw.agg (RwL.cons (Rd.int .i64).w (RwL.cons (Rd.int .i64).w RwL.nil))) (RwL.cons (Rw.agg (RwL.cons (Rd.int .i64).w (RwL.cons (Rd.int .i64).w RwL.nil))) RwL.nil))))), (RdBL.cons (RdB.var 75 (RdL.cons Rd.str (RdL.cons Rd.nl (RdL.cons (Rd.rw 1) (RdL.cons (Rd.rw 2) (RdL.cons (Rd.rw 3) (RdL.cons Rd.nl (RdL.cons Rd.nl RdL.nil)))))))) (RdBL.cons (RdB.row 82 true) (RdBL.cons (RdB.row 208 true) (RdBL.cons (RdB.row 85 false) RdBL.nil)))), 1, R_machine_builder_coreRules, fun a b => run_machine_builder_coreRules (.start a.2.1.1 a.2.1.2.1 a.2.1.2.2.1 a.2.1.2.2.2.1 a.2.1.2.2.2.2.1 a.2.2.1.1 a.2.2.1.2.1 a.2.2.1.2.2.1 a.2.2.1.2.2.2.1 a.2.2.1.2.2.2.2.1 a.2.2.2.1.1 a.2.2.2.1.2.1 a.2.2.2.2.1.1 a.2.2.2.2.1.2.1 b.1.1 b.2.1 b.2.2.1 b.2.2.2.1), res_machine_builder_coreRules.av, res_machine_builder_coreRules.bx⟩
theorem con_machine_builder_coreRules_ok : con_machine_builder_coreRules.Ok := fun a b r h => fn_ok (fn := Tryz.f86) (code := code_machine_builder_coreRules) E_ok (by kernel_rfl) (by kernel_rfl) (by kernel_rfl) (Nat.le_of_ble_eq_true rfl) (good_machine_builder_coreRules (.start a.2.1.1 a.2.1.2.1 a.2.1.2.2.1 a.2.1.2.2.2.1 a.2.1.2.2.2.2.1 a.2.2.1.1 a.2.2.1.2.1 a.2.2.1.2.2.1 a.2.2.1.2.2.2.1 a.2.2.1.2.2.2.2.1 a.2.2.2.1.1 a.2.2.2.1.2.1 a.2.2.2.2.1.1 a.2.2.2.2.1.2.1 b.1.1 b.2.1 b.2.2.1 b.2.2.2.1) r h)

/-! ### ratchet/machine.CachesOf -/
inductive P_machine_CachesOf where
 | start (width0 : Int)
 | p1012 (width0 : Int) (s25 : Int) (B0 : ByteArray) (B2_0 : Int) (B2_1 : Int) (B3_0 : Int) (B3_1 : Int) (B3_2 : Int) (B3_3 : Int) (B3_4 : Int) (B3_5 : Int) (B3_6 : Int) (B3_7 : Int) (B3_8 : Int) (B3_9 : Int) (B4 : ByteArray) (B5 : (List api_Element)) (B6 : (List api_Node))
 | p4084 (s47 : Int) (B0 : ByteArray) (B2_0 : Int) (B2_1 : Int) (B3_0 : Int) (B3_1 : Int) (B3_2 : Int) (B3_3 : Int) (B3_4 : Int) (B3_5 : Int) (B3_6 : Int) (B3_7 : Int) (B3_8 : Int) (B3_9 : Int) (B4_0 : Int) (B4_1 : Int) (B5 : ByteArray) (B6 : (List api_Element)) (B7 : (List api_Node)) (B8 : (List api_Rule))
noncomputable def place_machine_CachesOf : P_machine_CachesOf → List Bool
 | .start .. => []
 | .p1012 .. => [false, false, true, false, true, true, true, true, true]
 | .p4084 .. => [false, false, true, false, true, true, true, true, true, true, true]
noncomputable def st_machine_CachesOf : P_machine_CachesOf → St E.S
 | .start width0 => st0 66 [.v (.int .i64 width0)] []
 | .p1012 width0 s25 B0 B2_0 B2_1 B3_0 B3_1 B3_2 B3_3 B3_4 B3_5 B3_6 B3_7 B3_8 B3_9 B4 B5 B6 => mkSt 66 [0, 2, 5, 6, 7, 25] [.v (.int .i64 width0), .bp 0 0, .bp 1 0, .bp 2 0, .bp 3 0, .v (.int .i64 s25)] [.var 75 [.v (.string B0), .nl, .nl, .nl, .nl, .nl, .nl], .var 131 [.bp 4 0], .var 133 [.v (.int .i64 B2_0), .v (.int .i64 B2_1)], .var 137 [.v (.int .i64 B3_0), .v (.int .i64 B3_1), .v (.int .i64 B3_2), .v (.int .i64 B3_3), .v (.int .i64 B3_4), .v (.int .i64 B3_5), .v (.int .i64 B3_6), .v (.int .i64 B3_7), .v (.int .i64 B3_8), .v (.int .i64 B3_9)], .var 75 [.v (.string B4), .nl, .rw 5, .rw 6, .nl, .nl, .nl], .row 82 B5 true, .row 208 B6 true]
 | .p4084 s47 B0 B2_0 B2_1 B3_0 B3_1 B3_2 B3_3 B3_4 B3_5 B3_6 B3_7 B3_8 B3_9 B4_0 B4_1 B5 B6 B7 B8 => mkSt 66 [2, 5, 6, 7, 11, 47] [.bp 0 0, .bp 1 0, .bp 2 0, .bp 3 0, .bp 4 0, .v (.int .i64 s47)] [.var 75 [.v (.string B0), .nl, .nl, .nl, .nl, .nl, .nl], .var 131 [.bp 5 0], .var 133 [.v (.int .i64 B2_0), .v (.int .i64 B2_1)], .var 137 [.v (.int .i64 B3_0), .v (.int .i64 B3_1), .v (.int .i64 B3_2), .v (.int .i64 B3_3), .v (.int .i64 B3_4), .v (.int .i64 B3_5), .v (.int .i64 B3_6), .v (.int .i64 B3_7), .v (.int .i64 B3_8), .v (.int .i64 B3_9)], .var 133 [.v (.int .i64 B4_0), .v (.int .i64 B4_1)], .var 75 [.v (.string B5), .nl, .rw 6, .rw 7, .rw 8, .nl, .nl], .row 82 B6 true, .row 208 B7 true, .row 85 B8 false]
abbrev R_machine_CachesOf : Type := (((ByteArray × (Unit × ((List api_Element) × ((List api_Node) × ((List api_Rule) × (Unit × (Unit × Unit))))))) × (Int × Unit)) × Unit)
noncomputable def res_machine_CachesOf : Res E ((ByteArray × (Unit × ((List api_Element) × ((List api_Node) × ((List api_Rule) × (Unit × (Unit × Unit))))))) × (Int × Unit)) Unit := { rows := [], flat := [], keep := 0, deep := [(false, 0, 2, 82), (false, 0, 3, 208), (false, 0, 4, 85)], done := [0, 1], rl := (RdL.cons (Rd.agg (RdL.cons Rd.str (RdL.cons Rd.nl (RdL.cons (Rd.sl 82 false) (RdL.cons (Rd.sl 208 false) (RdL.cons (Rd.sl 85 false) (RdL.cons Rd.nl (RdL.cons Rd.nl RdL.nil)))))))) (RdL.cons (Rd.int .i64) RdL.nil)), rb := RdBL.nil }
noncomputable def run_machine_CachesOf : P_machine_CachesOf → Option R_machine_CachesOf
 | .start width0 =>
   (run_machine_lineErr (.start width0)) >>= fun t1 =>
   if (t1.1.1 != (0 : Int)) = true then
     some ((((⟨#[]⟩ : ByteArray), ((), ([], ([], ([], ((), ((), ()))))))), (t1.1.1, ())), ())
   else
     (run_machine_builder_register (.start (⟨#[109, 101, 109, 111, 114, 121]⟩ : ByteArray) width0 (0 : Int) (⟨#[99, 97, 99, 104, 101, 115]⟩ : ByteArray))) >>= fun t2 =>
     run_machine_CachesOf (.p1012 width0 (0 : Int) (⟨#[]⟩ : ByteArray) t2.1.1.1 t2.1.1.2.1 (0 : Int) (0 : Int) (0 : Int) (0 : Int) (0 : Int) (0 : Int) (0 : Int) (0 : Int) (0 : Int) (0 : Int) t2.2.1.1 t2.2.2.1 t2.2.2.2.1)
 | .p1012 width0 s25 B0 B2_0 B2_1 B3_0 B3_1 B3_2 B3_3 B3_4 B3_5 B3_6 B3_7 B3_8 B3_9 B4 B5 B6 =>
   if (decide (s25 < (2 : Int))) = true then
     (itoaRun (s25, ()) ()) >>= fun t1 =>
     if (Nat.ble ((⟨#[107, 105, 110, 100]⟩ : ByteArray).size + t1.1.1.size) 9223372036854775807) = true then
       (run_machine_builder_register_v1 (.start ((⟨#[107, 105, 110, 100]⟩ : ByteArray) ++ t1.1.1) (2 : Int) (0 : Int) B4 B5 B6)) >>= fun t2 =>
       if (Nat.ble ((⟨#[108, 105, 110, 101]⟩ : ByteArray).size + t1.1.1.size) 9223372036854775807) = true then
         (run_machine_builder_register_v1 (.start ((⟨#[108, 105, 110, 101]⟩ : ByteArray) ++ t1.1.1) width0 (0 : Int) t2.2.1.1 t2.2.2.1 t2.2.2.2.1)) >>= fun t3 =>
         if (decide (s25 = 0)) = true then
           run_machine_CachesOf (.p1012 width0 (IntKind.wrap .i64 (s25 + (1 : Int))) B0 B2_0 B2_1 s25 t2.1.1.1 t2.1.1.2.1 t3.1.1.1 t3.1.1.2.1 B3_5 B3_6 B3_7 B3_8 B3_9 t3.2.1.1 t3.2.2.1 t3.2.2.2.1)
         else
           if (decide (s25 = 1)) = true then
             run_machine_CachesOf (.p1012 width0 (IntKind.wrap .i64 (s25 + (1 : Int))) B0 B2_0 B2_1 B3_0 B3_1 B3_2 B3_3 B3_4 s25 t2.1.1.1 t2.1.1.2.1 t3.1.1.1 t3.1.1.2.1 t3.2.1.1 t3.2.2.1 t3.2.2.2.1)
           else none
       else none
     else none
   else
     (run_machine_builder_constant (.start (1 : Int) (1 : Int) B4 B5 B6)) >>= fun t4 =>
     run_machine_CachesOf (.p4084 (0 : Int) B0 B2_0 B2_1 B3_0 B3_1 B3_2 B3_3 B3_4 B3_5 B3_6 B3_7 B3_8 B3_9 t4.1.1.1 t4.1.1.2.1 t4.2.1.1 t4.2.2.1 t4.2.2.2.1 ([] : List api_Rule))
 | .p4084 s47 B0 B2_0 B2_1 B3_0 B3_1 B3_2 B3_3 B3_4 B3_5 B3_6 B3_7 B3_8 B3_9 B4_0 B4_1 B5 B6 B7 B8 =>
   if (decide (s47 < (2 : Int))) = true then
     if (decide (s47 = 0)) = true then
       if (decide ((IntKind.wrap .i64 ((1 : Int) - s47)) = 0)) = true then
         (run_machine_builder_coreRules (.start B3_0 B3_1 B3_2 B3_3 B3_4 B3_0 B3_1 B3_2 B3_3 B3_4 B2_0 B2_1 B4_0 B4_1 B5 B6 B7 B8)) >>= fun t1 =>
         run_machine_CachesOf (.p4084 (IntKind.wrap .i64 (s47 + (1 : Int))) B0 B2_0 B2_1 B3_0 B3_1 B3_2 B3_3 B3_4 B3_5 B3_6 B3_7 B3_8 B3_9 B4_0 B4_1 t1.2.1.1 t1.2.2.1 t1.2.2.2.1 t1.2.2.2.2.1)
       else
         if (decide ((IntKind.wrap .i64 ((1 : Int) - s47)) = 1)) = true then
           (run_machine_builder_coreRules (.start B3_0 B3_1 B3_2 B3_3 B3_4 B3_5 B3_6 B3_7 B3_8 B3_9 B2_0 B2_1 B4_0 B4_1 B5 B6 B7 B8)) >>= fun t2 =>
           run_machine_CachesOf (.p4084 (IntKind.wrap .i64 (s47 + (1 : Int))) B0 B2_0 B2_1 B3_0 B3_1 B3_2 B3_3 B3_4 B3_5 B3_6 B3_7 B3_8 B3_9 B4_0 B4_1 t2.2.1.1 t2.2.2.1 t2.2.2.2.1 t2.2.2.2.2.1)
         else none
     else
       if (decide (s47 = 1)) = true then
         if (decide ((IntKind.wrap .i64 ((1 : Int) - s47)) = 0)) = true then
           (run_machine_builder_coreRules (.start B3_5 B3_6 B3_7 B3_8 B3_9 B3_0 B3_1 B3_2 B3_3 B3_4 B2_0 B2_1 B4_0 B4_1 B5 B6 B7 B8)) >>= fun t3 =>
           run_machine_CachesOf (.p4084 (IntKind.wrap .i64 (s47 + (1 : Int))) B0 B2_0 B2_1 B3_0 B3_1 B3_2 B3_3 B3_4 B3_5 B3_6 B3_7 B3_8 B3_9 B4_0 B4_1 t3.2.1.1 t3.2.2.1 t3.2.2.2.1 t3.2.2.2.2.1)
         else
           if (decide ((IntKind.wrap .i64 ((1 : Int) - s47)) = 1)) = true then
             (run_machine_builder_coreRules (.start B3_5 B3_6 B3_7 B3_8 B3_9 B3_5 B3_6 B3_7 B3_8 B3_9 B2_0 B2_1 B4_0 B4_1 B5 B6 B7 B8)) >>= fun t4 =>
             run_machine_CachesOf (.p4084 (IntKind.wrap .i64 (s47 + (1 : Int))) B0 B2_0 B2_1 B3_0 B3_1 B3_2 B3_3 B3_4 B3_5 B3_6 B3_7 B3_8 B3_9 B4_0 B4_1 t4.2.1.1 t4.2.2.1 t4.2.2.2.1 t4.2.2.2.2.1)
           else none
       else none
   else
     some (((B5, ((), (B6, (B7, (B8, ((), ((), ()))))))), ((0 : Int), ())), ())
  partial_fixpoint
noncomputable def tab_machine_CachesOf : List (Plc E P_machine_CachesOf) := [⟨1012, [false, false, true, false, true, true, true, true, true], { slots := [0, 2, 5, 6, 7, 25], rows := [], flat := [], keep := 0 }, (Int × (Unit × (Unit × (Unit × (Unit × (Int × Unit)))))), ((ByteArray × (Unit × (Unit × (Unit × (Unit × (Unit × (Unit × Unit))))))) × ((Unit × Unit) × ((Int × (Int × Unit)) × ((Int × (Int × (Int × (Int × (Int × (Int × (Int × (Int × (Int × (Int × Unit)))))))))) × ((ByteArray × (Unit × (Unit × (Unit × (Unit × (Unit × (Unit × Unit))))))) × ((List api_Element) × ((List api_Node) × Unit))))))), (RdL.cons (Rd.int .i64) (RdL.cons (Rd.bp 0 0) (RdL.cons (Rd.bp 1 0) (RdL.cons (Rd.bp 2 0) (RdL.cons (Rd.bp 3 0) (RdL.cons (Rd.int .i64) RdL.nil)))))), (RdBL.cons (RdB.var 75 (RdL.cons Rd.str (RdL.cons Rd.nl (RdL.cons Rd.nl (RdL.cons Rd.nl (RdL.cons Rd.nl (RdL.cons Rd.nl (RdL.cons Rd.nl RdL.nil)))))))) (RdBL.cons (RdB.var 131 (RdL.cons (Rd.bp 4 0) RdL.nil)) (RdBL.cons (RdB.var 133 (RdL.cons (Rd.int .i64) (RdL.cons (Rd.int .i64) RdL.nil))) (RdBL.cons (RdB.var 137 (RdL.cons (Rd.int .i64) (RdL.cons (Rd.int .i64) (RdL.cons (Rd.int .i64) (RdL.cons (Rd.int .i64) (RdL.cons (Rd.int .i64) (RdL.cons (Rd.int .i64) (RdL.cons (Rd.int .i64) (RdL.cons (Rd.int .i64) (RdL.cons (Rd.int .i64) (RdL.cons (Rd.int .i64) RdL.nil))))))))))) (RdBL.cons (RdB.var 75 (RdL.cons Rd.str (RdL.cons Rd.nl (RdL.cons (Rd.rw 5) (RdL.cons (Rd.rw 6) (RdL.cons Rd.nl (RdL.cons Rd.nl (RdL.cons Rd.nl RdL.nil)))))))) (RdBL.cons (RdB.row 82 true) (RdBL.cons (RdB.row 208 true) RdBL.nil))))))), fun a b => .p1012 a.1 a.2.2.2.2.2.1 b.1.1 b.2.2.1.1 b.2.2.1.2.1 b.2.2.2.1.1 b.2.2.2.1.2.1 b.2.2.2.1.2.2.1 b.2.2.2.1.2.2.2.1 b.2.2.2.1.2.2.2.2.1 b.2.2.2.1.2.2.2.2.2.1 b.2.2.2.1.2.2.2.2.2.2.1 b.2.2.2.1.2.2.2.2.2.2.2.1 b.2.2.2.1.2.2.2.2.2.2.2.2.1 b.2.2.2.1.2.2.2.2.2.2.2.2.2.1 b.2.2.2.2.1.1 b.2.2.2.2.2.1 b.2.2.2.2.2.2.1⟩,
  ⟨4084, [false, false, true, false, true, true, true, true, true, true, true], { slots := [2, 5, 6, 7, 11, 47], rows := [], flat := [], keep := 0, up := [(true, 100005, 4, 85)] }, (Unit × (Unit × (Unit × (Unit × (Unit × (Int × Unit)))))), ((ByteArray × (Unit × (Unit × (Unit × (Unit × (Unit × (Unit × Unit))))))) × ((Unit × Unit) × ((Int × (Int × Unit)) × ((Int × (Int × (Int × (Int × (Int × (Int × (Int × (Int × (Int × (Int × Unit)))))))))) × ((Int × (Int × Unit)) × ((ByteArray × (Unit × (Unit × (Unit × (Unit × (Unit × (Unit × Unit))))))) × ((List api_Element) × ((List api_Node) × ((List api_Rule) × Unit))))))))), (RdL.cons (Rd.bp 0 0) (RdL.cons (Rd.bp 1 0) (RdL.cons (Rd.bp 2 0) (RdL.cons (Rd.bp 3 0) (RdL.cons (Rd.bp 4 0) (RdL.cons (Rd.int .i64) RdL.nil)))))), (RdBL.cons (RdB.var 75 (RdL.cons Rd.str (RdL.cons Rd.nl (RdL.cons Rd.nl (RdL.cons Rd.nl (RdL.cons Rd.nl (RdL.cons Rd.nl (RdL.cons Rd.nl RdL.nil)))))))) (RdBL.cons (RdB.var 131 (RdL.cons (Rd.bp 5 0) RdL.nil)) (RdBL.cons (RdB.var 133 (RdL.cons (Rd.int .i64) (RdL.cons (Rd.int .i64) RdL.nil))) (RdBL.cons (RdB.var 137 (RdL.cons (Rd.int .i64) (RdL.cons (Rd.int .i64) (RdL.cons (Rd.int .i64) (RdL.cons (Rd.int .i64) (RdL.cons (Rd.int .i64) (RdL.cons (Rd.int .i64) (RdL.cons (Rd.int .i64) (RdL.cons (Rd.int .i64) (RdL.cons (Rd.int .i64) (RdL.cons (Rd.int .i64) RdL.nil))))))))))) (RdBL.cons (RdB.var 133 (RdL.cons (Rd.int .i64) (RdL.cons (Rd.int .i64) RdL.nil))) (RdBL.cons (RdB.var 75 (RdL.cons Rd.str (RdL.cons Rd.nl (RdL.cons (Rd.rw 6) (RdL.cons (Rd.rw 7) (RdL.cons (Rd.rw 8) (RdL.cons Rd.nl (RdL.cons Rd.nl RdL.nil)))))))) (RdBL.cons (RdB.row 82 true) (RdBL.cons (RdB.row 208 true) (RdBL.cons (RdB.row 85 false) RdBL.nil))))))))), fun a b => .p4084 a.2.2.2.2.2.1 b.1.1 b.2.2.1.1 b.2.2.1.2.1 b.2.2.2.1.1 b.2.2.2.1.2.1 b.2.2.2.1.2.2.1 b.2.2.2.1.2.2.2.1 b.2.2.2.1.2.2.2.2.1 b.2.2.2.1.2.2.2.2.2.1 b.2.2.2.1.2.2.2.2.2.2.1 b.2.2.2.1.2.2.2.2.2.2.2.1 b.2.2.2.1.2.2.2.2.2.2.2.2.1 b.2.2.2.1.2.2.2.2.2.2.2.2.2.1 b.2.2.2.2.1.1 b.2.2.2.2.1.2.1 b.2.2.2.2.2.1.1 b.2.2.2.2.2.2.1 b.2.2.2.2.2.2.2.1 b.2.2.2.2.2.2.2.2.1⟩]
theorem tab_machine_CachesOf_ok : All (PlcOk 66 0 place_machine_CachesOf st_machine_CachesOf) tab_machine_CachesOf := ⟨⟨rfl, rfl, fun _ _ => rfl, fun _ _ => rfl⟩, ⟨⟨rfl, rfl, fun _ _ => rfl, fun _ _ => rfl⟩, trivial⟩⟩
noncomputable def code_machine_CachesOf : Code := Tryz.f38.body.getD .skip
noncomputable def spec_machine_CachesOf : Spec E.S := (Con.add con_machine_builder_coreRules (Con.add con_machine_builder_constant (Con.add con_machine_builder_register_v1 (Con.add con_strconv_Itoa (Con.add con_machine_builder_register (Con.add con_machine_lineErr noSpec))))))
theorem spec_machine_CachesOf_ok : SpecOk E spec_machine_CachesOf := (Con.add_ok con_machine_builder_coreRules_ok (Con.add_ok con_machine_builder_constant_ok (Con.add_ok con_machine_builder_register_v1_ok (Con.add_ok con_strconv_Itoa_ok (Con.add_ok con_machine_builder_register_ok (Con.add_ok con_machine_lineErr_ok noSpec_ok))))))
theorem good_machine_CachesOf : ∀ pt r, run_machine_CachesOf pt = some r → Good E Tryz.f38 code_machine_CachesOf 0 (res_machine_CachesOf.av r) (res_machine_CachesOf.bx r) (place_machine_CachesOf pt) (st_machine_CachesOf pt) := by
  refine run_machine_CachesOf.partial_correctness (fun pt r => Good E Tryz.f38 code_machine_CachesOf 0 (res_machine_CachesOf.av r) (res_machine_CachesOf.bx r) (place_machine_CachesOf pt) (st_machine_CachesOf pt)) ?_
  intro run' ih pt r hr
  cases pt <;> exact fn_step (spec := spec_machine_CachesOf) (wr := (mkWr [] [])) (l := tab_machine_CachesOf) (z := 66) (p := res_machine_CachesOf) E_ok tab_machine_CachesOf_ok.mem rfl spec_machine_CachesOf_ok ih (Eq.trans (by kernel_rfl) hr)
noncomputable def con_machine_CachesOf : Con E := ⟨38, (Int × Unit), Unit, (RwL.cons (Rd.int .i64).w RwL.nil), RdBL.nil, 0, R_machine_CachesOf, fun a b => run_machine_CachesOf (.start a.1), res_machine_CachesOf.av, res_machine_CachesOf.bx⟩
theorem con_machine_CachesOf_ok : con_machine_CachesOf.Ok := fun a b r h => fn_ok (fn := Tryz.f38) (code := code_machine_CachesOf) E_ok (by kernel_rfl) (by kernel_rfl) (by kernel_rfl) (Nat.le_of_ble_eq_true rfl) (good_machine_CachesOf (.start a.1) r h)

/-! ### ratchet/ratchetbase.SamePorts -/
inductive P_ratchetbase_SamePorts where
 | start (a0 : (List api_Port)) (b1 : (List api_Port))
 | p116 (a0 : (List api_Port)) (b1 : (List api_Port)) (i5 : Int)
noncomputable def place_ratchetbase_SamePorts : P_ratchetbase_SamePorts → List Bool
 | .start .. => []
 | .p116 .. => [false, false, true, false, true, true]
noncomputable def st_ratchetbase_SamePorts : P_ratchetbase_SamePorts → St E.S
 | .start a0 b1 => st0 26 [.sl 206 a0 false, .sl 206 b1 false] []
 | .p116 a0 b1 i5 => mkSt 26 [0, 1, 5] [.sl 206 a0 false, .sl 206 b1 false, .v (.int .i64 i5)] []
abbrev R_ratchetbase_SamePorts : Type := ((Bool × Unit) × Unit)
noncomputable def res_ratchetbase_SamePorts : Res E (Bool × Unit) Unit := { rows := [], flat := [], keep := 0, done := [0], rl := (RdL.cons Rd.bool RdL.nil), rb := RdBL.nil }
noncomputable def run_ratchetbase_SamePorts : P_ratchetbase_SamePorts → Option R_ratchetbase_SamePorts
 | .start a0 b1 =>
   if ((List.length a0 : Int) != (List.length b1 : Int)) = true then
     some ((false, ()), ())
   else
     run_ratchetbase_SamePorts (.p116 a0 b1 (0 : Int))
 | .p116 a0 b1 i5 =>
   if (decide (i5 < (List.length a0 : Int))) = true then
     (idx a0 i5) >>= fun t1 =>
     (idx b1 i5) >>= fun t2 =>
     if (!((seq t1.Name t2.Name) && ((t1.Width == t2.Width) && true))) = true then
       some ((false, ()), ())
     else
       run_ratchetbase_SamePorts (.p116 a0 b1 (IntKind.wrap .i64 (i5 + (1 : Int))))
   else
     some ((true, ()), ())
  partial_fixpoint
noncomputable def tab_ratchetbase_SamePorts : List (Plc E P_ratchetbase_SamePorts) := [⟨116, [false, false, true, false, true, true], { slots := [0, 1, 5], rows := [], flat := [], keep := 0 }, ((List api_Port) × ((List api_Port) × (Int × Unit))), Unit, (RdL.cons (Rd.sl 206 false) (RdL.cons (Rd.sl 206 false) (RdL.cons (Rd.int .i64) RdL.nil))), RdBL.nil, fun a b => .p116 a.1 a.2.1 a.2.2.1⟩]
theorem tab_ratchetbase_SamePorts_ok : All (PlcOk 26 0 place_ratchetbase_SamePorts st_ratchetbase_SamePorts) tab_ratchetbase_SamePorts := ⟨⟨rfl, rfl, fun _ _ => rfl, fun _ _ => rfl⟩, trivial⟩
noncomputable def code_ratchetbase_SamePorts : Code := Tryz.f87.body.getD .skip
noncomputable def spec_ratchetbase_SamePorts : Spec E.S := noSpec
theorem spec_ratchetbase_SamePorts_ok : SpecOk E spec_ratchetbase_SamePorts := noSpec_ok
theorem good_ratchetbase_SamePorts : ∀ pt r, run_ratchetbase_SamePorts pt = some r → Good E Tryz.f87 code_ratchetbase_SamePorts 0 (res_ratchetbase_SamePorts.av r) (res_ratchetbase_SamePorts.bx r) (place_ratchetbase_SamePorts pt) (st_ratchetbase_SamePorts pt) := by
  refine run_ratchetbase_SamePorts.partial_correctness (fun pt r => Good E Tryz.f87 code_ratchetbase_SamePorts 0 (res_ratchetbase_SamePorts.av r) (res_ratchetbase_SamePorts.bx r) (place_ratchetbase_SamePorts pt) (st_ratchetbase_SamePorts pt)) ?_
  intro run' ih pt r hr
  cases pt <;> exact fn_step (spec := spec_ratchetbase_SamePorts) (wr := (mkWr [] [])) (l := tab_ratchetbase_SamePorts) (z := 26) (p := res_ratchetbase_SamePorts) E_ok tab_ratchetbase_SamePorts_ok.mem rfl spec_ratchetbase_SamePorts_ok ih (Eq.trans (by kernel_rfl) hr)
noncomputable def con_ratchetbase_SamePorts : Con E := ⟨87, ((List api_Port) × ((List api_Port) × Unit)), Unit, (RwL.cons (Rw.sl 206) (RwL.cons (Rw.sl 206) RwL.nil)), RdBL.nil, 0, R_ratchetbase_SamePorts, fun a b => run_ratchetbase_SamePorts (.start a.1 a.2.1), res_ratchetbase_SamePorts.av, res_ratchetbase_SamePorts.bx⟩
theorem con_ratchetbase_SamePorts_ok : con_ratchetbase_SamePorts.Ok := fun a b r h => fn_ok (fn := Tryz.f87) (code := code_ratchetbase_SamePorts) E_ok (by kernel_rfl) (by kernel_rfl) (by kernel_rfl) (Nat.le_of_ble_eq_true rfl) (good_ratchetbase_SamePorts (.start a.1 a.2.1) r h)

/-! ### ratchet/ratchetbase.Ints -/
inductive P_ratchetbase_Ints where
 | start (a0 : (List Int)) (b1 : (List Int))
 | p116 (a0 : (List Int)) (b1 : (List Int)) (i5 : Int)
noncomputable def place_ratchetbase_Ints : P_ratchetbase_Ints → List Bool
 | .start .. => []
 | .p116 .. => [false, false, true, false, true, true]
noncomputable def st_ratchetbase_Ints : P_ratchetbase_Ints → St E.S
 | .start a0 b1 => st0 26 [.sl 3 a0 false, .sl 3 b1 false] []
 | .p116 a0 b1 i5 => mkSt 26 [0, 1, 5] [.sl 3 a0 false, .sl 3 b1 false, .v (.int .i64 i5)] []
abbrev R_ratchetbase_Ints : Type := ((Bool × Unit) × Unit)
noncomputable def res_ratchetbase_Ints : Res E (Bool × Unit) Unit := { rows := [], flat := [], keep := 0, done := [0], rl := (RdL.cons Rd.bool RdL.nil), rb := RdBL.nil }
noncomputable def run_ratchetbase_Ints : P_ratchetbase_Ints → Option R_ratchetbase_Ints
 | .start a0 b1 =>
   if ((List.length a0 : Int) != (List.length b1 : Int)) = true then
     some ((false, ()), ())
   else
     run_ratchetbase_Ints (.p116 a0 b1 (0 : Int))
 | .p116 a0 b1 i5 =>
   if (decide (i5 < (List.length a0 : Int))) = true then
     (idx a0 i5) >>= fun t1 =>
     (idx b1 i5) >>= fun t2 =>
     if (t1 != t2) = true then
       some ((false, ()), ())
     else
       run_ratchetbase_Ints (.p116 a0 b1 (IntKind.wrap .i64 (i5 + (1 : Int))))
   else
     some ((true, ()), ())
  partial_fixpoint
noncomputable def tab_ratchetbase_Ints : List (Plc E P_ratchetbase_Ints) := [⟨116, [false, false, true, false, true, true], { slots := [0, 1, 5], rows := [], flat := [], keep := 0 }, ((List Int) × ((List Int) × (Int × Unit))), Unit, (RdL.cons (Rd.sl 3 false) (RdL.cons (Rd.sl 3 false) (RdL.cons (Rd.int .i64) RdL.nil))), RdBL.nil, fun a b => .p116 a.1 a.2.1 a.2.2.1⟩]
theorem tab_ratchetbase_Ints_ok : All (PlcOk 26 0 place_ratchetbase_Ints st_ratchetbase_Ints) tab_ratchetbase_Ints := ⟨⟨rfl, rfl, fun _ _ => rfl, fun _ _ => rfl⟩, trivial⟩
noncomputable def code_ratchetbase_Ints : Code := Tryz.f46.body.getD .skip
noncomputable def spec_ratchetbase_Ints : Spec E.S := noSpec
theorem spec_ratchetbase_Ints_ok : SpecOk E spec_ratchetbase_Ints := noSpec_ok
theorem good_ratchetbase_Ints : ∀ pt r, run_ratchetbase_Ints pt = some r → Good E Tryz.f46 code_ratchetbase_Ints 0 (res_ratchetbase_Ints.av r) (res_ratchetbase_Ints.bx r) (place_ratchetbase_Ints pt) (st_ratchetbase_Ints pt) := by
  refine run_ratchetbase_Ints.partial_correctness (fun pt r => Good E Tryz.f46 code_ratchetbase_Ints 0 (res_ratchetbase_Ints.av r) (res_ratchetbase_Ints.bx r) (place_ratchetbase_Ints pt) (st_ratchetbase_Ints pt)) ?_
  intro run' ih pt r hr
  cases pt <;> exact fn_step (spec := spec_ratchetbase_Ints) (wr := (mkWr [] [])) (l := tab_ratchetbase_Ints) (z := 26) (p := res_ratchetbase_Ints) E_ok tab_ratchetbase_Ints_ok.mem rfl spec_ratchetbase_Ints_ok ih (Eq.trans (by kernel_rfl) hr)
noncomputable def con_ratchetbase_Ints : Con E := ⟨46, ((List Int) × ((List Int) × Unit)), Unit, (RwL.cons (Rw.sl 3) (RwL.cons (Rw.sl 3) RwL.nil)), RdBL.nil, 0, R_ratchetbase_Ints, fun a b => run_ratchetbase_Ints (.start a.1 a.2.1), res_ratchetbase_Ints.av, res_ratchetbase_Ints.bx⟩
theorem con_ratchetbase_Ints_ok : con_ratchetbase_Ints.Ok := fun a b r h => fn_ok (fn := Tryz.f46) (code := code_ratchetbase_Ints) E_ok (by kernel_rfl) (by kernel_rfl) (by kernel_rfl) (Nat.le_of_ble_eq_true rfl) (good_ratchetbase_Ints (.start a.1 a.2.1) r h)

/-! ### ratchet/ratchetbase.SameNodes -/
inductive P_ratchetbase_SameNodes where
 | start (a0 : (List api_Node)) (b1 : (List api_Node))
 | p116 (a0 : (List api_Node)) (b1 : (List api_Node)) (i5 : Int)
noncomputable def place_ratchetbase_SameNodes : P_ratchetbase_SameNodes → List Bool
 | .start .. => []
 | .p116 .. => [false, false, true, false, true, true]
noncomputable def st_ratchetbase_SameNodes : P_ratchetbase_SameNodes → St E.S
 | .start a0 b1 => st0 68 [.sl 208 a0 false, .sl 208 b1 false] []
 | .p116 a0 b1 i5 => mkSt 68 [0, 1, 5] [.sl 208 a0 false, .sl 208 b1 false, .v (.int .i64 i5)] []
abbrev R_ratchetbase_SameNodes : Type := ((Bool × Unit) × Unit)
noncomputable def res_ratchetbase_SameNodes : Res E (Bool × Unit) Unit := { rows := [], flat := [], keep := 0, done := [0], rl := (RdL.cons Rd.bool RdL.nil), rb := RdBL.nil }
noncomputable def run_ratchetbase_SameNodes : P_ratchetbase_SameNodes → Option R_ratchetbase_SameNodes
 | .start a0 b1 =>
   if ((List.length a0 : Int) != (List.length b1 : Int)) = true then
     some ((false, ()), ())
   else
     run_ratchetbase_SameNodes (.p116 a0 b1 (0 : Int))
 | .p116 a0 b1 i5 =>
   if (decide (i5 < (List.length a0 : Int))) = true then
     (idx a0 i5) >>= fun t1 =>
     (idx b1 i5) >>= fun t2 =>
     if (t1.Op != t2.Op) = true then
       some ((false, ()), ())
     else
       (idx a0 i5) >>= fun t3 =>
       (idx b1 i5) >>= fun t4 =>
       if (t3.Width != t4.Width) = true then
         some ((false, ()), ())
       else
         (idx a0 i5) >>= fun t5 =>
         (idx b1 i5) >>= fun t6 =>
         if (t5.Value != t6.Value) = true then
           some ((false, ()), ())
         else
           (idx a0 i5) >>= fun t7 =>
           (idx b1 i5) >>= fun t8 =>
           (run_ratchetbase_Ints (.start t7.Args t8.Args)) >>= fun t9 =>
           if (!t9.1.1) = true then
             some ((false, ()), ())
           else
             run_ratchetbase_SameNodes (.p116 a0 b1 (IntKind.wrap .i64 (i5 + (1 : Int))))
   else
     some ((true, ()), ())
  partial_fixpoint
noncomputable def tab_ratchetbase_SameNodes : List (Plc E P_ratchetbase_SameNodes) := [⟨116, [false, false, true, false, true, true], { slots := [0, 1, 5], rows := [], flat := [], keep := 0 }, ((List api_Node) × ((List api_Node) × (Int × Unit))), Unit, (RdL.cons (Rd.sl 208 false) (RdL.cons (Rd.sl 208 false) (RdL.cons (Rd.int .i64) RdL.nil))), RdBL.nil, fun a b => .p116 a.1 a.2.1 a.2.2.1⟩]
theorem tab_ratchetbase_SameNodes_ok : All (PlcOk 68 0 place_ratchetbase_SameNodes st_ratchetbase_SameNodes) tab_ratchetbase_SameNodes := ⟨⟨rfl, rfl, fun _ _ => rfl, fun _ _ => rfl⟩, trivial⟩
noncomputable def code_ratchetbase_SameNodes : Code := Tryz.f88.body.getD .skip
noncomputable def spec_ratchetbase_SameNodes : Spec E.S := (Con.add con_ratchetbase_Ints noSpec)
theorem spec_ratchetbase_SameNodes_ok : SpecOk E spec_ratchetbase_SameNodes := (Con.add_ok con_ratchetbase_Ints_ok noSpec_ok)
theorem good_ratchetbase_SameNodes : ∀ pt r, run_ratchetbase_SameNodes pt = some r → Good E Tryz.f88 code_ratchetbase_SameNodes 0 (res_ratchetbase_SameNodes.av r) (res_ratchetbase_SameNodes.bx r) (place_ratchetbase_SameNodes pt) (st_ratchetbase_SameNodes pt) := by
  refine run_ratchetbase_SameNodes.partial_correctness (fun pt r => Good E Tryz.f88 code_ratchetbase_SameNodes 0 (res_ratchetbase_SameNodes.av r) (res_ratchetbase_SameNodes.bx r) (place_ratchetbase_SameNodes pt) (st_ratchetbase_SameNodes pt)) ?_
  intro run' ih pt r hr
  cases pt <;> exact fn_step (spec := spec_ratchetbase_SameNodes) (wr := (mkWr [] [])) (l := tab_ratchetbase_SameNodes) (z := 68) (p := res_ratchetbase_SameNodes) E_ok tab_ratchetbase_SameNodes_ok.mem rfl spec_ratchetbase_SameNodes_ok ih (Eq.trans (by kernel_rfl) hr)
noncomputable def con_ratchetbase_SameNodes : Con E := ⟨88, ((List api_Node) × ((List api_Node) × Unit)), Unit, (RwL.cons (Rw.sl 208) (RwL.cons (Rw.sl 208) RwL.nil)), RdBL.nil, 0, R_ratchetbase_SameNodes, fun a b => run_ratchetbase_SameNodes (.start a.1 a.2.1), res_ratchetbase_SameNodes.av, res_ratchetbase_SameNodes.bx⟩
theorem con_ratchetbase_SameNodes_ok : con_ratchetbase_SameNodes.Ok := fun a b r h => fn_ok (fn := Tryz.f88) (code := code_ratchetbase_SameNodes) E_ok (by kernel_rfl) (by kernel_rfl) (by kernel_rfl) (Nat.le_of_ble_eq_true rfl) (good_ratchetbase_SameNodes (.start a.1 a.2.1) r h)

/-! ### ratchet/ratchetbase.SameOutputs -/
inductive P_ratchetbase_SameOutputs where
 | start (a0 : (List api_Output)) (b1 : (List api_Output))
 | p116 (a0 : (List api_Output)) (b1 : (List api_Output)) (i5 : Int)
noncomputable def place_ratchetbase_SameOutputs : P_ratchetbase_SameOutputs → List Bool
 | .start .. => []
 | .p116 .. => [false, false, true, false, true, true]
noncomputable def st_ratchetbase_SameOutputs : P_ratchetbase_SameOutputs → St E.S
 | .start a0 b1 => st0 26 [.sl 190 a0 false, .sl 190 b1 false] []
 | .p116 a0 b1 i5 => mkSt 26 [0, 1, 5] [.sl 190 a0 false, .sl 190 b1 false, .v (.int .i64 i5)] []
abbrev R_ratchetbase_SameOutputs : Type := ((Bool × Unit) × Unit)
noncomputable def res_ratchetbase_SameOutputs : Res E (Bool × Unit) Unit := { rows := [], flat := [], keep := 0, done := [0], rl := (RdL.cons Rd.bool RdL.nil), rb := RdBL.nil }
noncomputable def run_ratchetbase_SameOutputs : P_ratchetbase_SameOutputs → Option R_ratchetbase_SameOutputs
 | .start a0 b1 =>
   if ((List.length a0 : Int) != (List.length b1 : Int)) = true then
     some ((false, ()), ())
   else
     run_ratchetbase_SameOutputs (.p116 a0 b1 (0 : Int))
 | .p116 a0 b1 i5 =>
   if (decide (i5 < (List.length a0 : Int))) = true then
     (idx a0 i5) >>= fun t1 =>
     (idx b1 i5) >>= fun t2 =>
     if (!((seq t1.Name t2.Name) && ((t1.Node == t2.Node) && true))) = true then
       some ((false, ()), ())
     else
       run_ratchetbase_SameOutputs (.p116 a0 b1 (IntKind.wrap .i64 (i5 + (1 : Int))))
   else
     some ((true, ()), ())
  partial_fixpoint
noncomputable def tab_ratchetbase_SameOutputs : List (Plc E P_ratchetbase_SameOutputs) := [⟨116, [false, false, true, false, true, true], { slots := [0, 1, 5], rows := [], flat := [], keep := 0 }, ((List api_Output) × ((List api_Output) × (Int × Unit))), Unit, (RdL.cons (Rd.sl 190 false) (RdL.cons (Rd.sl 190 false) (RdL.cons (Rd.int .i64) RdL.nil))), RdBL.nil, fun a b => .p116 a.1 a.2.1 a.2.2.1⟩]
theorem tab_ratchetbase_SameOutputs_ok : All (PlcOk 26 0 place_ratchetbase_SameOutputs st_ratchetbase_SameOutputs) tab_ratchetbase_SameOutputs := ⟨⟨rfl, rfl, fun _ _ => rfl, fun _ _ => rfl⟩, trivial⟩
noncomputable def code_ratchetbase_SameOutputs : Code := Tryz.f89.body.getD .skip
noncomputable def spec_ratchetbase_SameOutputs : Spec E.S := noSpec
theorem spec_ratchetbase_SameOutputs_ok : SpecOk E spec_ratchetbase_SameOutputs := noSpec_ok
theorem good_ratchetbase_SameOutputs : ∀ pt r, run_ratchetbase_SameOutputs pt = some r → Good E Tryz.f89 code_ratchetbase_SameOutputs 0 (res_ratchetbase_SameOutputs.av r) (res_ratchetbase_SameOutputs.bx r) (place_ratchetbase_SameOutputs pt) (st_ratchetbase_SameOutputs pt) := by
  refine run_ratchetbase_SameOutputs.partial_correctness (fun pt r => Good E Tryz.f89 code_ratchetbase_SameOutputs 0 (res_ratchetbase_SameOutputs.av r) (res_ratchetbase_SameOutputs.bx r) (place_ratchetbase_SameOutputs pt) (st_ratchetbase_SameOutputs pt)) ?_
  intro run' ih pt r hr
  cases pt <;> exact fn_step (spec := spec_ratchetbase_SameOutputs) (wr := (mkWr [] [])) (l := tab_ratchetbase_SameOutputs) (z := 26) (p := res_ratchetbase_SameOutputs) E_ok tab_ratchetbase_SameOutputs_ok.mem rfl spec_ratchetbase_SameOutputs_ok ih (Eq.trans (by kernel_rfl) hr)
noncomputable def con_ratchetbase_SameOutputs : Con E := ⟨89, ((List api_Output) × ((List api_Output) × Unit)), Unit, (RwL.cons (Rw.sl 190) (RwL.cons (Rw.sl 190) RwL.nil)), RdBL.nil, 0, R_ratchetbase_SameOutputs, fun a b => run_ratchetbase_SameOutputs (.start a.1 a.2.1), res_ratchetbase_SameOutputs.av, res_ratchetbase_SameOutputs.bx⟩
theorem con_ratchetbase_SameOutputs_ok : con_ratchetbase_SameOutputs.Ok := fun a b r h => fn_ok (fn := Tryz.f89) (code := code_ratchetbase_SameOutputs) E_ok (by kernel_rfl) (by kernel_rfl) (by kernel_rfl) (Nat.le_of_ble_eq_true rfl) (good_ratchetbase_SameOutputs (.start a.1 a.2.1) r h)

/-! ### ratchet/ratchetbase.SameWrites -/
inductive P_ratchetbase_SameWrites where
 | start (a0 : (List api_Write)) (b1 : (List api_Write))
 | p116 (a0 : (List api_Write)) (b1 : (List api_Write)) (i5 : Int)
noncomputable def place_ratchetbase_SameWrites : P_ratchetbase_SameWrites → List Bool
 | .start .. => []
 | .p116 .. => [false, false, true, false, true, true]
noncomputable def st_ratchetbase_SameWrites : P_ratchetbase_SameWrites → St E.S
 | .start a0 b1 => st0 26 [.sl 151 a0 false, .sl 151 b1 false] []
 | .p116 a0 b1 i5 => mkSt 26 [0, 1, 5] [.sl 151 a0 false, .sl 151 b1 false, .v (.int .i64 i5)] []
abbrev R_ratchetbase_SameWrites : Type := ((Bool × Unit) × Unit)
noncomputable def res_ratchetbase_SameWrites : Res E (Bool × Unit) Unit := { rows := [], flat := [], keep := 0, done := [0], rl := (RdL.cons Rd.bool RdL.nil), rb := RdBL.nil }
noncomputable def run_ratchetbase_SameWrites : P_ratchetbase_SameWrites → Option R_ratchetbase_SameWrites
 | .start a0 b1 =>
   if ((List.length a0 : Int) != (List.length b1 : Int)) = true then
     some ((false, ()), ())
   else
     run_ratchetbase_SameWrites (.p116 a0 b1 (0 : Int))
 | .p116 a0 b1 i5 =>
   if (decide (i5 < (List.length a0 : Int))) = true then
     (idx a0 i5) >>= fun t1 =>
     (idx b1 i5) >>= fun t2 =>
     if (!((t1.Element == t2.Element) && ((t1.When == t2.When) && ((t1.Value == t2.Value) && true)))) = true then
       some ((false, ()), ())
     else
       run_ratchetbase_SameWrites (.p116 a0 b1 (IntKind.wrap .i64 (i5 + (1 : Int))))
   else
     some ((true, ()), ())
  partial_fixpoint
noncomputable def tab_ratchetbase_SameWrites : List (Plc E P_ratchetbase_SameWrites) := [⟨116, [false, false, true, false, true, true], { slots := [0, 1, 5], rows := [], flat := [], keep := 0 }, ((List api_Write) × ((List api_Write) × (Int × Unit))), Unit, (RdL.cons (Rd.sl 151 false) (RdL.cons (Rd.sl 151 false) (RdL.cons (Rd.int .i64) RdL.nil))), RdBL.nil, fun a b => .p116 a.1 a.2.1 a.2.2.1⟩]
theorem tab_ratchetbase_SameWrites_ok : All (PlcOk 26 0 place_ratchetbase_SameWrites st_ratchetbase_SameWrites) tab_ratchetbase_SameWrites := ⟨⟨rfl, rfl, fun _ _ => rfl, fun _ _ => rfl⟩, trivial⟩
noncomputable def code_ratchetbase_SameWrites : Code := Tryz.f90.body.getD .skip
noncomputable def spec_ratchetbase_SameWrites : Spec E.S := noSpec
theorem spec_ratchetbase_SameWrites_ok : SpecOk E spec_ratchetbase_SameWrites := noSpec_ok
theorem good_ratchetbase_SameWrites : ∀ pt r, run_ratchetbase_SameWrites pt = some r → Good E Tryz.f90 code_ratchetbase_SameWrites 0 (res_ratchetbase_SameWrites.av r) (res_ratchetbase_SameWrites.bx r) (place_ratchetbase_SameWrites pt) (st_ratchetbase_SameWrites pt) := by
  refine run_ratchetbase_SameWrites.partial_correctness (fun pt r => Good E Tryz.f90 code_ratchetbase_SameWrites 0 (res_ratchetbase_SameWrites.av r) (res_ratchetbase_SameWrites.bx r) (place_ratchetbase_SameWrites pt) (st_ratchetbase_SameWrites pt)) ?_
  intro run' ih pt r hr
  cases pt <;> exact fn_step (spec := spec_ratchetbase_SameWrites) (wr := (mkWr [] [])) (l := tab_ratchetbase_SameWrites) (z := 26) (p := res_ratchetbase_SameWrites) E_ok tab_ratchetbase_SameWrites_ok.mem rfl spec_ratchetbase_SameWrites_ok ih (Eq.trans (by kernel_rfl) hr)
noncomputable def con_ratchetbase_SameWrites : Con E := ⟨90, ((List api_Write) × ((List api_Write) × Unit)), Unit, (RwL.cons (Rw.sl 151) (RwL.cons (Rw.sl 151) RwL.nil)), RdBL.nil, 0, R_ratchetbase_SameWrites, fun a b => run_ratchetbase_SameWrites (.start a.1 a.2.1), res_ratchetbase_SameWrites.av, res_ratchetbase_SameWrites.bx⟩
theorem con_ratchetbase_SameWrites_ok : con_ratchetbase_SameWrites.Ok := fun a b r h => fn_ok (fn := Tryz.f90) (code := code_ratchetbase_SameWrites) E_ok (by kernel_rfl) (by kernel_rfl) (by kernel_rfl) (Nat.le_of_ble_eq_true rfl) (good_ratchetbase_SameWrites (.start a.1 a.2.1) r h)

/-! ### ratchet/ratchetbase.SameDesign -/
inductive P_ratchetbase_SameDesign where
 | start (a0_0 : ByteArray) (a0_1 : (List api_Port)) (a0_2 : (List api_Element)) (a0_3 : (List api_Node)) (a0_4 : (List api_Rule)) (a0_5 : (List api_Output)) (a0_6 : (List api_Attribute)) (b1_0 : ByteArray) (b1_1 : (List api_Port)) (b1_2 : (List api_Element)) (b1_3 : (List api_Node)) (b1_4 : (List api_Rule)) (b1_5 : (List api_Output)) (b1_6 : (List api_Attribute))
 | p7 (B0_0 : ByteArray) (B0_1 : (List api_Port)) (B0_2 : (List api_Element)) (B0_3 : (List api_Node)) (B0_4 : (List api_Rule)) (B0_5 : (List api_Output)) (B0_6 : (List api_Attribute)) (B1_0 : ByteArray) (B1_1 : (List api_Port)) (B1_2 : (List api_Element)) (B1_3 : (List api_Node)) (B1_4 : (List api_Rule)) (B1_5 : (List api_Output)) (B1_6 : (List api_Attribute))
 | p116 (i5 : Int) (B0_0 : ByteArray) (B0_1 : (List api_Port)) (B0_2 : (List api_Element)) (B0_3 : (List api_Node)) (B0_4 : (List api_Rule)) (B0_5 : (List api_Output)) (B0_6 : (List api_Attribute)) (B1_0 : ByteArray) (B1_1 : (List api_Port)) (B1_2 : (List api_Element)) (B1_3 : (List api_Node)) (B1_4 : (List api_Rule)) (B1_5 : (List api_Output)) (B1_6 : (List api_Attribute))
 | p244 (i6 : Int) (B0_0 : ByteArray) (B0_1 : (List api_Port)) (B0_2 : (List api_Element)) (B0_3 : (List api_Node)) (B0_4 : (List api_Rule)) (B0_5 : (List api_Output)) (B0_6 : (List api_Attribute)) (B1_0 : ByteArray) (B1_1 : (List api_Port)) (B1_2 : (List api_Element)) (B1_3 : (List api_Node)) (B1_4 : (List api_Rule)) (B1_5 : (List api_Output)) (B1_6 : (List api_Attribute))
 | p500 (i7 : Int) (B0_0 : ByteArray) (B0_1 : (List api_Port)) (B0_2 : (List api_Element)) (B0_3 : (List api_Node)) (B0_4 : (List api_Rule)) (B0_5 : (List api_Output)) (B0_6 : (List api_Attribute)) (B1_0 : ByteArray) (B1_1 : (List api_Port)) (B1_2 : (List api_Element)) (B1_3 : (List api_Node)) (B1_4 : (List api_Rule)) (B1_5 : (List api_Output)) (B1_6 : (List api_Attribute))
noncomputable def place_ratchetbase_SameDesign : P_ratchetbase_SameDesign → List Bool
 | .start .. => []
 | .p7 .. => [true, true]
 | .p116 .. => [false, false, true, false, true, true]
 | .p244 .. => [false, false, true, false, true, true, true]
 | .p500 .. => [false, false, true, false, true, true, true, true]
noncomputable def st_ratchetbase_SameDesign : P_ratchetbase_SameDesign → St E.S
 | .start a0_0 a0_1 a0_2 a0_3 a0_4 a0_5 a0_6 b1_0 b1_1 b1_2 b1_3 b1_4 b1_5 b1_6 => st0 169 [.agg [.v (.string a0_0), .sl 206 a0_1 false, .sl 82 a0_2 false, .sl 208 a0_3 false, .sl 85 a0_4 false, .sl 190 a0_5 false, .sl 146 a0_6 false], .agg [.v (.string b1_0), .sl 206 b1_1 false, .sl 82 b1_2 false, .sl 208 b1_3 false, .sl 85 b1_4 false, .sl 190 b1_5 false, .sl 146 b1_6 false]] []
 | .p7 B0_0 B0_1 B0_2 B0_3 B0_4 B0_5 B0_6 B1_0 B1_1 B1_2 B1_3 B1_4 B1_5 B1_6 => mkSt 169 [2, 3] [.bp 0 0, .bp 1 0] [.var 75 [.v (.string B0_0), .sl 206 B0_1 false, .sl 82 B0_2 false, .sl 208 B0_3 false, .sl 85 B0_4 false, .sl 190 B0_5 false, .sl 146 B0_6 false], .var 75 [.v (.string B1_0), .sl 206 B1_1 false, .sl 82 B1_2 false, .sl 208 B1_3 false, .sl 85 B1_4 false, .sl 190 B1_5 false, .sl 146 B1_6 false]]
 | .p116 i5 B0_0 B0_1 B0_2 B0_3 B0_4 B0_5 B0_6 B1_0 B1_1 B1_2 B1_3 B1_4 B1_5 B1_6 => mkSt 169 [2, 3, 5] [.bp 0 0, .bp 1 0, .v (.int .i64 i5)] [.var 75 [.v (.string B0_0), .sl 206 B0_1 false, .sl 82 B0_2 false, .sl 208 B0_3 false, .sl 85 B0_4 false, .sl 190 B0_5 false, .sl 146 B0_6 false], .var 75 [.v (.string B1_0), .sl 206 B1_1 false, .sl 82 B1_2 false, .sl 208 B1_3 false, .sl 85 B1_4 false, .sl 190 B1_5 false, .sl 146 B1_6 false]]
 | .p244 i6 B0_0 B0_1 B0_2 B0_3 B0_4 B0_5 B0_6 B1_0 B1_1 B1_2 B1_3 B1_4 B1_5 B1_6 => mkSt 169 [2, 3, 6] [.bp 0 0, .bp 1 0, .v (.int .i64 i6)] [.var 75 [.v (.string B0_0), .sl 206 B0_1 false, .sl 82 B0_2 false, .sl 208 B0_3 false, .sl 85 B0_4 false, .sl 190 B0_5 false, .sl 146 B0_6 false], .var 75 [.v (.string B1_0), .sl 206 B1_1 false, .sl 82 B1_2 false, .sl 208 B1_3 false, .sl 85 B1_4 false, .sl 190 B1_5 false, .sl 146 B1_6 false]]
 | .p500 i7 B0_0 B0_1 B0_2 B0_3 B0_4 B0_5 B0_6 B1_0 B1_1 B1_2 B1_3 B1_4 B1_5 B1_6 => mkSt 169 [2, 3, 7] [.bp 0 0, .bp 1 0, .v (.int .i64 i7)] [.var 75 [.v (.string B0_0), .sl 206 B0_1 false, .sl 82 B0_2 false, .sl 208 B0_3 false, .sl 85 B0_4 false, .sl 190 B0_5 false, .sl 146 B0_6 false], .var 75 [.v (.string B1_0), .sl 206 B1_1 false, .sl 82 B1_2 false, .sl 208 B1_3 false, .sl 85 B1_4 false, .sl 190 B1_5 false, .sl 146 B1_6 false]]
abbrev R_ratchetbase_SameDesign : Type := ((Bool × Unit) × Unit)
noncomputable def res_ratchetbase_SameDesign : Res E (Bool × Unit) Unit := { rows := [], flat := [], keep := 0, done := [0], rl := (RdL.cons Rd.bool RdL.nil), rb := RdBL.nil }
noncomputable def run_ratchetbase_SameDesign : P_ratchetbase_SameDesign → Option R_ratchetbase_SameDesign
 | .start a0_0 a0_1 a0_2 a0_3 a0_4 a0_5 a0_6 b1_0 b1_1 b1_2 b1_3 b1_4 b1_5 b1_6 =>
   if (!(seq a0_0 b1_0)) = true then
     some ((false, ()), ())
   else
     (run_ratchetbase_SamePorts (.start a0_1 b1_1)) >>= fun t1 =>
     if (!t1.1.1) = true then
       some ((false, ()), ())
     else
       if ((List.length a0_2 : Int) != (List.length b1_2 : Int)) = true then
         some ((false, ()), ())
       else
         (run_ratchetbase_SameNodes (.start a0_3 b1_3)) >>= fun t2 =>
         if (!t2.1.1) = true then
           some ((false, ()), ())
         else
           if ((List.length a0_4 : Int) != (List.length b1_4 : Int)) = true then
             some ((false, ()), ())
           else
             (run_ratchetbase_SameOutputs (.start a0_5 b1_5)) >>= fun t3 =>
             if (!t3.1.1) = true then
               some ((false, ()), ())
             else
               if ((List.length a0_6 : Int) != (List.length b1_6 : Int)) = true then
                 some ((false, ()), ())
               else
                 run_ratchetbase_SameDesign (.p7 a0_0 a0_1 a0_2 a0_3 a0_4 a0_5 a0_6 b1_0 b1_1 b1_2 b1_3 b1_4 b1_5 b1_6)
 | .p7 B0_0 B0_1 B0_2 B0_3 B0_4 B0_5 B0_6 B1_0 B1_1 B1_2 B1_3 B1_4 B1_5 B1_6 =>
   run_ratchetbase_SameDesign (.p116 (0 : Int) B0_0 B0_1 B0_2 B0_3 B0_4 B0_5 B0_6 B1_0 B1_1 B1_2 B1_3 B1_4 B1_5 B1_6)
 | .p116 i5 B0_0 B0_1 B0_2 B0_3 B0_4 B0_5 B0_6 B1_0 B1_1 B1_2 B1_3 B1_4 B1_5 B1_6 =>
   if (decide (i5 < (List.length B0_2 : Int))) = true then
     (idx B0_2 i5) >>= fun t1 =>
     (idx B1_2 i5) >>= fun t2 =>
     if (!((seq t1.Name t2.Name) && ((t1.Kind == t2.Kind) && ((t1.Width == t2.Width) && ((t1.Init == t2.Init) && ((t1.Clock == t2.Clock) && true)))))) = true then
       some ((false, ()), ())
     else
       run_ratchetbase_SameDesign (.p116 (IntKind.wrap .i64 (i5 + (1 : Int))) B0_0 B0_1 B0_2 B0_3 B0_4 B0_5 B0_6 B1_0 B1_1 B1_2 B1_3 B1_4 B1_5 B1_6)
   else
     run_ratchetbase_SameDesign (.p244 (0 : Int) B0_0 B0_1 B0_2 B0_3 B0_4 B0_5 B0_6 B1_0 B1_1 B1_2 B1_3 B1_4 B1_5 B1_6)
 | .p244 i6 B0_0 B0_1 B0_2 B0_3 B0_4 B0_5 B0_6 B1_0 B1_1 B1_2 B1_3 B1_4 B1_5 B1_6 =>
   if (decide (i6 < (List.length B0_4 : Int))) = true then
     (idx B0_4 i6) >>= fun t1 =>
     (idx B1_4 i6) >>= fun t2 =>
     if (!(seq t1.Name t2.Name)) = true then
       some ((false, ()), ())
     else
       (idx B0_4 i6) >>= fun t3 =>
       (idx B1_4 i6) >>= fun t4 =>
       if (t3.Guard != t4.Guard) = true then
         some ((false, ()), ())
       else
         (idx B0_4 i6) >>= fun t5 =>
         (idx B1_4 i6) >>= fun t6 =>
         (run_ratchetbase_SameWrites (.start t5.Writes t6.Writes)) >>= fun t7 =>
         if (!t7.1.1) = true then
           some ((false, ()), ())
         else
           run_ratchetbase_SameDesign (.p244 (IntKind.wrap .i64 (i6 + (1 : Int))) B0_0 B0_1 B0_2 B0_3 B0_4 B0_5 B0_6 B1_0 B1_1 B1_2 B1_3 B1_4 B1_5 B1_6)
   else
     run_ratchetbase_SameDesign (.p500 (0 : Int) B0_0 B0_1 B0_2 B0_3 B0_4 B0_5 B0_6 B1_0 B1_1 B1_2 B1_3 B1_4 B1_5 B1_6)
 | .p500 i7 B0_0 B0_1 B0_2 B0_3 B0_4 B0_5 B0_6 B1_0 B1_1 B1_2 B1_3 B1_4 B1_5 B1_6 =>
   if (decide (i7 < (List.length B0_6 : Int))) = true then
     (idx B0_6 i7) >>= fun t1 =>
     (idx B1_6 i7) >>= fun t2 =>
     if (t1.Kind != t2.Kind) = true then
       some ((false, ()), ())
     else
       (idx B0_6 i7) >>= fun t3 =>
       (idx B1_6 i7) >>= fun t4 =>
       (run_ratchetbase_Ints (.start t3.Rules t4.Rules)) >>= fun t5 =>
       if (!t5.1.1) = true then
         some ((false, ()), ())
       else
         run_ratchetbase_SameDesign (.p500 (IntKind.wrap .i64 (i7 + (1 : Int))) B0_0 B0_1 B0_2 B0_3 B0_4 B0_5 B0_6 B1_0 B1_1 B1_2 B1_3 B1_4 B1_5 B1_6)
   else
     some ((true, ()), ())
  partial_fixpoint
noncomputable def tab_ratchetbase_SameDesign : List (Plc E P_ratchetbase_SameDesign) := [⟨7, [true, true], { slots := [2, 3], rows := [], flat := [], keep := 0 }, (Unit × (Unit × Unit)), ((ByteArray × ((List api_Port) × ((List api_Element) × ((List api_Node) × ((List api_Rule) × ((List api_Output) × ((List api_Attribute) × Unit))))))) × ((ByteArray × ((List api_Port) × ((List api_Element) × ((List api_Node) × ((List api_Rule) × ((List api_Output) × ((List api_Attribute) × Unit))))))) × Unit)), (RdL.cons (Rd.bp 0 0) (RdL.cons (Rd.bp 1 0) RdL.nil)), (RdBL.cons (RdB.var 75 (RdL.cons Rd.str (RdL.cons (Rd.sl 206 false) (RdL.cons (Rd.sl 82 false) (RdL.cons (Rd.sl 208 false) (RdL.cons (Rd.sl 85 false) (RdL.cons (Rd.sl 190 false) (RdL.cons (Rd.sl 146 false) RdL.nil)))))))) (RdBL.cons (RdB.var 75 (RdL.cons Rd.str (RdL.cons (Rd.sl 206 false) (RdL.cons (Rd.sl 82 false) (RdL.cons (Rd.sl 208 false) (RdL.cons (Rd.sl 85 false) (RdL.cons (Rd.sl 190 false) (RdL.cons (Rd.sl 146 false) RdL.nil)))))))) RdBL.nil)), fun a b => .p7 b.1.1 b.1.2.1 b.1.2.2.1 b.1.2.2.2.1 b.1.2.2.2.2.1 b.1.2.2.2.2.2.1 b.1.2.2.2.2.2.2.1 b.2.1.1 b.2.1.2.1 b.2.1.2.2.1 b.2.1.2.2.2.1 b.2.1.2.2.2.2.1 b.2.1.2.2.2.2.2.1 b.2.1.2.2.2.2.2.2.1⟩,
  ⟨116, [false, false, true, false, true, true], { slots := [2, 3, 5], rows := [], flat := [], keep := 0 }, (Unit × (Unit × (Int × Unit))), ((ByteArray × ((List api_Port) × ((List api_Element) × ((List api_Node) × ((List api_Rule) × ((List api_Output) × ((List api_Attribute) × Unit))))))) × ((ByteArray × ((List api_Port) × ((List api_Element) × ((List api_Node) × ((List api_Rule) × ((List api_Output) × ((List api_Attribute) × Unit))))))) × Unit)), (RdL.cons (Rd.bp 0 0) (RdL.cons (Rd.bp 1 0) (RdL.cons (Rd.int .i64) RdL.nil))), (RdBL.cons (RdB.var 75 (RdL.cons Rd.str (RdL.cons (Rd.sl 206 false) (RdL.cons (Rd.sl 82 false) (RdL.cons (Rd.sl 208 false) (RdL.cons (Rd.sl 85 false) (RdL.cons (Rd.sl 190 false) (RdL.cons (Rd.sl 146 false) RdL.nil)))))))) (RdBL.cons (RdB.var 75 (RdL.cons Rd.str (RdL.cons (Rd.sl 206 false) (RdL.cons (Rd.sl 82 false) (RdL.cons (Rd.sl 208 false) (RdL.cons (Rd.sl 85 false) (RdL.cons (Rd.sl 190 false) (RdL.cons (Rd.sl 146 false) RdL.nil)))))))) RdBL.nil)), fun a b => .p116 a.2.2.1 b.1.1 b.1.2.1 b.1.2.2.1 b.1.2.2.2.1 b.1.2.2.2.2.1 b.1.2.2.2.2.2.1 b.1.2.2.2.2.2.2.1 b.2.1.1 b.2.1.2.1 b.2.1.2.2.1 b.2.1.2.2.2.1 b.2.1.2.2.2.2.1 b.2.1.2.2.2.2.2.1 b.2.1.2.2.2.2.2.2.1⟩,
  ⟨244, [false, false, true, false, true, true, true], { slots := [2, 3, 6], rows := [], flat := [], keep := 0 }, (Unit × (Unit × (Int × Unit))), ((ByteArray × ((List api_Port) × ((List api_Element) × ((List api_Node) × ((List api_Rule) × ((List api_Output) × ((List api_Attribute) × Unit))))))) × ((ByteArray × ((List api_Port) × ((List api_Element) × ((List api_Node) × ((List api_Rule) × ((List api_Output) × ((List api_Attribute) × Unit))))))) × Unit)), (RdL.cons (Rd.bp 0 0) (RdL.cons (Rd.bp 1 0) (RdL.cons (Rd.int .i64) RdL.nil))), (RdBL.cons (RdB.var 75 (RdL.cons Rd.str (RdL.cons (Rd.sl 206 false) (RdL.cons (Rd.sl 82 false) (RdL.cons (Rd.sl 208 false) (RdL.cons (Rd.sl 85 false) (RdL.cons (Rd.sl 190 false) (RdL.cons (Rd.sl 146 false) RdL.nil)))))))) (RdBL.cons (RdB.var 75 (RdL.cons Rd.str (RdL.cons (Rd.sl 206 false) (RdL.cons (Rd.sl 82 false) (RdL.cons (Rd.sl 208 false) (RdL.cons (Rd.sl 85 false) (RdL.cons (Rd.sl 190 false) (RdL.cons (Rd.sl 146 false) RdL.nil)))))))) RdBL.nil)), fun a b => .p244 a.2.2.1 b.1.1 b.1.2.1 b.1.2.2.1 b.1.2.2.2.1 b.1.2.2.2.2.1 b.1.2.2.2.2.2.1 b.1.2.2.2.2.2.2.1 b.2.1.1 b.2.1.2.1 b.2.1.2.2.1 b.2.1.2.2.2.1 b.2.1.2.2.2.2.1 b.2.1.2.2.2.2.2.1 b.2.1.2.2.2.2.2.2.1⟩,
  ⟨500, [false, false, true, false, true, true, true, true], { slots := [2, 3, 7], rows := [], flat := [], keep := 0 }, (Unit × (Unit × (Int × Unit))), ((ByteArray × ((List api_Port) × ((List api_Element) × ((List api_Node) × ((List api_Rule) × ((List api_Output) × ((List api_Attribute) × Unit))))))) × ((ByteArray × ((List api_Port) × ((List api_Element) × ((List api_Node) × ((List api_Rule) × ((List api_Output) × ((List api_Attribute) × Unit))))))) × Unit)), (RdL.cons (Rd.bp 0 0) (RdL.cons (Rd.bp 1 0) (RdL.cons (Rd.int .i64) RdL.nil))), (RdBL.cons (RdB.var 75 (RdL.cons Rd.str (RdL.cons (Rd.sl 206 false) (RdL.cons (Rd.sl 82 false) (RdL.cons (Rd.sl 208 false) (RdL.cons (Rd.sl 85 false) (RdL.cons (Rd.sl 190 false) (RdL.cons (Rd.sl 146 false) RdL.nil)))))))) (RdBL.cons (RdB.var 75 (RdL.cons Rd.str (RdL.cons (Rd.sl 206 false) (RdL.cons (Rd.sl 82 false) (RdL.cons (Rd.sl 208 false) (RdL.cons (Rd.sl 85 false) (RdL.cons (Rd.sl 190 false) (RdL.cons (Rd.sl 146 false) RdL.nil)))))))) RdBL.nil)), fun a b => .p500 a.2.2.1 b.1.1 b.1.2.1 b.1.2.2.1 b.1.2.2.2.1 b.1.2.2.2.2.1 b.1.2.2.2.2.2.1 b.1.2.2.2.2.2.2.1 b.2.1.1 b.2.1.2.1 b.2.1.2.2.1 b.2.1.2.2.2.1 b.2.1.2.2.2.2.1 b.2.1.2.2.2.2.2.1 b.2.1.2.2.2.2.2.2.1⟩]
theorem tab_ratchetbase_SameDesign_ok : All (PlcOk 169 0 place_ratchetbase_SameDesign st_ratchetbase_SameDesign) tab_ratchetbase_SameDesign := ⟨⟨rfl, rfl, fun _ _ => rfl, fun _ _ => rfl⟩, ⟨⟨rfl, rfl, fun _ _ => rfl, fun _ _ => rfl⟩, ⟨⟨rfl, rfl, fun _ _ => rfl, fun _ _ => rfl⟩, ⟨⟨rfl, rfl, fun _ _ => rfl, fun _ _ => rfl⟩, trivial⟩⟩⟩⟩
noncomputable def code_ratchetbase_SameDesign : Code := Tryz.f40.body.getD .skip
noncomputable def spec_ratchetbase_SameDesign : Spec E.S := (Con.add con_ratchetbase_Ints (Con.add con_ratchetbase_SameWrites (Con.add con_ratchetbase_SameOutputs (Con.add con_ratchetbase_SameNodes (Con.add con_ratchetbase_SamePorts noSpec)))))
theorem spec_ratchetbase_SameDesign_ok : SpecOk E spec_ratchetbase_SameDesign := (Con.add_ok con_ratchetbase_Ints_ok (Con.add_ok con_ratchetbase_SameWrites_ok (Con.add_ok con_ratchetbase_SameOutputs_ok (Con.add_ok con_ratchetbase_SameNodes_ok (Con.add_ok con_ratchetbase_SamePorts_ok noSpec_ok)))))
theorem good_ratchetbase_SameDesign : ∀ pt r, run_ratchetbase_SameDesign pt = some r → Good E Tryz.f40 code_ratchetbase_SameDesign 0 (res_ratchetbase_SameDesign.av r) (res_ratchetbase_SameDesign.bx r) (place_ratchetbase_SameDesign pt) (st_ratchetbase_SameDesign pt) := by
  refine run_ratchetbase_SameDesign.partial_correctness (fun pt r => Good E Tryz.f40 code_ratchetbase_SameDesign 0 (res_ratchetbase_SameDesign.av r) (res_ratchetbase_SameDesign.bx r) (place_ratchetbase_SameDesign pt) (st_ratchetbase_SameDesign pt)) ?_
  intro run' ih pt r hr
  cases pt <;> exact fn_step (spec := spec_ratchetbase_SameDesign) (wr := (mkWr [] [])) (l := tab_ratchetbase_SameDesign) (z := 169) (p := res_ratchetbase_SameDesign) E_ok tab_ratchetbase_SameDesign_ok.mem rfl spec_ratchetbase_SameDesign_ok ih (Eq.trans (by kernel_rfl) hr)
noncomputable def con_ratchetbase_SameDesign : Con E := ⟨40, ((ByteArray × ((List api_Port) × ((List api_Element) × ((List api_Node) × ((List api_Rule) × ((List api_Output) × ((List api_Attribute) × Unit))))))) × ((ByteArray × ((List api_Port) × ((List api_Element) × ((List api_Node) × ((List api_Rule) × ((List api_Output) × ((List api_Attribute) × Unit))))))) × Unit)), Unit, (RwL.cons (Rw.agg (RwL.cons Rd.str.w (RwL.cons (Rw.sl 206) (RwL.cons (Rw.sl 82) (RwL.cons (Rw.sl 208) (RwL.cons (Rw.sl 85) (RwL.cons (Rw.sl 190) (RwL.cons (Rw.sl 146) RwL.nil)))))))) (RwL.cons (Rw.agg (RwL.cons Rd.str.w (RwL.cons (Rw.sl 206) (RwL.cons (Rw.sl 82) (RwL.cons (Rw.sl 208) (RwL.cons (Rw.sl 85) (RwL.cons (Rw.sl 190) (RwL.cons (Rw.sl 146) RwL.nil)))))))) RwL.nil)), RdBL.nil, 0, R_ratchetbase_SameDesign, fun a b => run_ratchetbase_SameDesign (.start a.1.1 a.1.2.1 a.1.2.2.1 a.1.2.2.2.1 a.1.2.2.2.2.1 a.1.2.2.2.2.2.1 a.1.2.2.2.2.2.2.1 a.2.1.1 a.2.1.2.1 a.2.1.2.2.1 a.2.1.2.2.2.1 a.2.1.2.2.2.2.1 a.2.1.2.2.2.2.2.1 a.2.1.2.2.2.2.2.2.1), res_ratchetbase_SameDesign.av, res_ratchetbase_SameDesign.bx⟩
theorem con_ratchetbase_SameDesign_ok : con_ratchetbase_SameDesign.Ok := fun a b r h => fn_ok (fn := Tryz.f40) (code := code_ratchetbase_SameDesign) E_ok (by kernel_rfl) (by kernel_rfl) (by kernel_rfl) (Nat.le_of_ble_eq_true rfl) (good_ratchetbase_SameDesign (.start a.1.1 a.1.2.1 a.1.2.2.1 a.1.2.2.2.1 a.1.2.2.2.2.1 a.1.2.2.2.2.2.1 a.1.2.2.2.2.2.2.1 a.2.1.1 a.2.1.2.1 a.2.1.2.2.1 a.2.1.2.2.2.1 a.2.1.2.2.2.2.1 a.2.1.2.2.2.2.2.1 a.2.1.2.2.2.2.2.2.1) r h)

/-! ### ratchet/ratchetbase.IsName -/
inductive P_ratchetbase_IsName where
 | start (s0 : ByteArray)
 | p7 (s0 : ByteArray)
 | p116 (s0 : ByteArray) (i3 : Int)
 | p3731 (s0 : ByteArray) (i3 : Int) (c4 : Int) (letter5 : Bool)
noncomputable def place_ratchetbase_IsName : P_ratchetbase_IsName → List Bool
 | .start .. => []
 | .p7 .. => [true, true]
 | .p116 .. => [false, false, true, false, true, true]
 | .p3731 .. => [true, true, false, false, true, false, false, true, false, true, true]
noncomputable def st_ratchetbase_IsName : P_ratchetbase_IsName → St E.S
 | .start s0 => st0 55 [.v (.string s0)] []
 | .p7 s0 => mkSt 55 [0] [.v (.string s0)] []
 | .p116 s0 i3 => mkSt 55 [0, 3] [.v (.string s0), .v (.int .i64 i3)] []
 | .p3731 s0 i3 c4 letter5 => mkSt 55 [0, 3, 4, 5] [.v (.string s0), .v (.int .i64 i3), .v (.int .u8 c4), .v (.bool letter5)] []
abbrev R_ratchetbase_IsName : Type := ((Bool × Unit) × Unit)
noncomputable def res_ratchetbase_IsName : Res E (Bool × Unit) Unit := { rows := [], flat := [], keep := 0, done := [0], rl := (RdL.cons Rd.bool RdL.nil), rb := RdBL.nil }
noncomputable def run_ratchetbase_IsName : P_ratchetbase_IsName → Option R_ratchetbase_IsName
 | .start s0 =>
   if (decide ((s0.size : Int) < (1 : Int))) = true then
     some ((false, ()), ())
   else
     if (decide ((s0.size : Int) > (16 : Int))) = true then
       some ((false, ()), ())
     else
       run_ratchetbase_IsName (.p7 s0)
 | .p7 s0 =>
   run_ratchetbase_IsName (.p116 s0 (0 : Int))
 | .p116 s0 i3 =>
   if (decide (i3 < (s0.size : Int))) = true then
     (sidx s0 i3) >>= fun t1 =>
     if (decide (t1 ≥ (97 : Int))) = true then
       if (decide (t1 ≤ (122 : Int))) = true then
         run_ratchetbase_IsName (.p3731 s0 i3 t1 true)
       else
         if (decide (t1 ≥ (65 : Int))) = true then
           run_ratchetbase_IsName (.p3731 s0 i3 t1 (decide (t1 ≤ (90 : Int))))
         else
           run_ratchetbase_IsName (.p3731 s0 i3 t1 false)
     else
       if (decide (t1 ≥ (65 : Int))) = true then
         run_ratchetbase_IsName (.p3731 s0 i3 t1 (decide (t1 ≤ (90 : Int))))
       else
         run_ratchetbase_IsName (.p3731 s0 i3 t1 false)
   else
     some ((true, ()), ())
 | .p3731 s0 i3 c4 letter5 =>
   if (!letter5) = true then
     if (i3 == (0 : Int)) = true then
       some ((false, ()), ())
     else
       if (c4 != (95 : Int)) = true then
         if (decide (c4 < (48 : Int))) = true then
           some ((false, ()), ())
         else
           if (decide (c4 > (57 : Int))) = true then
             some ((false, ()), ())
           else
             run_ratchetbase_IsName (.p116 s0 (IntKind.wrap .i64 (i3 + (1 : Int))))
       else
         run_ratchetbase_IsName (.p116 s0 (IntKind.wrap .i64 (i3 + (1 : Int))))
   else
     run_ratchetbase_IsName (.p116 s0 (IntKind.wrap .i64 (i3 + (1 : Int))))
  partial_fixpoint
noncomputable def tab_ratchetbase_IsName : List (Plc E P_ratchetbase_IsName) := [⟨7, [true, true], { slots := [0], rows := [], flat := [], keep := 0 }, (ByteArray × Unit), Unit, (RdL.cons Rd.str RdL.nil), RdBL.nil, fun a b => .p7 a.1⟩,
  ⟨116, [false, false, true, false, true, true], { slots := [0, 3], rows := [], flat := [], keep := 0 }, (ByteArray × (Int × Unit)), Unit, (RdL.cons Rd.str (RdL.cons (Rd.int .i64) RdL.nil)), RdBL.nil, fun a b => .p116 a.1 a.2.1⟩,
  ⟨3731, [true, true, false, false, true, false, false, true, false, true, true], { slots := [0, 3, 4, 5], rows := [], flat := [], keep := 0 }, (ByteArray × (Int × (Int × (Bool × Unit)))), Unit, (RdL.cons Rd.str (RdL.cons (Rd.int .i64) (RdL.cons (Rd.int .u8) (RdL.cons Rd.bool RdL.nil)))), RdBL.nil, fun a b => .p3731 a.1 a.2.1 a.2.2.1 a.2.2.2.1⟩]
theorem tab_ratchetbase_IsName_ok : All (PlcOk 55 0 place_ratchetbase_IsName st_ratchetbase_IsName) tab_ratchetbase_IsName := ⟨⟨rfl, rfl, fun _ _ => rfl, fun _ _ => rfl⟩, ⟨⟨rfl, rfl, fun _ _ => rfl, fun _ _ => rfl⟩, ⟨⟨rfl, rfl, fun _ _ => rfl, fun _ _ => rfl⟩, trivial⟩⟩⟩
noncomputable def code_ratchetbase_IsName : Code := Tryz.f136.body.getD .skip
noncomputable def spec_ratchetbase_IsName : Spec E.S := noSpec
theorem spec_ratchetbase_IsName_ok : SpecOk E spec_ratchetbase_IsName := noSpec_ok
theorem good_ratchetbase_IsName : ∀ pt r, run_ratchetbase_IsName pt = some r → Good E Tryz.f136 code_ratchetbase_IsName 0 (res_ratchetbase_IsName.av r) (res_ratchetbase_IsName.bx r) (place_ratchetbase_IsName pt) (st_ratchetbase_IsName pt) := by
  refine run_ratchetbase_IsName.partial_correctness (fun pt r => Good E Tryz.f136 code_ratchetbase_IsName 0 (res_ratchetbase_IsName.av r) (res_ratchetbase_IsName.bx r) (place_ratchetbase_IsName pt) (st_ratchetbase_IsName pt)) ?_
  intro run' ih pt r hr
  cases pt <;> exact fn_step (spec := spec_ratchetbase_IsName) (wr := (mkWr [] [])) (l := tab_ratchetbase_IsName) (z := 55) (p := res_ratchetbase_IsName) E_ok tab_ratchetbase_IsName_ok.mem rfl spec_ratchetbase_IsName_ok ih (Eq.trans (by kernel_rfl) hr)
noncomputable def con_ratchetbase_IsName : Con E := ⟨136, (ByteArray × Unit), Unit, (RwL.cons Rd.str.w RwL.nil), RdBL.nil, 0, R_ratchetbase_IsName, fun a b => run_ratchetbase_IsName (.start a.1), res_ratchetbase_IsName.av, res_ratchetbase_IsName.bx⟩
theorem con_ratchetbase_IsName_ok : con_ratchetbase_IsName.Ok := fun a b r h => fn_ok (fn := Tryz.f136) (code := code_ratchetbase_IsName) E_ok (by kernel_rfl) (by kernel_rfl) (by kernel_rfl) (Nat.le_of_ble_eq_true rfl) (good_ratchetbase_IsName (.start a.1) r h)

/-! ### ratchet/ratchetbase.IsWidth -/
inductive P_ratchetbase_IsWidth where
 | start (n0 : Int)
noncomputable def place_ratchetbase_IsWidth : P_ratchetbase_IsWidth → List Bool
 | .start .. => []
noncomputable def st_ratchetbase_IsWidth : P_ratchetbase_IsWidth → St E.S
 | .start n0 => st0 5 [.v (.int .i64 n0)] []
abbrev R_ratchetbase_IsWidth : Type := ((Bool × Unit) × Unit)
noncomputable def res_ratchetbase_IsWidth : Res E (Bool × Unit) Unit := { rows := [], flat := [], keep := 0, done := [0], rl := (RdL.cons Rd.bool RdL.nil), rb := RdBL.nil }
noncomputable def run_ratchetbase_IsWidth : P_ratchetbase_IsWidth → Option R_ratchetbase_IsWidth
 | .start n0 =>
   (run_ratchetbase_Within (.start n0 (1 : Int) (16 : Int))) >>= fun t1 =>
   some ((t1.1.1, ()), ())
noncomputable def tab_ratchetbase_IsWidth : List (Plc E P_ratchetbase_IsWidth) := []
theorem tab_ratchetbase_IsWidth_ok : All (PlcOk 5 0 place_ratchetbase_IsWidth st_ratchetbase_IsWidth) tab_ratchetbase_IsWidth := trivial
noncomputable def code_ratchetbase_IsWidth : Code := Tryz.f172.body.getD .skip
noncomputable def spec_ratchetbase_IsWidth : Spec E.S := (Con.add con_ratchetbase_Within noSpec)
theorem spec_ratchetbase_IsWidth_ok : SpecOk E spec_ratchetbase_IsWidth := (Con.add_ok con_ratchetbase_Within_ok noSpec_ok)
theorem good_ratchetbase_IsWidth : ∀ pt r, run_ratchetbase_IsWidth pt = some r → Good E Tryz.f172 code_ratchetbase_IsWidth 0 (res_ratchetbase_IsWidth.av r) (res_ratchetbase_IsWidth.bx r) (place_ratchetbase_IsWidth pt) (st_ratchetbase_IsWidth pt) := by
  intro pt r hr
  cases pt <;> exact fn_step (spec := spec_ratchetbase_IsWidth) (wr := (mkWr [] [])) (l := tab_ratchetbase_IsWidth) (z := 5) (p := res_ratchetbase_IsWidth) (run' := fun _ => none) E_ok tab_ratchetbase_IsWidth_ok.mem rfl spec_ratchetbase_IsWidth_ok (fun _ _ h => by cases h) (Eq.trans (by kernel_rfl) hr)
noncomputable def con_ratchetbase_IsWidth : Con E := ⟨172, (Int × Unit), Unit, (RwL.cons (Rd.int .i64).w RwL.nil), RdBL.nil, 0, R_ratchetbase_IsWidth, fun a b => run_ratchetbase_IsWidth (.start a.1), res_ratchetbase_IsWidth.av, res_ratchetbase_IsWidth.bx⟩
theorem con_ratchetbase_IsWidth_ok : con_ratchetbase_IsWidth.Ok := fun a b r h => fn_ok (fn := Tryz.f172) (code := code_ratchetbase_IsWidth) E_ok (by kernel_rfl) (by kernel_rfl) (by kernel_rfl) (Nat.le_of_ble_eq_true rfl) (good_ratchetbase_IsWidth (.start a.1) r h)

/-! ### ratchet/ratchetbase.PortsErr -/
inductive P_ratchetbase_PortsErr where
 | start (l0 : (List api_Port))
 | p116 (l0 : (List api_Port)) (i4 : Int)
 | p29844 (l0 : (List api_Port)) (i4 : Int) (k5 : Int)
noncomputable def place_ratchetbase_PortsErr : P_ratchetbase_PortsErr → List Bool
 | .start .. => []
 | .p116 .. => [false, false, true, false, true, true]
 | .p29844 .. => [false, false, true, false, true, false, false, true, false, false, true, false, true, true]
noncomputable def st_ratchetbase_PortsErr : P_ratchetbase_PortsErr → St E.S
 | .start l0 => st0 48 [.sl 206 l0 false] []
 | .p116 l0 i4 => mkSt 48 [0, 4] [.sl 206 l0 false, .v (.int .i64 i4)] []
 | .p29844 l0 i4 k5 => mkSt 48 [0, 4, 5] [.sl 206 l0 false, .v (.int .i64 i4), .v (.int .i64 k5)] []
abbrev R_ratchetbase_PortsErr : Type := ((Int × (Int × Unit)) × Unit)
noncomputable def res_ratchetbase_PortsErr : Res E (Int × (Int × Unit)) Unit := { rows := [], flat := [], keep := 0, done := [0, 1], rl := (RdL.cons (Rd.int .i64) (RdL.cons (Rd.int .i64) RdL.nil)), rb := RdBL.nil }
noncomputable def run_ratchetbase_PortsErr : P_ratchetbase_PortsErr → Option R_ratchetbase_PortsErr
 | .start l0 =>
   if (decide ((List.length l0 : Int) > (12 : Int))) = true then
     some (((0 : Int), ((8 : Int), ())), ())
   else
     run_ratchetbase_PortsErr (.p116 l0 (0 : Int))
 | .p116 l0 i4 =>
   if (decide (i4 < (List.length l0 : Int))) = true then
     (idx l0 i4) >>= fun t1 =>
     (run_ratchetbase_IsName (.start t1.Name)) >>= fun t2 =>
     if (!t2.1.1) = true then
       some ((i4, ((4 : Int), ())), ())
     else
       run_ratchetbase_PortsErr (.p29844 l0 i4 (0 : Int))
   else
     some (((0 : Int), ((0 : Int), ())), ())
 | .p29844 l0 i4 k5 =>
   if (decide (k5 < i4)) = true then
     (idx l0 k5) >>= fun t1 =>
     (idx l0 i4) >>= fun t2 =>
     if (seq t1.Name t2.Name) = true then
       some ((i4, ((5 : Int), ())), ())
     else
       run_ratchetbase_PortsErr (.p29844 l0 i4 (IntKind.wrap .i64 (k5 + (1 : Int))))
   else
     (idx l0 i4) >>= fun t3 =>
     (run_ratchetbase_IsWidth (.start t3.Width)) >>= fun t4 =>
     if (!t4.1.1) = true then
       some ((i4, ((2 : Int), ())), ())
     else
       run_ratchetbase_PortsErr (.p116 l0 (IntKind.wrap .i64 (i4 + (1 : Int))))
  partial_fixpoint
noncomputable def tab_ratchetbase_PortsErr : List (Plc E P_ratchetbase_PortsErr) := [⟨116, [false, false, true, false, true, true], { slots := [0, 4], rows := [], flat := [], keep := 0 }, ((List api_Port) × (Int × Unit)), Unit, (RdL.cons (Rd.sl 206 false) (RdL.cons (Rd.int .i64) RdL.nil)), RdBL.nil, fun a b => .p116 a.1 a.2.1⟩,
  ⟨29844, [false, false, true, false, true, false, false, true, false, false, true, false, true, true], { slots := [0, 4, 5], rows := [], flat := [], keep := 0 }, ((List api_Port) × (Int × (Int × Unit))), Unit, (RdL.cons (Rd.sl 206 false) (RdL.cons (Rd.int .i64) (RdL.cons (Rd.int .i64) RdL.nil))), RdBL.nil, fun a b => .p29844 a.1 a.2.1 a.2.2.1⟩]
theorem tab_ratchetbase_PortsErr_ok : All (PlcOk 48 0 place_ratchetbase_PortsErr st_ratchetbase_PortsErr) tab_ratchetbase_PortsErr := ⟨⟨rfl, rfl, fun _ _ => rfl, fun _ _ => rfl⟩, ⟨⟨rfl, rfl, fun _ _ => rfl, fun _ _ => rfl⟩, trivial⟩⟩
noncomputable def code_ratchetbase_PortsErr : Code := Tryz.f137.body.getD .skip
noncomputable def spec_ratchetbase_PortsErr : Spec E.S := (Con.add con_ratchetbase_IsWidth (Con.add con_ratchetbase_IsName noSpec))
theorem spec_ratchetbase_PortsErr_ok : SpecOk E spec_ratchetbase_PortsErr := (Con.add_ok con_ratchetbase_IsWidth_ok (Con.add_ok con_ratchetbase_IsName_ok noSpec_ok))
theorem good_ratchetbase_PortsErr : ∀ pt r, run_ratchetbase_PortsErr pt = some r → Good E Tryz.f137 code_ratchetbase_PortsErr 0 (res_ratchetbase_PortsErr.av r) (res_ratchetbase_PortsErr.bx r) (place_ratchetbase_PortsErr pt) (st_ratchetbase_PortsErr pt) := by
  refine run_ratchetbase_PortsErr.partial_correctness (fun pt r => Good E Tryz.f137 code_ratchetbase_PortsErr 0 (res_ratchetbase_PortsErr.av r) (res_ratchetbase_PortsErr.bx r) (place_ratchetbase_PortsErr pt) (st_ratchetbase_PortsErr pt)) ?_
  intro run' ih pt r hr
  cases pt <;> exact fn_step (spec := spec_ratchetbase_PortsErr) (wr := (mkWr [] [])) (l := tab_ratchetbase_PortsErr) (z := 48) (p := res_ratchetbase_PortsErr) E_ok tab_ratchetbase_PortsErr_ok.mem rfl spec_ratchetbase_PortsErr_ok ih (Eq.trans (by kernel_rfl) hr)
noncomputable def con_ratchetbase_PortsErr : Con E := ⟨137, ((List api_Port) × Unit), Unit, (RwL.cons (Rw.sl 206) RwL.nil), RdBL.nil, 0, R_ratchetbase_PortsErr, fun a b => run_ratchetbase_PortsErr (.start a.1), res_ratchetbase_PortsErr.av, res_ratchetbase_PortsErr.bx⟩
theorem con_ratchetbase_PortsErr_ok : con_ratchetbase_PortsErr.Ok := fun a b r h => fn_ok (fn := Tryz.f137) (code := code_ratchetbase_PortsErr) E_ok (by kernel_rfl) (by kernel_rfl) (by kernel_rfl) (Nat.le_of_ble_eq_true rfl) (good_ratchetbase_PortsErr (.start a.1) r h)

/-! ### ratchet/ratchetbase.ElementsErr -/
inductive P_ratchetbase_ElementsErr where
 | start (inputs0 : (List api_Port)) (l1 : (List api_Element))
 | p116 (inputs0 : (List api_Port)) (l1 : (List api_Element)) (i6 : Int)
 | p29844 (inputs0 : (List api_Port)) (l1 : (List api_Element)) (i6 : Int) (k7 : Int)
 | p59700 (inputs0 : (List api_Port)) (l1 : (List api_Element)) (i6 : Int) (k8 : Int)
noncomputable def place_ratchetbase_ElementsErr : P_ratchetbase_ElementsErr → List Bool
 | .start .. => []
 | .p116 .. => [false, false, true, false, true, true]
 | .p29844 .. => [false, false, true, false, true, false, false, true, false, false, true, false, true, true]
 | .p59700 .. => [false, false, true, false, true, true, false, false, true, false, false, true, false, true, true]
noncomputable def st_ratchetbase_ElementsErr : P_ratchetbase_ElementsErr → St E.S
 | .start inputs0 l1 => st0 103 [.sl 206 inputs0 false, .sl 82 l1 false] []
 | .p116 inputs0 l1 i6 => mkSt 103 [0, 1, 6] [.sl 206 inputs0 false, .sl 82 l1 false, .v (.int .i64 i6)] []
 | .p29844 inputs0 l1 i6 k7 => mkSt 103 [0, 1, 6, 7] [.sl 206 inputs0 false, .sl 82 l1 false, .v (.int .i64 i6), .v (.int .i64 k7)] []
 | .p59700 inputs0 l1 i6 k8 => mkSt 103 [0, 1, 6, 8] [.sl 206 inputs0 false, .sl 82 l1 false, .v (.int .i64 i6), .v (.int .i64 k8)] []
abbrev R_ratchetbase_ElementsErr : Type := ((Int × (Int × Unit)) × Unit)
noncomputable def res_ratchetbase_ElementsErr : Res E (Int × (Int × Unit)) Unit := { rows := [], flat := [], keep := 0, done := [0, 1], rl := (RdL.cons (Rd.int .i64) (RdL.cons (Rd.int .i64) RdL.nil)), rb := RdBL.nil }
noncomputable def run_ratchetbase_ElementsErr : P_ratchetbase_ElementsErr → Option R_ratchetbase_ElementsErr
 | .start inputs0 l1 =>
   if (decide ((IntKind.wrap .i64 ((List.length inputs0 : Int) + (List.length l1 : Int))) > (40 : Int))) = true then
     some (((0 : Int), ((8 : Int), ())), ())
   else
     run_ratchetbase_ElementsErr (.p116 inputs0 l1 (0 : Int))
 | .p116 inputs0 l1 i6 =>
   if (decide (i6 < (List.length l1 : Int))) = true then
     (idx l1 i6) >>= fun t1 =>
     (run_ratchetbase_IsName (.start t1.Name)) >>= fun t2 =>
     if (!t2.1.1) = true then
       some ((i6, ((4 : Int), ())), ())
     else
       run_ratchetbase_ElementsErr (.p29844 inputs0 l1 i6 (0 : Int))
   else
     some (((0 : Int), ((0 : Int), ())), ())
 | .p29844 inputs0 l1 i6 k7 =>
   if (decide (k7 < i6)) = true then
     (idx l1 k7) >>= fun t1 =>
     (idx l1 i6) >>= fun t2 =>
     if (seq t1.Name t2.Name) = true then
       some ((i6, ((5 : Int), ())), ())
     else
       run_ratchetbase_ElementsErr (.p29844 inputs0 l1 i6 (IntKind.wrap .i64 (k7 + (1 : Int))))
   else
     run_ratchetbase_ElementsErr (.p59700 inputs0 l1 i6 (0 : Int))
 | .p59700 inputs0 l1 i6 k8 =>
   if (decide (k8 < (List.length inputs0 : Int))) = true then
     (idx inputs0 k8) >>= fun t1 =>
     (idx l1 i6) >>= fun t2 =>
     if (seq t1.Name t2.Name) = true then
       some ((i6, ((5 : Int), ())), ())
     else
       run_ratchetbase_ElementsErr (.p59700 inputs0 l1 i6 (IntKind.wrap .i64 (k8 + (1 : Int))))
   else
     (idx l1 i6) >>= fun t3 =>
     (run_ratchetbase_Within (.start t3.Kind (0 : Int) (1 : Int))) >>= fun t4 =>
     if (!t4.1.1) = true then
       some ((i6, ((15 : Int), ())), ())
     else
       (idx l1 i6) >>= fun t5 =>
       (run_ratchetbase_IsWidth (.start t5.Width)) >>= fun t6 =>
       if (!t6.1.1) = true then
         some ((i6, ((2 : Int), ())), ())
       else
         (idx l1 i6) >>= fun t7 =>
         (idx l1 i6) >>= fun t8 =>
         (run_ratchetbase_Fits (.start t7.Init t8.Width)) >>= fun t9 =>
         if (!t9.1.1) = true then
           some ((i6, ((2 : Int), ())), ())
         else
           (idx l1 i6) >>= fun t10 =>
           (run_ratchetbase_Within (.start t10.Clock (0 : Int) (3 : Int))) >>= fun t11 =>
           if (!t11.1.1) = true then
             some ((i6, ((2 : Int), ())), ())
           else
             run_ratchetbase_ElementsErr (.p116 inputs0 l1 (IntKind.wrap .i64 (i6 + (1 : Int))))
  partial_fixpoint
noncomputable def tab_ratchetbase_ElementsErr : List (Plc E P_ratchetbase_ElementsErr) := [⟨116, [false, false, true, false, true, true], { slots := [0, 1, 6], rows := [], flat := [], keep := 0 }, ((List api_Port) × ((List api_Element) × (Int × Unit))), Unit, (RdL.cons (Rd.sl 206 false) (RdL.cons (Rd.sl 82 false) (RdL.cons (Rd.int .i64) RdL.nil))), RdBL.nil, fun a b => .p116 a.1 a.2.1 a.2.2.1⟩,
  ⟨29844, [false, false, true, false, true, false, false, true, false, false, true, false, true, true], { slots := [0, 1, 6, 7], rows := [], flat := [], keep := 0 }, ((List api_Port) × ((List api_Element) × (Int × (Int × Unit)))), Unit, (RdL.cons (Rd.sl 206 false) (RdL.cons (Rd.sl 82 false) (RdL.cons (Rd.int .i64) (RdL.cons (Rd.int .i64) RdL.nil)))), RdBL.nil, fun a b => .p29844 a.1 a.2.1 a.2.2.1 a.2.2.2.1⟩,
  ⟨59700, [false, false, true, false, true, true, false, false, true, false, false, true, false, true, true], { slots := [0, 1, 6, 8], rows := [], flat := [], keep := 0 }, ((List api_Port) × ((List api_Element) × (Int × (Int × Unit)))), Unit, (RdL.cons (Rd.sl 206 false) (RdL.cons (Rd.sl 82 false) (RdL.cons (Rd.int .i64) (RdL.cons (Rd.int .i64) RdL.nil)))), RdBL.nil, fun a b => .p59700 a.1 a.2.1 a.2.2.1 a.2.2.2.1⟩]
theorem tab_ratchetbase_ElementsErr_ok : All (PlcOk 103 0 place_ratchetbase_ElementsErr st_ratchetbase_ElementsErr) tab_ratchetbase_ElementsErr := ⟨⟨rfl, rfl, fun _ _ => rfl, fun _ _ => rfl⟩, ⟨⟨rfl, rfl, fun _ _ => rfl, fun _ _ => rfl⟩, ⟨⟨rfl, rfl, fun _ _ => rfl, fun _ _ => rfl⟩, trivial⟩⟩⟩
noncomputable def code_ratchetbase_ElementsErr : Code := Tryz.f138.body.getD .skip
noncomputable def spec_ratchetbase_ElementsErr : Spec E.S := (Con.add con_ratchetbase_Fits (Con.add con_ratchetbase_IsWidth (Con.add con_ratchetbase_Within (Con.add con_ratchetbase_IsName noSpec))))
theorem spec_ratchetbase_ElementsErr_ok : SpecOk E spec_ratchetbase_ElementsErr := (Con.add_ok con_ratchetbase_Fits_ok (Con.add_ok con_ratchetbase_IsWidth_ok (Con.add_ok con_ratchetbase_Within_ok (Con.add_ok con_ratchetbase_IsName_ok noSpec_ok))))
theorem good_ratchetbase_ElementsErr : ∀ pt r, run_ratchetbase_ElementsErr pt = some r → Good E Tryz.f138 code_ratchetbase_ElementsErr 0 (res_ratchetbase_ElementsErr.av r) (res_ratchetbase_ElementsErr.bx r) (place_ratchetbase_ElementsErr pt) (st_ratchetbase_ElementsErr pt) := by
  refine run_ratchetbase_ElementsErr.partial_correctness (fun pt r => Good E Tryz.f138 code_ratchetbase_ElementsErr 0 (res_ratchetbase_ElementsErr.av r) (res_ratchetbase_ElementsErr.bx r) (place_ratchetbase_ElementsErr pt) (st_ratchetbase_ElementsErr pt)) ?_
  intro run' ih pt r hr
  cases pt <;> exact fn_step (spec := spec_ratchetbase_ElementsErr) (wr := (mkWr [] [])) (l := tab_ratchetbase_ElementsErr) (z := 103) (p := res_ratchetbase_ElementsErr) E_ok tab_ratchetbase_ElementsErr_ok.mem rfl spec_ratchetbase_ElementsErr_ok ih (Eq.trans (by kernel_rfl) hr)
noncomputable def con_ratchetbase_ElementsErr : Con E := ⟨138, ((List api_Port) × ((List api_Element) × Unit)), Unit, (RwL.cons (Rw.sl 206) (RwL.cons (Rw.sl 82) RwL.nil)), RdBL.nil, 0, R_ratchetbase_ElementsErr, fun a b => run_ratchetbase_ElementsErr (.start a.1 a.2.1), res_ratchetbase_ElementsErr.av, res_ratchetbase_ElementsErr.bx⟩
theorem con_ratchetbase_ElementsErr_ok : con_ratchetbase_ElementsErr.Ok := fun a b r h => fn_ok (fn := Tryz.f138) (code := code_ratchetbase_ElementsErr) E_ok (by kernel_rfl) (by kernel_rfl) (by kernel_rfl) (Nat.le_of_ble_eq_true rfl) (good_ratchetbase_ElementsErr (.start a.1 a.2.1) r h)

/-! ### ratchet/ratchetbase.Leaves -/
inductive P_ratchetbase_Leaves where
 | start (d0_0 : ByteArray) (d0_1 : (List api_Port)) (d0_2 : (List api_Element)) (d0_3 : (List api_Node)) (d0_4 : (List api_Rule)) (d0_5 : (List api_Output)) (d0_6 : (List api_Attribute))
 | p116 (i4 : Int) (B0_0 : ByteArray) (B0_1 : (List api_Port)) (B0_2 : (List api_Element)) (B0_3 : (List api_Node)) (B0_4 : (List api_Rule)) (B0_5 : (List api_Output)) (B0_6 : (List api_Attribute)) (B1 : (List Int))
 | p244 (i5 : Int) (B0_0 : ByteArray) (B0_1 : (List api_Port)) (B0_2 : (List api_Element)) (B0_3 : (List api_Node)) (B0_4 : (List api_Rule)) (B0_5 : (List api_Output)) (B0_6 : (List api_Attribute)) (B1 : (List Int))
noncomputable def place_ratchetbase_Leaves : P_ratchetbase_Leaves → List Bool
 | .start .. => []
 | .p116 .. => [false, false, true, false, true, true]
 | .p244 .. => [false, false, true, false, true, true, true]
noncomputable def st_ratchetbase_Leaves : P_ratchetbase_Leaves → St E.S
 | .start d0_0 d0_1 d0_2 d0_3 d0_4 d0_5 d0_6 => st0 39 [.agg [.v (.string d0_0), .sl 206 d0_1 false, .sl 82 d0_2 false, .sl 208 d0_3 false, .sl 85 d0_4 false, .sl 190 d0_5 false, .sl 146 d0_6 false]] []
 | .p116 i4 B0_0 B0_1 B0_2 B0_3 B0_4 B0_5 B0_6 B1 => mkSt 39 [1, 3, 4] [.bp 0 0, .rw 1, .v (.int .i64 i4)] [.var 75 [.v (.string B0_0), .sl 206 B0_1 false, .sl 82 B0_2 false, .sl 208 B0_3 false, .sl 85 B0_4 false, .sl 190 B0_5 false, .sl 146 B0_6 false], .row 3 B1 false]
 | .p244 i5 B0_0 B0_1 B0_2 B0_3 B0_4 B0_5 B0_6 B1 => mkSt 39 [1, 3, 5] [.bp 0 0, .rw 1, .v (.int .i64 i5)] [.var 75 [.v (.string B0_0), .sl 206 B0_1 false, .sl 82 B0_2 false, .sl 208 B0_3 false, .sl 85 B0_4 false, .sl 190 B0_5 false, .sl 146 B0_6 false], .row 3 B1 false]
abbrev R_ratchetbase_Leaves : Type := ((Unit × Unit) × ((List Int) × Unit))
noncomputable def res_ratchetbase_Leaves : Res E (Unit × Unit) ((List Int) × Unit) := { rows := [], flat := [], keep := 0, done := [0], rl := (RdL.cons (Rd.rw 0) RdL.nil), rb := (RdBL.cons (RdB.row 3 true) RdBL.nil) }
noncomputable def run_ratchetbase_Leaves : P_ratchetbase_Leaves → Option R_ratchetbase_Leaves
 | .start d0_0 d0_1 d0_2 d0_3 d0_4 d0_5 d0_6 =>
   run_ratchetbase_Leaves (.p116 (0 : Int) d0_0 d0_1 d0_2 d0_3 d0_4 d0_5 d0_6 ([] : List Int))
 | .p116 i4 B0_0 B0_1 B0_2 B0_3 B0_4 B0_5 B0_6 B1 =>
   if (decide (i4 < (List.length B0_1 : Int))) = true then
     (idx B0_1 i4) >>= fun t1 =>
     if (fits (List.length B1) (List.length ([t1.Width] : List Int)) 8) = true then
       run_ratchetbase_Leaves (.p116 (IntKind.wrap .i64 (i4 + (1 : Int))) B0_0 B0_1 B0_2 B0_3 B0_4 B0_5 B0_6 (B1 ++ ([t1.Width] : List Int)))
     else none
   else
     run_ratchetbase_Leaves (.p244 (0 : Int) B0_0 B0_1 B0_2 B0_3 B0_4 B0_5 B0_6 B1)
 | .p244 i5 B0_0 B0_1 B0_2 B0_3 B0_4 B0_5 B0_6 B1 =>
   if (decide (i5 < (List.length B0_2 : Int))) = true then
     (idx B0_2 i5) >>= fun t1 =>
     if (fits (List.length B1) (List.length ([t1.Width] : List Int)) 8) = true then
       run_ratchetbase_Leaves (.p244 (IntKind.wrap .i64 (i5 + (1 : Int))) B0_0 B0_1 B0_2 B0_3 B0_4 B0_5 B0_6 (B1 ++ ([t1.Width] : List Int)))
     else none
   else
     some (((), ()), (B1, ()))
  partial_fixpoint
noncomputable def tab_ratchetbase_Leaves : List (Plc E P_ratchetbase_Leaves) := [⟨116, [false, false, true, false, true, true], { slots := [1, 3, 4], rows := [(3, 3)], flat := [], keep := 0 }, (Unit × (Unit × (Int × Unit))), ((ByteArray × ((List api_Port) × ((List api_Element) × ((List api_Node) × ((List api_Rule) × ((List api_Output) × ((List api_Attribute) × Unit))))))) × ((List Int) × Unit)), (RdL.cons (Rd.bp 0 0) (RdL.cons (Rd.rw 1) (RdL.cons (Rd.int .i64) RdL.nil))), (RdBL.cons (RdB.var 75 (RdL.cons Rd.str (RdL.cons (Rd.sl 206 false) (RdL.cons (Rd.sl 82 false) (RdL.cons (Rd.sl 208 false) (RdL.cons (Rd.sl 85 false) (RdL.cons (Rd.sl 190 false) (RdL.cons (Rd.sl 146 false) RdL.nil)))))))) (RdBL.cons (RdB.row 3 false) RdBL.nil)), fun a b => .p116 a.2.2.1 b.1.1 b.1.2.1 b.1.2.2.1 b.1.2.2.2.1 b.1.2.2.2.2.1 b.1.2.2.2.2.2.1 b.1.2.2.2.2.2.2.1 b.2.1⟩,
  ⟨244, [false, false, true, false, true, true, true], { slots := [1, 3, 5], rows := [], flat := [], keep := 0 }, (Unit × (Unit × (Int × Unit))), ((ByteArray × ((List api_Port) × ((List api_Element) × ((List api_Node) × ((List api_Rule) × ((List api_Output) × ((List api_Attribute) × Unit))))))) × ((List Int) × Unit)), (RdL.cons (Rd.bp 0 0) (RdL.cons (Rd.rw 1) (RdL.cons (Rd.int .i64) RdL.nil))), (RdBL.cons (RdB.var 75 (RdL.cons Rd.str (RdL.cons (Rd.sl 206 false) (RdL.cons (Rd.sl 82 false) (RdL.cons (Rd.sl 208 false) (RdL.cons (Rd.sl 85 false) (RdL.cons (Rd.sl 190 false) (RdL.cons (Rd.sl 146 false) RdL.nil)))))))) (RdBL.cons (RdB.row 3 false) RdBL.nil)), fun a b => .p244 a.2.2.1 b.1.1 b.1.2.1 b.1.2.2.1 b.1.2.2.2.1 b.1.2.2.2.2.1 b.1.2.2.2.2.2.1 b.1.2.2.2.2.2.2.1 b.2.1⟩]
theorem tab_ratchetbase_Leaves_ok : All (PlcOk 39 0 place_ratchetbase_Leaves st_ratchetbase_Leaves) tab_ratchetbase_Leaves := ⟨⟨rfl, rfl, fun _ _ => rfl, fun _ _ => rfl⟩, ⟨⟨rfl, rfl, fun _ _ => rfl, fun _ _ => rfl⟩, trivial⟩⟩
noncomputable def code_ratchetbase_Leaves : Code := Tryz.f140.body.getD .skip
noncomputable def spec_ratchetbase_Leaves : Spec E.S := noSpec
theorem spec_ratchetbase_Leaves_ok : SpecOk E spec_ratchetbase_Leaves := noSpec_ok
theorem good_ratchetbase_Leaves : ∀ pt r, run_ratchetbase_Leaves pt = some r → Good E Tryz.f140 code_ratchetbase_Leaves 0 (res_ratchetbase_Leaves.av r) (res_ratchetbase_Leaves.bx r) (place_ratchetbase_Leaves pt) (st_ratchetbase_Leaves pt) := by
  refine run_ratchetbase_Leaves.partial_correctness (fun pt r => Good E Tryz.f140 code_ratchetbase_Leaves 0 (res_ratchetbase_Leaves.av r) (res_ratchetbase_Leaves.bx r) (place_ratchetbase_Leaves pt) (st_ratchetbase_Leaves pt)) ?_
  intro run' ih pt r hr
  cases pt <;> exact fn_step (spec := spec_ratchetbase_Leaves) (wr := (mkWr [] [])) (l := tab_ratchetbase_Leaves) (z := 39) (p := res_ratchetbase_Leaves) E_ok tab_ratchetbase_Leaves_ok.mem rfl spec_ratchetbase_Leaves_ok ih (Eq.trans (by kernel_rfl) hr)
noncomputable def con_ratchetbase_Leaves : Con E := ⟨140, ((ByteArray × ((List api_Port) × ((List api_Element) × ((List api_Node) × ((List api_Rule) × ((List api_Output) × ((List api_Attribute) × Unit))))))) × Unit), Unit, (RwL.cons (Rw.agg (RwL.cons Rd.str.w (RwL.cons (Rw.sl 206) (RwL.cons (Rw.sl 82) (RwL.cons (Rw.sl 208) (RwL.cons (Rw.sl 85) (RwL.cons (Rw.sl 190) (RwL.cons (Rw.sl 146) RwL.nil)))))))) RwL.nil), RdBL.nil, 0, R_ratchetbase_Leaves, fun a b => run_ratchetbase_Leaves (.start a.1.1 a.1.2.1 a.1.2.2.1 a.1.2.2.2.1 a.1.2.2.2.2.1 a.1.2.2.2.2.2.1 a.1.2.2.2.2.2.2.1), res_ratchetbase_Leaves.av, res_ratchetbase_Leaves.bx⟩
theorem con_ratchetbase_Leaves_ok : con_ratchetbase_Leaves.Ok := fun a b r h => fn_ok (fn := Tryz.f140) (code := code_ratchetbase_Leaves) E_ok (by kernel_rfl) (by kernel_rfl) (by kernel_rfl) (Nat.le_of_ble_eq_true rfl) (good_ratchetbase_Leaves (.start a.1.1 a.1.2.1 a.1.2.2.1 a.1.2.2.2.1 a.1.2.2.2.2.1 a.1.2.2.2.2.2.1 a.1.2.2.2.2.2.2.1) r h)

/-! ### ratchet/ratchetbase.ArgCount -/
inductive P_ratchetbase_ArgCount where
 | start (op0 : Int)
 | p53 (s3 : Int) (s4 : Bool)
 | p215 (s3 : Int) (s7 : Bool)
noncomputable def place_ratchetbase_ArgCount : P_ratchetbase_ArgCount → List Bool
 | .start .. => []
 | .p53 .. => [true, false, true, false, true]
 | .p215 .. => [true, true, true, false, true, false, true]
noncomputable def st_ratchetbase_ArgCount : P_ratchetbase_ArgCount → St E.S
 | .start op0 => st0 14 [.v (.int .i64 op0)] []
 | .p53 s3 s4 => mkSt 14 [3, 4] [.v (.int .i64 s3), .v (.bool s4)] []
 | .p215 s3 s7 => mkSt 14 [3, 7] [.v (.int .i64 s3), .v (.bool s7)] []
abbrev R_ratchetbase_ArgCount : Type := ((Int × Unit) × Unit)
noncomputable def res_ratchetbase_ArgCount : Res E (Int × Unit) Unit := { rows := [], flat := [], keep := 0, done := [0], rl := (RdL.cons (Rd.int .i64) RdL.nil), rb := RdBL.nil }
noncomputable def run_ratchetbase_ArgCount : P_ratchetbase_ArgCount → Option R_ratchetbase_ArgCount
 | .start op0 =>
   if (op0 == (0 : Int)) = true then
     run_ratchetbase_ArgCount (.p53 op0 (op0 == (0 : Int)))
   else
     run_ratchetbase_ArgCount (.p53 op0 (op0 == (1 : Int)))
 | .p53 s3 s4 =>
   if s4 = true then
     some (((0 : Int), ()), ())
   else
     if (s3 == (2 : Int)) = true then
       run_ratchetbase_ArgCount (.p215 s3 (s3 == (2 : Int)))
     else
       if (s3 == (14 : Int)) = true then
         run_ratchetbase_ArgCount (.p215 s3 (s3 == (14 : Int)))
       else
         if (s3 == (15 : Int)) = true then
           run_ratchetbase_ArgCount (.p215 s3 (s3 == (15 : Int)))
         else
           run_ratchetbase_ArgCount (.p215 s3 (s3 == (16 : Int)))
 | .p215 s3 s7 =>
   if s7 = true then
     some (((1 : Int), ()), ())
   else
     if (s3 == (12 : Int)) = true then
       some (((3 : Int), ()), ())
     else
       some (((2 : Int), ()), ())
  partial_fixpoint
noncomputable def tab_ratchetbase_ArgCount : List (Plc E P_ratchetbase_ArgCount) := [⟨53, [true, false, true, false, true], { slots := [3, 4], rows := [], flat := [], keep := 0 }, (Int × (Bool × Unit)), Unit, (RdL.cons (Rd.int .i64) (RdL.cons Rd.bool RdL.nil)), RdBL.nil, fun a b => .p53 a.1 a.2.1⟩,
  ⟨215, [true, true, true, false, true, false, true], { slots := [3, 7], rows := [], flat := [], keep := 0 }, (Int × (Bool × Unit)), Unit, (RdL.cons (Rd.int .i64) (RdL.cons Rd.bool RdL.nil)), RdBL.nil, fun a b => .p215 a.1 a.2.1⟩]
theorem tab_ratchetbase_ArgCount_ok : All (PlcOk 14 0 place_ratchetbase_ArgCount st_ratchetbase_ArgCount) tab_ratchetbase_ArgCount := ⟨⟨rfl, rfl, fun _ _ => rfl, fun _ _ => rfl⟩, ⟨⟨rfl, rfl, fun _ _ => rfl, fun _ _ => rfl⟩, trivial⟩⟩
noncomputable def code_ratchetbase_ArgCount : Code := Tryz.f192.body.getD .skip
noncomputable def spec_ratchetbase_ArgCount : Spec E.S := noSpec
theorem spec_ratchetbase_ArgCount_ok : SpecOk E spec_ratchetbase_ArgCount := noSpec_ok
theorem good_ratchetbase_ArgCount : ∀ pt r, run_ratchetbase_ArgCount pt = some r → Good E Tryz.f192 code_ratchetbase_ArgCount 0 (res_ratchetbase_ArgCount.av r) (res_ratchetbase_ArgCount.bx r) (place_ratchetbase_ArgCount pt) (st_ratchetbase_ArgCount pt) := by
  refine run_ratchetbase_ArgCount.partial_correctness (fun pt r => Good E Tryz.f192 code_ratchetbase_ArgCount 0 (res_ratchetbase_ArgCount.av r) (res_ratchetbase_ArgCount.bx r) (place_ratchetbase_ArgCount pt) (st_ratchetbase_ArgCount pt)) ?_
  intro run' ih pt r hr
  cases pt <;> exact fn_step (spec := spec_ratchetbase_ArgCount) (wr := (mkWr [] [])) (l := tab_ratchetbase_ArgCount) (z := 14) (p := res_ratchetbase_ArgCount) E_ok tab_ratchetbase_ArgCount_ok.mem rfl spec_ratchetbase_ArgCount_ok ih (Eq.trans (by kernel_rfl) hr)
noncomputable def con_ratchetbase_ArgCount : Con E := ⟨192, (Int × Unit), Unit, (RwL.cons (Rd.int .i64).w RwL.nil), RdBL.nil, 0, R_ratchetbase_ArgCount, fun a b => run_ratchetbase_ArgCount (.start a.1), res_ratchetbase_ArgCount.av, res_ratchetbase_ArgCount.bx⟩
theorem con_ratchetbase_ArgCount_ok : con_ratchetbase_ArgCount.Ok := fun a b r h => fn_ok (fn := Tryz.f192) (code := code_ratchetbase_ArgCount) E_ok (by kernel_rfl) (by kernel_rfl) (by kernel_rfl) (Nat.le_of_ble_eq_true rfl) (good_ratchetbase_ArgCount (.start a.1) r h)

/-! ### ratchet/ratchetbase.widthsFit -/
inductive P_ratchetbase_widthsFit where
 | start (nodes0 : (List api_Node)) (x1_0 : Int) (x1_1 : Int) (x1_2 : (List Int)) (x1_3 : Int)
 | p116 (nodes0 : (List api_Node)) (k6 : Int) (B0_0 : Int) (B0_1 : Int) (B0_2 : (List Int)) (B0_3 : Int) (B1 : (List Int))
 | p983 (s27 : Int) (s36 : Bool) (B0_0 : Int) (B0_1 : Int) (B0_2 : (List Int)) (B0_3 : Int) (B1 : (List Int))
 | p3935 (s27 : Int) (s57 : Bool) (B0_0 : Int) (B0_1 : Int) (B0_2 : (List Int)) (B0_3 : Int) (B1 : (List Int))
 | p1007615 (s118 : Bool) (B0_0 : Int) (B0_1 : Int) (B0_2 : (List Int)) (B0_3 : Int) (B1 : (List Int))
noncomputable def place_ratchetbase_widthsFit : P_ratchetbase_widthsFit → List Bool
 | .start .. => []
 | .p116 .. => [false, false, true, false, true, true]
 | .p983 .. => [true, true, true, false, true, false, true, true, true]
 | .p3935 .. => [true, true, true, true, true, false, true, false, true, true, true]
 | .p1007615 .. => [true, true, true, true, true, true, true, true, true, true, true, true, true, false, true, false, true, true, true]
noncomputable def st_ratchetbase_widthsFit : P_ratchetbase_widthsFit → St E.S
 | .start nodes0 x1_0 x1_1 x1_2 x1_3 => st0 133 [.sl 208 nodes0 false, .agg [.v (.int .i64 x1_0), .v (.int .i64 x1_1), .sl 3 x1_2 false, .v (.int .i64 x1_3)]] []
 | .p116 nodes0 k6 B0_0 B0_1 B0_2 B0_3 B1 => mkSt 133 [0, 3, 5, 6] [.sl 208 nodes0 false, .bp 0 0, .rw 1, .v (.int .i64 k6)] [.var 208 [.v (.int .i64 B0_0), .v (.int .i64 B0_1), .sl 3 B0_2 false, .v (.int .i64 B0_3)], .row 3 B1 false]
 | .p983 s27 s36 B0_0 B0_1 B0_2 B0_3 B1 => mkSt 133 [3, 5, 27, 36] [.bp 0 0, .rw 1, .v (.int .i64 s27), .v (.bool s36)] [.var 208 [.v (.int .i64 B0_0), .v (.int .i64 B0_1), .sl 3 B0_2 false, .v (.int .i64 B0_3)], .row 3 B1 false]
 | .p3935 s27 s57 B0_0 B0_1 B0_2 B0_3 B1 => mkSt 133 [3, 5, 27, 57] [.bp 0 0, .rw 1, .v (.int .i64 s27), .v (.bool s57)] [.var 208 [.v (.int .i64 B0_0), .v (.int .i64 B0_1), .sl 3 B0_2 false, .v (.int .i64 B0_3)], .row 3 B1 false]
 | .p1007615 s118 B0_0 B0_1 B0_2 B0_3 B1 => mkSt 133 [3, 5, 118] [.bp 0 0, .rw 1, .v (.bool s118)] [.var 208 [.v (.int .i64 B0_0), .v (.int .i64 B0_1), .sl 3 B0_2 false, .v (.int .i64 B0_3)], .row 3 B1 false]
abbrev R_ratchetbase_widthsFit : Type := ((Bool × Unit) × Unit)
noncomputable def res_ratchetbase_widthsFit : Res E (Bool × Unit) Unit := { rows := [], flat := [], keep := 0, done := [0], rl := (RdL.cons Rd.bool RdL.nil), rb := RdBL.nil }
noncomputable def run_ratchetbase_widthsFit : P_ratchetbase_widthsFit → Option R_ratchetbase_widthsFit
 | .start nodes0 x1_0 x1_1 x1_2 x1_3 =>
   run_ratchetbase_widthsFit (.p116 nodes0 (0 : Int) x1_0 x1_1 x1_2 x1_3 ([] : List Int))
 | .p116 nodes0 k6 B0_0 B0_1 B0_2 B0_3 B1 =>
   if (decide (k6 < (List.length B0_2 : Int))) = true then
     (idx B0_2 k6) >>= fun t1 =>
     (idx nodes0 t1) >>= fun t2 =>
     if (fits (List.length B1) (List.length ([t2.Width] : List Int)) 8) = true then
       run_ratchetbase_widthsFit (.p116 nodes0 (IntKind.wrap .i64 (k6 + (1 : Int))) B0_0 B0_1 B0_2 B0_3 (B1 ++ ([t2.Width] : List Int)))
     else none
   else
     if (B0_0 == (2 : Int)) = true then
       if (decide ((0 : Int) ≤ (0 : Int)) && decide ((0 : Int) < (List.length B1 : Int))) = true then
         (idx B1 (0 : Int)) >>= fun t3 =>
         some ((t3 == B0_1, ()), ())
       else none
     else
       if (B0_0 == (3 : Int)) = true then
         run_ratchetbase_widthsFit (.p983 B0_0 (B0_0 == (3 : Int)) B0_0 B0_1 B0_2 B0_3 B1)
       else
         if (B0_0 == (4 : Int)) = true then
           run_ratchetbase_widthsFit (.p983 B0_0 (B0_0 == (4 : Int)) B0_0 B0_1 B0_2 B0_3 B1)
         else
           if (B0_0 == (5 : Int)) = true then
             run_ratchetbase_widthsFit (.p983 B0_0 (B0_0 == (5 : Int)) B0_0 B0_1 B0_2 B0_3 B1)
           else
             if (B0_0 == (6 : Int)) = true then
               run_ratchetbase_widthsFit (.p983 B0_0 (B0_0 == (6 : Int)) B0_0 B0_1 B0_2 B0_3 B1)
             else
               if (B0_0 == (7 : Int)) = true then
                 run_ratchetbase_widthsFit (.p983 B0_0 (B0_0 == (7 : Int)) B0_0 B0_1 B0_2 B0_3 B1)
               else
                 run_ratchetbase_widthsFit (.p983 B0_0 (B0_0 == (8 : Int)) B0_0 B0_1 B0_2 B0_3 B1)
 | .p983 s27 s36 B0_0 B0_1 B0_2 B0_3 B1 =>
   if s36 = true then
     if (decide ((0 : Int) ≤ (0 : Int)) && decide ((0 : Int) < (List.length B1 : Int))) = true then
       (idx B1 (0 : Int)) >>= fun t1 =>
       if (t1 == B0_1) = true then
         if (decide ((0 : Int) ≤ (1 : Int)) && decide ((1 : Int) < (List.length B1 : Int))) = true then
           (idx B1 (1 : Int)) >>= fun t2 =>
           some ((t2 == B0_1, ()), ())
         else none
       else
         some ((false, ()), ())
     else none
   else
     if (s27 == (9 : Int)) = true then
       run_ratchetbase_widthsFit (.p3935 s27 (s27 == (9 : Int)) B0_0 B0_1 B0_2 B0_3 B1)
     else
       if (s27 == (10 : Int)) = true then
         run_ratchetbase_widthsFit (.p3935 s27 (s27 == (10 : Int)) B0_0 B0_1 B0_2 B0_3 B1)
       else
         run_ratchetbase_widthsFit (.p3935 s27 (s27 == (11 : Int)) B0_0 B0_1 B0_2 B0_3 B1)
 | .p3935 s27 s57 B0_0 B0_1 B0_2 B0_3 B1 =>
   if s57 = true then
     if (decide ((0 : Int) ≤ (0 : Int)) && decide ((0 : Int) < (List.length B1 : Int))) = true then
       (idx B1 (0 : Int)) >>= fun t1 =>
       if (decide ((0 : Int) ≤ (1 : Int)) && decide ((1 : Int) < (List.length B1 : Int))) = true then
         (idx B1 (1 : Int)) >>= fun t2 =>
         if (t1 == t2) = true then
           some ((B0_1 == (1 : Int), ()), ())
         else
           some ((false, ()), ())
       else none
     else none
   else
     if (s27 == (12 : Int)) = true then
       if (decide ((0 : Int) ≤ (0 : Int)) && decide ((0 : Int) < (List.length B1 : Int))) = true then
         (idx B1 (0 : Int)) >>= fun t3 =>
         if (t3 == (1 : Int)) = true then
           if (decide ((0 : Int) ≤ (1 : Int)) && decide ((1 : Int) < (List.length B1 : Int))) = true then
             (idx B1 (1 : Int)) >>= fun t4 =>
             if (t4 == B0_1) = true then
               if (decide ((0 : Int) ≤ (2 : Int)) && decide ((2 : Int) < (List.length B1 : Int))) = true then
                 (idx B1 (2 : Int)) >>= fun t5 =>
                 some ((t5 == B0_1, ()), ())
               else none
             else
               some ((false, ()), ())
           else none
         else
           some ((false, ()), ())
       else none
     else
       if (s27 == (13 : Int)) = true then
         if (decide ((0 : Int) ≤ (0 : Int)) && decide ((0 : Int) < (List.length B1 : Int))) = true then
           (idx B1 (0 : Int)) >>= fun t6 =>
           if (decide ((0 : Int) ≤ (1 : Int)) && decide ((1 : Int) < (List.length B1 : Int))) = true then
             (idx B1 (1 : Int)) >>= fun t7 =>
             some (((IntKind.wrap .i64 (t6 + t7)) == B0_1, ()), ())
           else none
         else none
       else
         if (s27 == (14 : Int)) = true then
           if (decide ((0 : Int) ≤ (0 : Int)) && decide ((0 : Int) < (List.length B1 : Int))) = true then
             (idx B1 (0 : Int)) >>= fun t8 =>
             some ((decide ((IntKind.wrap .i64 (B0_3 + B0_1)) ≤ t8), ()), ())
           else none
         else
           if (s27 == (15 : Int)) = true then
             run_ratchetbase_widthsFit (.p1007615 (s27 == (15 : Int)) B0_0 B0_1 B0_2 B0_3 B1)
           else
             run_ratchetbase_widthsFit (.p1007615 (s27 == (16 : Int)) B0_0 B0_1 B0_2 B0_3 B1)
 | .p1007615 s118 B0_0 B0_1 B0_2 B0_3 B1 =>
   if s118 = true then
     if (decide ((0 : Int) ≤ (0 : Int)) && decide ((0 : Int) < (List.length B1 : Int))) = true then
       (idx B1 (0 : Int)) >>= fun t1 =>
       some ((decide (t1 ≤ B0_1), ()), ())
     else none
   else
     if (decide ((0 : Int) ≤ (0 : Int)) && decide ((0 : Int) < (List.length B1 : Int))) = true then
       (idx B1 (0 : Int)) >>= fun t2 =>
       some ((t2 == B0_1, ()), ())
     else none
  partial_fixpoint
noncomputable def tab_ratchetbase_widthsFit : List (Plc E P_ratchetbase_widthsFit) := [⟨116, [false, false, true, false, true, true], { slots := [0, 3, 5, 6], rows := [(5, 3)], flat := [], keep := 0 }, ((List api_Node) × (Unit × (Unit × (Int × Unit)))), ((Int × (Int × ((List Int) × (Int × Unit)))) × ((List Int) × Unit)), (RdL.cons (Rd.sl 208 false) (RdL.cons (Rd.bp 0 0) (RdL.cons (Rd.rw 1) (RdL.cons (Rd.int .i64) RdL.nil)))), (RdBL.cons (RdB.var 208 (RdL.cons (Rd.int .i64) (RdL.cons (Rd.int .i64) (RdL.cons (Rd.sl 3 false) (RdL.cons (Rd.int .i64) RdL.nil))))) (RdBL.cons (RdB.row 3 false) RdBL.nil)), fun a b => .p116 a.1 a.2.2.2.1 b.1.1 b.1.2.1 b.1.2.2.1 b.1.2.2.2.1 b.2.1⟩,
  ⟨983, [true, true, true, false, true, false, true, true, true], { slots := [3, 5, 27, 36], rows := [], flat := [], keep := 0 }, (Unit × (Unit × (Int × (Bool × Unit)))), ((Int × (Int × ((List Int) × (Int × Unit)))) × ((List Int) × Unit)), (RdL.cons (Rd.bp 0 0) (RdL.cons (Rd.rw 1) (RdL.cons (Rd.int .i64) (RdL.cons Rd.bool RdL.nil)))), (RdBL.cons (RdB.var 208 (RdL.cons (Rd.int .i64) (RdL.cons (Rd.int .i64) (RdL.cons (Rd.sl 3 false) (RdL.cons (Rd.int .i64) RdL.nil))))) (RdBL.cons (RdB.row 3 false) RdBL.nil)), fun a b => .p983 a.2.2.1 a.2.2.2.1 b.1.1 b.1.2.1 b.1.2.2.1 b.1.2.2.2.1 b.2.1⟩,
  ⟨3935, [true, true, true, true, true, false, true, false, true, true, true], { slots := [3, 5, 27, 57], rows := [], flat := [], keep := 0 }, (Unit × (Unit × (Int × (Bool × Unit)))), ((Int × (Int × ((List Int) × (Int × Unit)))) × ((List Int) × Unit)), (RdL.cons (Rd.bp 0 0) (RdL.cons (Rd.rw 1) (RdL.cons (Rd.int .i64) (RdL.cons Rd.bool RdL.nil)))), (RdBL.cons (RdB.var 208 (RdL.cons (Rd.int .i64) (RdL.cons (Rd.int .i64) (RdL.cons (Rd.sl 3 false) (RdL.cons (Rd.int .i64) RdL.nil))))) (RdBL.cons (RdB.row 3 false) RdBL.nil)), fun a b => .p3935 a.2.2.1 a.2.2.2.1 b.1.1 b.1.2.1 b.1.2.2.1 b.1.2.2.2.1 b.2.1⟩,
  ⟨1007615, [true, true, true, true, true, true, true, true, true, true, true, true, true, false, true, false, true, true, true], { slots := [3, 5, 118], rows := [], flat := [], keep := 0 }, (Unit × (Unit × (Bool × Unit))), ((Int × (Int × ((List Int) × (Int × Unit)))) × ((List Int) × Unit)), (RdL.cons (Rd.bp 0 0) (RdL.cons (Rd.rw 1) (RdL.cons Rd.bool RdL.nil))), (RdBL.cons (RdB.var 208 (RdL.cons (Rd.int .i64) (RdL.cons (Rd.int .i64) (RdL.cons (Rd.sl 3 false) (RdL.cons (Rd.int .i64) RdL.nil))))) (RdBL.cons (RdB.row 3 false) RdBL.nil)), fun a b => .p1007615 a.2.2.1 b.1.1 b.1.2.1 b.1.2.2.1 b.1.2.2.2.1 b.2.1⟩]
theorem tab_ratchetbase_widthsFit_ok : All (PlcOk 133 0 place_ratchetbase_widthsFit st_ratchetbase_widthsFit) tab_ratchetbase_widthsFit := ⟨⟨rfl, rfl, fun _ _ => rfl, fun _ _ => rfl⟩, ⟨⟨rfl, rfl, fun _ _ => rfl, fun _ _ => rfl⟩, ⟨⟨rfl, rfl, fun _ _ => rfl, fun _ _ => rfl⟩, ⟨⟨rfl, rfl, fun _ _ => rfl, fun _ _ => rfl⟩, trivial⟩⟩⟩⟩
noncomputable def code_ratchetbase_widthsFit : Code := Tryz.f193.body.getD .skip
noncomputable def spec_ratchetbase_widthsFit : Spec E.S := noSpec
theorem spec_ratchetbase_widthsFit_ok : SpecOk E spec_ratchetbase_widthsFit := noSpec_ok
theorem good_ratchetbase_widthsFit : ∀ pt r, run_ratchetbase_widthsFit pt = some r → Good E Tryz.f193 code_ratchetbase_widthsFit 0 (res_ratchetbase_widthsFit.av r) (res_ratchetbase_widthsFit.bx r) (place_ratchetbase_widthsFit pt) (st_ratchetbase_widthsFit pt) := by
  refine run_ratchetbase_widthsFit.partial_correctness (fun pt r => Good E Tryz.f193 code_ratchetbase_widthsFit 0 (res_ratchetbase_widthsFit.av r) (res_ratchetbase_widthsFit.bx r) (place_ratchetbase_widthsFit pt) (st_ratchetbase_widthsFit pt)) ?_
  intro run' ih pt r hr
  cases pt <;> exact fn_step (spec := spec_ratchetbase_widthsFit) (wr := (mkWr [] [])) (l := tab_ratchetbase_widthsFit) (z := 133) (p := res_ratchetbase_widthsFit) E_ok tab_ratchetbase_widthsFit_ok.mem rfl spec_ratchetbase_widthsFit_ok ih (Eq.trans (by kernel_rfl) hr)
noncomputable def con_ratchetbase_widthsFit : Con E := ⟨193, ((List api_Node) × ((Int × (Int × ((List Int) × (Int × Unit)))) × Unit)), Unit, (RwL.cons (Rw.sl 208) (RwL.cons (Rw.agg (RwL.cons (Rd.int .i64).w (RwL.cons (Rd.int .i64).w (RwL.cons (Rw.sl 3) (RwL.cons (Rd.int .i64).w RwL.nil))))) RwL.nil)), RdBL.nil, 0, R_ratchetbase_widthsFit, fun a b => run_ratchetbase_widthsFit (.start a.1 a.2.1.1 a.2.1.2.1 a.2.1.2.2.1 a.2.1.2.2.2.1), res_ratchetbase_widthsFit.av, res_ratchetbase_widthsFit.bx⟩
theorem con_ratchetbase_widthsFit_ok : con_ratchetbase_widthsFit.Ok := fun a b r h => fn_ok (fn := Tryz.f193) (code := code_ratchetbase_widthsFit) E_ok (by kernel_rfl) (by kernel_rfl) (by kernel_rfl) (Nat.le_of_ble_eq_true rfl) (good_ratchetbase_widthsFit (.start a.1 a.2.1.1 a.2.1.2.1 a.2.1.2.2.1 a.2.1.2.2.2.1) r h)

/-! ### ratchet/ratchetbase.nodeErr -/
inductive P_ratchetbase_nodeErr where
 | start (leaves0 : (List Int)) (nodes1 : (List api_Node)) (i2 : Int)
 | p1012 (leaves0 : (List Int)) (nodes1 : (List api_Node)) (i2 : Int) (k8 : Int) (B0_0 : Int) (B0_1 : Int) (B0_2 : (List Int)) (B0_3 : Int)
 | p255 (nodes1 : (List api_Node)) (B0_0 : Int) (B0_1 : Int) (B0_2 : (List Int)) (B0_3 : Int)
noncomputable def place_ratchetbase_nodeErr : P_ratchetbase_nodeErr → List Bool
 | .start .. => []
 | .p1012 .. => [false, false, true, false, true, true, true, true, true]
 | .p255 .. => [true, true, true, true, true, true, true]
noncomputable def st_ratchetbase_nodeErr : P_ratchetbase_nodeErr → St E.S
 | .start leaves0 nodes1 i2 => st0 84 [.sl 3 leaves0 false, .sl 208 nodes1 false, .v (.int .i64 i2)] []
 | .p1012 leaves0 nodes1 i2 k8 B0_0 B0_1 B0_2 B0_3 => mkSt 84 [0, 1, 2, 7, 8] [.sl 3 leaves0 false, .sl 208 nodes1 false, .v (.int .i64 i2), .bp 0 0, .v (.int .i64 k8)] [.var 208 [.v (.int .i64 B0_0), .v (.int .i64 B0_1), .sl 3 B0_2 false, .v (.int .i64 B0_3)]]
 | .p255 nodes1 B0_0 B0_1 B0_2 B0_3 => mkSt 84 [1, 7] [.sl 208 nodes1 false, .bp 0 0] [.var 208 [.v (.int .i64 B0_0), .v (.int .i64 B0_1), .sl 3 B0_2 false, .v (.int .i64 B0_3)]]
abbrev R_ratchetbase_nodeErr : Type := ((Int × Unit) × Unit)
noncomputable def res_ratchetbase_nodeErr : Res E (Int × Unit) Unit := { rows := [], flat := [], keep := 0, done := [0], rl := (RdL.cons (Rd.int .i64) RdL.nil), rb := RdBL.nil }
noncomputable def run_ratchetbase_nodeErr : P_ratchetbase_nodeErr → Option R_ratchetbase_nodeErr
 | .start leaves0 nodes1 i2 =>
   (idx nodes1 i2) >>= fun t1 =>
   (run_ratchetbase_Within (.start t1.Op (0 : Int) (18 : Int))) >>= fun t2 =>
   if (!t2.1.1) = true then
     some (((15 : Int), ()), ())
   else
     (run_ratchetbase_IsWidth (.start t1.Width)) >>= fun t3 =>
     if (!t3.1.1) = true then
       some (((2 : Int), ()), ())
     else
       (run_ratchetbase_ArgCount (.start t1.Op)) >>= fun t4 =>
       if ((List.length t1.Args : Int) != t4.1.1) = true then
         some (((10 : Int), ()), ())
       else
         run_ratchetbase_nodeErr (.p1012 leaves0 nodes1 i2 (0 : Int) t1.Op t1.Width t1.Args t1.Value)
 | .p1012 leaves0 nodes1 i2 k8 B0_0 B0_1 B0_2 B0_3 =>
   if (decide (k8 < (List.length B0_2 : Int))) = true then
     (idx B0_2 k8) >>= fun t1 =>
     (run_ratchetbase_Within (.start t1 (0 : Int) (IntKind.wrap .i64 (i2 - (1 : Int))))) >>= fun t2 =>
     if (!t2.1.1) = true then
       some (((9 : Int), ()), ())
     else
       run_ratchetbase_nodeErr (.p1012 leaves0 nodes1 i2 (IntKind.wrap .i64 (k8 + (1 : Int))) B0_0 B0_1 B0_2 B0_3)
   else
     if (B0_0 == (0 : Int)) = true then
       (run_ratchetbase_Fits (.start B0_3 B0_1)) >>= fun t3 =>
       if (!t3.1.1) = true then
         some (((2 : Int), ()), ())
       else
         some (((0 : Int), ()), ())
     else
       if (B0_0 == (1 : Int)) = true then
         (run_ratchetbase_Within (.start B0_3 (0 : Int) (IntKind.wrap .i64 ((List.length leaves0 : Int) - (1 : Int))))) >>= fun t4 =>
         if (!t4.1.1) = true then
           some (((6 : Int), ()), ())
         else
           (idx leaves0 B0_3) >>= fun t5 =>
           if (t5 != B0_1) = true then
             some (((25 : Int), ()), ())
           else
             some (((0 : Int), ()), ())
       else
         if (B0_0 == (14 : Int)) = true then
           (run_ratchetbase_Within (.start B0_3 (0 : Int) (15 : Int))) >>= fun t6 =>
           if (!t6.1.1) = true then
             some (((2 : Int), ()), ())
           else
             run_ratchetbase_nodeErr (.p255 nodes1 B0_0 B0_1 B0_2 B0_3)
         else
           if (B0_3 != (0 : Int)) = true then
             some (((3 : Int), ()), ())
           else
             run_ratchetbase_nodeErr (.p255 nodes1 B0_0 B0_1 B0_2 B0_3)
 | .p255 nodes1 B0_0 B0_1 B0_2 B0_3 =>
   (run_ratchetbase_widthsFit (.start nodes1 B0_0 B0_1 B0_2 B0_3)) >>= fun t1 =>
   if (!t1.1.1) = true then
     some (((25 : Int), ()), ())
   else
     some (((0 : Int), ()), ())
  partial_fixpoint
noncomputable def tab_ratchetbase_nodeErr : List (Plc E P_ratchetbase_nodeErr) := [⟨1012, [false, false, true, false, true, true, true, true, true], { slots := [0, 1, 2, 7, 8], rows := [], flat := [], keep := 0 }, ((List Int) × ((List api_Node) × (Int × (Unit × (Int × Unit))))), ((Int × (Int × ((List Int) × (Int × Unit)))) × Unit), (RdL.cons (Rd.sl 3 false) (RdL.cons (Rd.sl 208 false) (RdL.cons (Rd.int .i64) (RdL.cons (Rd.bp 0 0) (RdL.cons (Rd.int .i64) RdL.nil))))), (RdBL.cons (RdB.var 208 (RdL.cons (Rd.int .i64) (RdL.cons (Rd.int .i64) (RdL.cons (Rd.sl 3 false) (RdL.cons (Rd.int .i64) RdL.nil))))) RdBL.nil), fun a b => .p1012 a.1 a.2.1 a.2.2.1 a.2.2.2.2.1 b.1.1 b.1.2.1 b.1.2.2.1 b.1.2.2.2.1⟩,
  ⟨255, [true, true, true, true, true, true, true], { slots := [1, 7], rows := [], flat := [], keep := 0 }, ((List api_Node) × (Unit × Unit)), ((Int × (Int × ((List Int) × (Int × Unit)))) × Unit), (RdL.cons (Rd.sl 208 false) (RdL.cons (Rd.bp 0 0) RdL.nil)), (RdBL.cons (RdB.var 208 (RdL.cons (Rd.int .i64) (RdL.cons (Rd.int .i64) (RdL.cons (Rd.sl 3 false) (RdL.cons (Rd.int .i64) RdL.nil))))) RdBL.nil), fun a b => .p255 a.1 b.1.1 b.1.2.1 b.1.2.2.1 b.1.2.2.2.1⟩]
theorem tab_ratchetbase_nodeErr_ok : All (PlcOk 84 0 place_ratchetbase_nodeErr st_ratchetbase_nodeErr) tab_ratchetbase_nodeErr := ⟨⟨rfl, rfl, fun _ _ => rfl, fun _ _ => rfl⟩, ⟨⟨rfl, rfl, fun _ _ => rfl, fun _ _ => rfl⟩, trivial⟩⟩
noncomputable def code_ratchetbase_nodeErr : Code := Tryz.f173.body.getD .skip
noncomputable def spec_ratchetbase_nodeErr : Spec E.S := (Con.add con_ratchetbase_widthsFit (Con.add con_ratchetbase_Fits (Con.add con_ratchetbase_ArgCount (Con.add con_ratchetbase_IsWidth (Con.add con_ratchetbase_Within noSpec)))))
theorem spec_ratchetbase_nodeErr_ok : SpecOk E spec_ratchetbase_nodeErr := (Con.add_ok con_ratchetbase_widthsFit_ok (Con.add_ok con_ratchetbase_Fits_ok (Con.add_ok con_ratchetbase_ArgCount_ok (Con.add_ok con_ratchetbase_IsWidth_ok (Con.add_ok con_ratchetbase_Within_ok noSpec_ok)))))
theorem good_ratchetbase_nodeErr : ∀ pt r, run_ratchetbase_nodeErr pt = some r → Good E Tryz.f173 code_ratchetbase_nodeErr 0 (res_ratchetbase_nodeErr.av r) (res_ratchetbase_nodeErr.bx r) (place_ratchetbase_nodeErr pt) (st_ratchetbase_nodeErr pt) := by
  refine run_ratchetbase_nodeErr.partial_correctness (fun pt r => Good E Tryz.f173 code_ratchetbase_nodeErr 0 (res_ratchetbase_nodeErr.av r) (res_ratchetbase_nodeErr.bx r) (place_ratchetbase_nodeErr pt) (st_ratchetbase_nodeErr pt)) ?_
  intro run' ih pt r hr
  cases pt <;> exact fn_step (spec := spec_ratchetbase_nodeErr) (wr := (mkWr [] [])) (l := tab_ratchetbase_nodeErr) (z := 84) (p := res_ratchetbase_nodeErr) E_ok tab_ratchetbase_nodeErr_ok.mem rfl spec_ratchetbase_nodeErr_ok ih (Eq.trans (by kernel_rfl) hr)
noncomputable def con_ratchetbase_nodeErr : Con E := ⟨173, ((List Int) × ((List api_Node) × (Int × Unit))), Unit, (RwL.cons (Rw.sl 3) (RwL.cons (Rw.sl 208) (RwL.cons (Rd.int .i64).w RwL.nil))), RdBL.nil, 0, R_ratchetbase_nodeErr, fun a b => run_ratchetbase_nodeErr (.start a.1 a.2.1 a.2.2.1), res_ratchetbase_nodeErr.av, res_ratchetbase_nodeErr.bx⟩
theorem con_ratchetbase_nodeErr_ok : con_ratchetbase_nodeErr.Ok := fun a b r h => fn_ok (fn := Tryz.f173) (code := code_ratchetbase_nodeErr) E_ok (by kernel_rfl) (by kernel_rfl) (by kernel_rfl) (Nat.le_of_ble_eq_true rfl) (good_ratchetbase_nodeErr (.start a.1 a.2.1 a.2.2.1) r h)

/-! ### ratchet/ratchetbase.NodesErr -/
inductive P_ratchetbase_NodesErr where
 | start (leaves0 : (List Int)) (nodes1 : (List api_Node))
 | p116 (leaves0 : (List Int)) (nodes1 : (List api_Node)) (i6 : Int)
noncomputable def place_ratchetbase_NodesErr : P_ratchetbase_NodesErr → List Bool
 | .start .. => []
 | .p116 .. => [false, false, true, false, true, true]
noncomputable def st_ratchetbase_NodesErr : P_ratchetbase_NodesErr → St E.S
 | .start leaves0 nodes1 => st0 25 [.sl 3 leaves0 false, .sl 208 nodes1 false] []
 | .p116 leaves0 nodes1 i6 => mkSt 25 [0, 1, 6] [.sl 3 leaves0 false, .sl 208 nodes1 false, .v (.int .i64 i6)] []
abbrev R_ratchetbase_NodesErr : Type := ((Int × (Int × Unit)) × Unit)
noncomputable def res_ratchetbase_NodesErr : Res E (Int × (Int × Unit)) Unit := { rows := [], flat := [], keep := 0, done := [0, 1], rl := (RdL.cons (Rd.int .i64) (RdL.cons (Rd.int .i64) RdL.nil)), rb := RdBL.nil }
noncomputable def run_ratchetbase_NodesErr : P_ratchetbase_NodesErr → Option R_ratchetbase_NodesErr
 | .start leaves0 nodes1 =>
   if (decide ((List.length nodes1 : Int) > (400 : Int))) = true then
     some (((0 : Int), ((8 : Int), ())), ())
   else
     run_ratchetbase_NodesErr (.p116 leaves0 nodes1 (0 : Int))
 | .p116 leaves0 nodes1 i6 =>
   if (decide (i6 < (List.length nodes1 : Int))) = true then
     (run_ratchetbase_nodeErr (.start leaves0 nodes1 i6)) >>= fun t1 =>
     if (t1.1.1 != (0 : Int)) = true then
       some ((i6, (t1.1.1, ())), ())
     else
       run_ratchetbase_NodesErr (.p116 leaves0 nodes1 (IntKind.wrap .i64 (i6 + (1 : Int))))
   else
     some (((0 : Int), ((0 : Int), ())), ())
  partial_fixpoint
noncomputable def tab_ratchetbase_NodesErr : List (Plc E P_ratchetbase_NodesErr) := [⟨116, [false, false, true, false, true, true], { slots := [0, 1, 6], rows := [], flat := [], keep := 0 }, ((List Int) × ((List api_Node) × (Int × Unit))), Unit, (RdL.cons (Rd.sl 3 false) (RdL.cons (Rd.sl 208 false) (RdL.cons (Rd.int .i64) RdL.nil))), RdBL.nil, fun a b => .p116 a.1 a.2.1 a.2.2.1⟩]
theorem tab_ratchetbase_NodesErr_ok : All (PlcOk 25 0 place_ratchetbase_NodesErr st_ratchetbase_NodesErr) tab_ratchetbase_NodesErr := ⟨⟨rfl, rfl, fun _ _ => rfl, fun _ _ => rfl⟩, trivial⟩
noncomputable def code_ratchetbase_NodesErr : Code := Tryz.f139.body.getD .skip
noncomputable def spec_ratchetbase_NodesErr : Spec E.S := (Con.add con_ratchetbase_nodeErr noSpec)
theorem spec_ratchetbase_NodesErr_ok : SpecOk E spec_ratchetbase_NodesErr := (Con.add_ok con_ratchetbase_nodeErr_ok noSpec_ok)
theorem good_ratchetbase_NodesErr : ∀ pt r, run_ratchetbase_NodesErr pt = some r → Good E Tryz.f139 code_ratchetbase_NodesErr 0 (res_ratchetbase_NodesErr.av r) (res_ratchetbase_NodesErr.bx r) (place_ratchetbase_NodesErr pt) (st_ratchetbase_NodesErr pt) := by
  refine run_ratchetbase_NodesErr.partial_correctness (fun pt r => Good E Tryz.f139 code_ratchetbase_NodesErr 0 (res_ratchetbase_NodesErr.av r) (res_ratchetbase_NodesErr.bx r) (place_ratchetbase_NodesErr pt) (st_ratchetbase_NodesErr pt)) ?_
  intro run' ih pt r hr
  cases pt <;> exact fn_step (spec := spec_ratchetbase_NodesErr) (wr := (mkWr [] [])) (l := tab_ratchetbase_NodesErr) (z := 25) (p := res_ratchetbase_NodesErr) E_ok tab_ratchetbase_NodesErr_ok.mem rfl spec_ratchetbase_NodesErr_ok ih (Eq.trans (by kernel_rfl) hr)
noncomputable def con_ratchetbase_NodesErr : Con E := ⟨139, ((List Int) × ((List api_Node) × Unit)), Unit, (RwL.cons (Rw.sl 3) (RwL.cons (Rw.sl 208) RwL.nil)), RdBL.nil, 0, R_ratchetbase_NodesErr, fun a b => run_ratchetbase_NodesErr (.start a.1 a.2.1), res_ratchetbase_NodesErr.av, res_ratchetbase_NodesErr.bx⟩
theorem con_ratchetbase_NodesErr_ok : con_ratchetbase_NodesErr.Ok := fun a b r h => fn_ok (fn := Tryz.f139) (code := code_ratchetbase_NodesErr) E_ok (by kernel_rfl) (by kernel_rfl) (by kernel_rfl) (Nat.le_of_ble_eq_true rfl) (good_ratchetbase_NodesErr (.start a.1 a.2.1) r h)

/-! ### ratchet/ratchetbase.IsNode -/
inductive P_ratchetbase_IsNode where
 | start (nodes0 : (List api_Node)) (i1 : Int)
noncomputable def place_ratchetbase_IsNode : P_ratchetbase_IsNode → List Bool
 | .start .. => []
noncomputable def st_ratchetbase_IsNode : P_ratchetbase_IsNode → St E.S
 | .start nodes0 i1 => st0 10 [.sl 208 nodes0 false, .v (.int .i64 i1)] []
abbrev R_ratchetbase_IsNode : Type := ((Bool × Unit) × Unit)
noncomputable def res_ratchetbase_IsNode : Res E (Bool × Unit) Unit := { rows := [], flat := [], keep := 0, done := [0], rl := (RdL.cons Rd.bool RdL.nil), rb := RdBL.nil }
noncomputable def run_ratchetbase_IsNode : P_ratchetbase_IsNode → Option R_ratchetbase_IsNode
 | .start nodes0 i1 =>
   (run_ratchetbase_Within (.start i1 (0 : Int) (IntKind.wrap .i64 ((List.length nodes0 : Int) - (1 : Int))))) >>= fun t1 =>
   some ((t1.1.1, ()), ())
noncomputable def tab_ratchetbase_IsNode : List (Plc E P_ratchetbase_IsNode) := []
theorem tab_ratchetbase_IsNode_ok : All (PlcOk 10 0 place_ratchetbase_IsNode st_ratchetbase_IsNode) tab_ratchetbase_IsNode := trivial
noncomputable def code_ratchetbase_IsNode : Code := Tryz.f174.body.getD .skip
noncomputable def spec_ratchetbase_IsNode : Spec E.S := (Con.add con_ratchetbase_Within noSpec)
theorem spec_ratchetbase_IsNode_ok : SpecOk E spec_ratchetbase_IsNode := (Con.add_ok con_ratchetbase_Within_ok noSpec_ok)
theorem good_ratchetbase_IsNode : ∀ pt r, run_ratchetbase_IsNode pt = some r → Good E Tryz.f174 code_ratchetbase_IsNode 0 (res_ratchetbase_IsNode.av r) (res_ratchetbase_IsNode.bx r) (place_ratchetbase_IsNode pt) (st_ratchetbase_IsNode pt) := by
  intro pt r hr
  cases pt <;> exact fn_step (spec := spec_ratchetbase_IsNode) (wr := (mkWr [] [])) (l := tab_ratchetbase_IsNode) (z := 10) (p := res_ratchetbase_IsNode) (run' := fun _ => none) E_ok tab_ratchetbase_IsNode_ok.mem rfl spec_ratchetbase_IsNode_ok (fun _ _ h => by cases h) (Eq.trans (by kernel_rfl) hr)
noncomputable def con_ratchetbase_IsNode : Con E := ⟨174, ((List api_Node) × (Int × Unit)), Unit, (RwL.cons (Rw.sl 208) (RwL.cons (Rd.int .i64).w RwL.nil)), RdBL.nil, 0, R_ratchetbase_IsNode, fun a b => run_ratchetbase_IsNode (.start a.1 a.2.1), res_ratchetbase_IsNode.av, res_ratchetbase_IsNode.bx⟩
theorem con_ratchetbase_IsNode_ok : con_ratchetbase_IsNode.Ok := fun a b r h => fn_ok (fn := Tryz.f174) (code := code_ratchetbase_IsNode) E_ok (by kernel_rfl) (by kernel_rfl) (by kernel_rfl) (Nat.le_of_ble_eq_true rfl) (good_ratchetbase_IsNode (.start a.1 a.2.1) r h)

/-! ### ratchet/ratchetbase.OutputsErr -/
inductive P_ratchetbase_OutputsErr where
 | start (nodes0 : (List api_Node)) (l1 : (List api_Output))
 | p116 (nodes0 : (List api_Node)) (l1 : (List api_Output)) (i6 : Int)
 | p29844 (nodes0 : (List api_Node)) (l1 : (List api_Output)) (i6 : Int) (k7 : Int)
noncomputable def place_ratchetbase_OutputsErr : P_ratchetbase_OutputsErr → List Bool
 | .start .. => []
 | .p116 .. => [false, false, true, false, true, true]
 | .p29844 .. => [false, false, true, false, true, false, false, true, false, false, true, false, true, true]
noncomputable def st_ratchetbase_OutputsErr : P_ratchetbase_OutputsErr → St E.S
 | .start nodes0 l1 => st0 51 [.sl 208 nodes0 false, .sl 190 l1 false] []
 | .p116 nodes0 l1 i6 => mkSt 51 [0, 1, 6] [.sl 208 nodes0 false, .sl 190 l1 false, .v (.int .i64 i6)] []
 | .p29844 nodes0 l1 i6 k7 => mkSt 51 [0, 1, 6, 7] [.sl 208 nodes0 false, .sl 190 l1 false, .v (.int .i64 i6), .v (.int .i64 k7)] []
abbrev R_ratchetbase_OutputsErr : Type := ((Int × (Int × Unit)) × Unit)
noncomputable def res_ratchetbase_OutputsErr : Res E (Int × (Int × Unit)) Unit := { rows := [], flat := [], keep := 0, done := [0, 1], rl := (RdL.cons (Rd.int .i64) (RdL.cons (Rd.int .i64) RdL.nil)), rb := RdBL.nil }
noncomputable def run_ratchetbase_OutputsErr : P_ratchetbase_OutputsErr → Option R_ratchetbase_OutputsErr
 | .start nodes0 l1 =>
   if (decide ((List.length l1 : Int) > (12 : Int))) = true then
     some (((0 : Int), ((8 : Int), ())), ())
   else
     run_ratchetbase_OutputsErr (.p116 nodes0 l1 (0 : Int))
 | .p116 nodes0 l1 i6 =>
   if (decide (i6 < (List.length l1 : Int))) = true then
     (idx l1 i6) >>= fun t1 =>
     (run_ratchetbase_IsName (.start t1.Name)) >>= fun t2 =>
     if (!t2.1.1) = true then
       some ((i6, ((4 : Int), ())), ())
     else
       run_ratchetbase_OutputsErr (.p29844 nodes0 l1 i6 (0 : Int))
   else
     some (((0 : Int), ((0 : Int), ())), ())
 | .p29844 nodes0 l1 i6 k7 =>
   if (decide (k7 < i6)) = true then
     (idx l1 k7) >>= fun t1 =>
     (idx l1 i6) >>= fun t2 =>
     if (seq t1.Name t2.Name) = true then
       some ((i6, ((5 : Int), ())), ())
     else
       run_ratchetbase_OutputsErr (.p29844 nodes0 l1 i6 (IntKind.wrap .i64 (k7 + (1 : Int))))
   else
     (idx l1 i6) >>= fun t3 =>
     (run_ratchetbase_IsNode (.start nodes0 t3.Node)) >>= fun t4 =>
     if (!t4.1.1) = true then
       some ((i6, ((9 : Int), ())), ())
     else
       run_ratchetbase_OutputsErr (.p116 nodes0 l1 (IntKind.wrap .i64 (i6 + (1 : Int))))
  partial_fixpoint
noncomputable def tab_ratchetbase_OutputsErr : List (Plc E P_ratchetbase_OutputsErr) := [⟨116, [false, false, true, false, true, true], { slots := [0, 1, 6], rows := [], flat := [], keep := 0 }, ((List api_Node) × ((List api_Output) × (Int × Unit))), Unit, (RdL.cons (Rd.sl 208 false) (RdL.cons (Rd.sl 190 false) (RdL.cons (Rd.int .i64) RdL.nil))), RdBL.nil, fun a b => .p116 a.1 a.2.1 a.2.2.1⟩,
  ⟨29844, [false, false, true, false, true, false, false, true, false, false, true, false, true, true], { slots := [0, 1, 6, 7], rows := [], flat := [], keep := 0 }, ((List api_Node) × ((List api_Output) × (Int × (Int × Unit)))), Unit, (RdL.cons (Rd.sl 208 false) (RdL.cons (Rd.sl 190 false) (RdL.cons (Rd.int .i64) (RdL.cons (Rd.int .i64) RdL.nil)))), RdBL.nil, fun a b => .p29844 a.1 a.2.1 a.2.2.1 a.2.2.2.1⟩]
theorem tab_ratchetbase_OutputsErr_ok : All (PlcOk 51 0 place_ratchetbase_OutputsErr st_ratchetbase_OutputsErr) tab_ratchetbase_OutputsErr := ⟨⟨rfl, rfl, fun _ _ => rfl, fun _ _ => rfl⟩, ⟨⟨rfl, rfl, fun _ _ => rfl, fun _ _ => rfl⟩, trivial⟩⟩
noncomputable def code_ratchetbase_OutputsErr : Code := Tryz.f143.body.getD .skip
noncomputable def spec_ratchetbase_OutputsErr : Spec E.S := (Con.add con_ratchetbase_IsNode (Con.add con_ratchetbase_IsName noSpec))
theorem spec_ratchetbase_OutputsErr_ok : SpecOk E spec_ratchetbase_OutputsErr := (Con.add_ok con_ratchetbase_IsNode_ok (Con.add_ok con_ratchetbase_IsName_ok noSpec_ok))
theorem good_ratchetbase_OutputsErr : ∀ pt r, run_ratchetbase_OutputsErr pt = some r → Good E Tryz.f143 code_ratchetbase_OutputsErr 0 (res_ratchetbase_OutputsErr.av r) (res_ratchetbase_OutputsErr.bx r) (place_ratchetbase_OutputsErr pt) (st_ratchetbase_OutputsErr pt) := by
  refine run_ratchetbase_OutputsErr.partial_correctness (fun pt r => Good E Tryz.f143 code_ratchetbase_OutputsErr 0 (res_ratchetbase_OutputsErr.av r) (res_ratchetbase_OutputsErr.bx r) (place_ratchetbase_OutputsErr pt) (st_ratchetbase_OutputsErr pt)) ?_
  intro run' ih pt r hr
  cases pt <;> exact fn_step (spec := spec_ratchetbase_OutputsErr) (wr := (mkWr [] [])) (l := tab_ratchetbase_OutputsErr) (z := 51) (p := res_ratchetbase_OutputsErr) E_ok tab_ratchetbase_OutputsErr_ok.mem rfl spec_ratchetbase_OutputsErr_ok ih (Eq.trans (by kernel_rfl) hr)
noncomputable def con_ratchetbase_OutputsErr : Con E := ⟨143, ((List api_Node) × ((List api_Output) × Unit)), Unit, (RwL.cons (Rw.sl 208) (RwL.cons (Rw.sl 190) RwL.nil)), RdBL.nil, 0, R_ratchetbase_OutputsErr, fun a b => run_ratchetbase_OutputsErr (.start a.1 a.2.1), res_ratchetbase_OutputsErr.av, res_ratchetbase_OutputsErr.bx⟩
theorem con_ratchetbase_OutputsErr_ok : con_ratchetbase_OutputsErr.Ok := fun a b r h => fn_ok (fn := Tryz.f143) (code := code_ratchetbase_OutputsErr) E_ok (by kernel_rfl) (by kernel_rfl) (by kernel_rfl) (Nat.le_of_ble_eq_true rfl) (good_ratchetbase_OutputsErr (.start a.1 a.2.1) r h)

/-! ### ratchet/ratchetbase.IsCondition -/
inductive P_ratchetbase_IsCondition where
 | start (nodes0 : (List api_Node)) (i1 : Int)
noncomputable def place_ratchetbase_IsCondition : P_ratchetbase_IsCondition → List Bool
 | .start .. => []
noncomputable def st_ratchetbase_IsCondition : P_ratchetbase_IsCondition → St E.S
 | .start nodes0 i1 => st0 16 [.sl 208 nodes0 false, .v (.int .i64 i1)] []
abbrev R_ratchetbase_IsCondition : Type := ((Bool × Unit) × Unit)
noncomputable def res_ratchetbase_IsCondition : Res E (Bool × Unit) Unit := { rows := [], flat := [], keep := 0, done := [0], rl := (RdL.cons Rd.bool RdL.nil), rb := RdBL.nil }
noncomputable def run_ratchetbase_IsCondition : P_ratchetbase_IsCondition → Option R_ratchetbase_IsCondition
 | .start nodes0 i1 =>
   (run_ratchetbase_IsNode (.start nodes0 i1)) >>= fun t1 =>
   if t1.1.1 = true then
     (idx nodes0 i1) >>= fun t2 =>
     some ((t2.Width == (1 : Int), ()), ())
   else
     some ((false, ()), ())
noncomputable def tab_ratchetbase_IsCondition : List (Plc E P_ratchetbase_IsCondition) := []
theorem tab_ratchetbase_IsCondition_ok : All (PlcOk 16 0 place_ratchetbase_IsCondition st_ratchetbase_IsCondition) tab_ratchetbase_IsCondition := trivial
noncomputable def code_ratchetbase_IsCondition : Code := Tryz.f141.body.getD .skip
noncomputable def spec_ratchetbase_IsCondition : Spec E.S := (Con.add con_ratchetbase_IsNode noSpec)
theorem spec_ratchetbase_IsCondition_ok : SpecOk E spec_ratchetbase_IsCondition := (Con.add_ok con_ratchetbase_IsNode_ok noSpec_ok)
theorem good_ratchetbase_IsCondition : ∀ pt r, run_ratchetbase_IsCondition pt = some r → Good E Tryz.f141 code_ratchetbase_IsCondition 0 (res_ratchetbase_IsCondition.av r) (res_ratchetbase_IsCondition.bx r) (place_ratchetbase_IsCondition pt) (st_ratchetbase_IsCondition pt) := by
  intro pt r hr
  cases pt <;> exact fn_step (spec := spec_ratchetbase_IsCondition) (wr := (mkWr [] [])) (l := tab_ratchetbase_IsCondition) (z := 16) (p := res_ratchetbase_IsCondition) (run' := fun _ => none) E_ok tab_ratchetbase_IsCondition_ok.mem rfl spec_ratchetbase_IsCondition_ok (fun _ _ h => by cases h) (Eq.trans (by kernel_rfl) hr)
noncomputable def con_ratchetbase_IsCondition : Con E := ⟨141, ((List api_Node) × (Int × Unit)), Unit, (RwL.cons (Rw.sl 208) (RwL.cons (Rd.int .i64).w RwL.nil)), RdBL.nil, 0, R_ratchetbase_IsCondition, fun a b => run_ratchetbase_IsCondition (.start a.1 a.2.1), res_ratchetbase_IsCondition.av, res_ratchetbase_IsCondition.bx⟩
theorem con_ratchetbase_IsCondition_ok : con_ratchetbase_IsCondition.Ok := fun a b r h => fn_ok (fn := Tryz.f141) (code := code_ratchetbase_IsCondition) E_ok (by kernel_rfl) (by kernel_rfl) (by kernel_rfl) (Nat.le_of_ble_eq_true rfl) (good_ratchetbase_IsCondition (.start a.1 a.2.1) r h)

end Go.Proofs.YtjededkgblbamaaGreatDoor.Ev.F
