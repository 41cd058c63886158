/- What the rows of this seat have in common: the listed variables, a world that fits. -/
import Derived.Test.YtaennkkcnhfglaaGreatDoorSF1
import Derived.Test.YtaennkkcnhfglaaGreatDoorSEvLaid
import Derived.Test.YtaennkkcnhfglaaGreatDoorSFR
import Derived.Test.YtaennkkcnhfglaaGreatDoorCards
import Derived.Test.YtaennkkcnhfglaaGreatDoorTie
set_option linter.unusedVariables false
namespace Go.Proofs.YtaennkkcnhfglaaGreatDoor
open Go.Proofs.YtaennkkcnhfglaaGreatDoor.Ev Go.Proofs.YtaennkkcnhfglaaGreatDoor.Ev.F Go.RowKit
noncomputable section

theorem own : ownKnob Tryz.prog.godebug = none := by kernel_rfl
/-- so many blocks has the settled world -/
def low : Nat := (World.holding Tryz.prog default ⟨#[], #[], []⟩).heap.size
def u42 (h : Array Obj) (g : Nat) (cs : Array Value) : Array Obj := h.modify g fun | .cells _ t frozen => .cells cs t frozen | o => o
/-- a world that fits: the listed variables as their initialisers lay them -/
def u21 (os : Os) : World :=
  let w0 := World.holding Tryz.prog os ⟨#[.cells #[.string ⟨#[118, 97, 108, 117, 101, 32, 111, 117, 116, 32, 111, 102, 32, 114, 97, 110, 103, 101]⟩] 236, .cells #[.string ⟨#[105, 110, 118, 97, 108, 105, 100, 32, 115, 121, 110, 116, 97, 120]⟩] 236], #[], []⟩
  { w0 with heap := (u42 (u42 (u42 (u42 (u42 w0.heap 4 #[.int .u8 0, .int .u8 1, .int .u8 28, .int .u8 2, .int .u8 29, .int .u8 14, .int .u8 24, .int .u8 3, .int .u8 30, .int .u8 22, .int .u8 20, .int .u8 15, .int .u8 25, .int .u8 17, .int .u8 4, .int .u8 8, .int .u8 31, .int .u8 27, .int .u8 13, .int .u8 23, .int .u8 21, .int .u8 19, .int .u8 16, .int .u8 7, .int .u8 26, .int .u8 12, .int .u8 18, .int .u8 6, .int .u8 11, .int .u8 5, .int .u8 10, .int .u8 9]) 5 #[.int .u8 0, .int .u8 1, .int .u8 56, .int .u8 2, .int .u8 57, .int .u8 49, .int .u8 28, .int .u8 3, .int .u8 61, .int .u8 58, .int .u8 42, .int .u8 50, .int .u8 38, .int .u8 29, .int .u8 17, .int .u8 4, .int .u8 62, .int .u8 47, .int .u8 59, .int .u8 36, .int .u8 45, .int .u8 43, .int .u8 51, .int .u8 22, .int .u8 53, .int .u8 39, .int .u8 33, .int .u8 30, .int .u8 24, .int .u8 18, .int .u8 12, .int .u8 5, .int .u8 63, .int .u8 55, .int .u8 48, .int .u8 27, .int .u8 60, .int .u8 41, .int .u8 37, .int .u8 16, .int .u8 46, .int .u8 35, .int .u8 44, .int .u8 21, .int .u8 52, .int .u8 32, .int .u8 23, .int .u8 11, .int .u8 54, .int .u8 26, .int .u8 40, .int .u8 15, .int .u8 34, .int .u8 20, .int .u8 31, .int .u8 10, .int .u8 25, .int .u8 14, .int .u8 19, .int .u8 9, .int .u8 13, .int .u8 8, .int .u8 7, .int .u8 6]) 3 #[.int .u64 1, .int .u64 10, .int .u64 100, .int .u64 1000, .int .u64 10000, .int .u64 100000, .int .u64 1000000, .int .u64 10000000, .int .u64 100000000, .int .u64 1000000000, .int .u64 10000000000, .int .u64 100000000000, .int .u64 1000000000000, .int .u64 10000000000000, .int .u64 100000000000000, .int .u64 1000000000000000, .int .u64 10000000000000000, .int .u64 100000000000000000, .int .u64 1000000000000000000, .int .u64 10000000000000000000]) 2 #[.iface 234 (.pointer (some ⟨low + 0, 0, none⟩))]) 1 #[.iface 234 (.pointer (some ⟨low + 1, 0, none⟩))]) }
def laid : List (String × DataW Unit) := [("math/bits.deBruijn32tab", Rows.laid_math_bits_deBruijn32tab), ("math/bits.deBruijn64tab", Rows.laid_math_bits_deBruijn64tab), ("internal/strconv.uint64pow10", Rows.laid_internal_strconv_uint64pow10), ("strconv.ErrRange", Rows.laid_strconv_ErrRange), ("strconv.ErrSyntax", Rows.laid_strconv_ErrSyntax)]
theorem uU5 (os : Os) (args : Array Value) : laidMet Tryz.prog laid ((u21 os).forCall (fun _ _ => 0) ⟨#[], args, []⟩).memory := laidMet_of_run' 8 (by kernel_rfl) (by kernel_rfl)
set_option maxRecDepth 100000 in
theorem vD2 {W : World} (h : laidMet Tryz.prog laid W) : ∀ g x, E.glob g = some x → Rep E W noG noL 0 x (.pointer (some ⟨g, 0, none⟩)) := by
  intro g x hx
  have hx : vq9 g = some x := hx
  unfold vq9 at hx
  split at hx
  · obtain rfl := Option.some.inj hx
    exact uL2 (E := E) (e := 188) (l := vX6) (k := .u64) h (fun x => x) (name := "internal/strconv.uint64pow10") (d := Rows.laid_internal_strconv_uint64pow10) (.tail _ (.tail _ (.head _))) (by kernel_rfl) (by kernel_rfl) (by kernel_rfl) Tryz.underlying238 Tryz.underlying188 (by kernel_rfl) (by kernel_rfl) (fun _ => by kernel_rfl)
  · obtain rfl := Option.some.inj hx
    exact uL2 (E := E) (e := 5) (l := vX7) (k := .u8) h (fun x => x) (name := "math/bits.deBruijn32tab") (d := Rows.laid_math_bits_deBruijn32tab) (.head _) (by kernel_rfl) (by kernel_rfl) (by kernel_rfl) Tryz.underlying240 Tryz.underlying5 (by kernel_rfl) (by kernel_rfl) (fun _ => by kernel_rfl)
  · obtain rfl := Option.some.inj hx
    exact uL2 (E := E) (e := 5) (l := vX8) (k := .u8) h (fun x => x) (name := "math/bits.deBruijn64tab") (d := Rows.laid_math_bits_deBruijn64tab) (.tail _ (.head _)) (by kernel_rfl) (by kernel_rfl) (by kernel_rfl) Tryz.underlying241 Tryz.underlying5 (by kernel_rfl) (by kernel_rfl) (fun _ => by kernel_rfl)
  · obtain rfl := Option.some.inj hx
    exact vf3 (E := E) (e := 168) (x := (true : Bool)) h (name := "strconv.ErrSyntax") (d := Rows.laid_strconv_ErrSyntax) (.tail _ (.tail _ (.tail _ (.tail _ (.head _))))) rfl (by kernel_rfl) (by kernel_rfl) Tryz.underlying168 (by kernel_rfl)
  · obtain rfl := Option.some.inj hx
    exact vf3 (E := E) (e := 168) (x := (true : Bool)) h (name := "strconv.ErrRange") (d := Rows.laid_strconv_ErrRange) (.tail _ (.tail _ (.tail _ (.head _)))) rfl (by kernel_rfl) (by kernel_rfl) Tryz.underlying168 (by kernel_rfl)
  · cases hx
theorem vP4 {W : World} (h : laidMet Tryz.prog laid W) : Held E W noG := by
  intro g nm cs hx
  have hx : held g = some (nm, cs) := hx
  unfold held at hx
  split at hx
  · obtain ⟨rfl, rfl⟩ := Prod.mk.inj (Option.some.inj hx)
    exact ⟨by kernel_rfl, vD6 (k := .u64) (zs := Go.Lib.pow10Tab) (d := Rows.laid_internal_strconv_uint64pow10) h (.tail _ (.tail _ (.head _))) rfl (g := 3) (t := 238) (e := 188) (n := 20) (by kernel_rfl) (by kernel_rfl) Tryz.underlying238 Tryz.underlying188 (by kernel_rfl) (by kernel_rfl), rfl⟩
  · cases hx
end
end Go.Proofs.YtaennkkcnhfglaaGreatDoor
