/- What the rows of this seat have in common: the listed variables, a world that fits. -/
import Derived.Test.YtcgkjbglijganaaGreatDoorF1
import Derived.Test.YtcgkjbglijganaaGreatDoorEvLaw
import Derived.Test.YtcgkjbglijganaaGreatDoorCards
import Derived.Test.YtcgkjbglijganaaGreatDoorTie
set_option linter.unusedVariables false
namespace Go.Proofs.YtcgkjbglijganaaGreatDoor
open Go.Proofs.YtcgkjbglijganaaGreatDoor.Ev Go.Proofs.YtcgkjbglijganaaGreatDoor.Ev.F Go.RowKit

theorem own : ownKnob Tryz.prog.godebug = none := by kernel_rfl
/-- so many blocks has the settled world -/
noncomputable def low : Nat := (World.holding Tryz.prog default ⟨#[], #[], []⟩).heap.size
noncomputable def setRow (h : Array Obj) (g : Nat) (cs : Array Value) : Array Obj := h.modify g fun | .cells _ t frozen => .cells cs t frozen | o => o
/-- a world that fits: the listed variables as their initialisers lay them -/
noncomputable def laidWorld (os : Os) : World :=
  let w0 := World.holding Tryz.prog os ⟨#[.cells #[.string ⟨#[118, 97, 108, 117, 101, 32, 111, 117, 116, 32, 111, 102, 32, 114, 97, 110, 103, 101]⟩] 130, .cells #[.string ⟨#[105, 110, 118, 97, 108, 105, 100, 32, 115, 121, 110, 116, 97, 120]⟩] 130], #[], []⟩
  { w0 with heap := (setRow (setRow (setRow (setRow (setRow (setRow w0.heap 5 #[.int .u8 0, .int .u8 1, .int .u8 28, .int .u8 2, .int .u8 29, .int .u8 14, .int .u8 24, .int .u8 3, .int .u8 30, .int .u8 22, .int .u8 20, .int .u8 15, .int .u8 25, .int .u8 17, .int .u8 4, .int .u8 8, .int .u8 31, .int .u8 27, .int .u8 13, .int .u8 23, .int .u8 21, .int .u8 19, .int .u8 16, .int .u8 7, .int .u8 26, .int .u8 12, .int .u8 18, .int .u8 6, .int .u8 11, .int .u8 5, .int .u8 10, .int .u8 9]) 6 #[.int .u8 0, .int .u8 1, .int .u8 56, .int .u8 2, .int .u8 57, .int .u8 49, .int .u8 28, .int .u8 3, .int .u8 61, .int .u8 58, .int .u8 42, .int .u8 50, .int .u8 38, .int .u8 29, .int .u8 17, .int .u8 4, .int .u8 62, .int .u8 47, .int .u8 59, .int .u8 36, .int .u8 45, .int .u8 43, .int .u8 51, .int .u8 22, .int .u8 53, .int .u8 39, .int .u8 33, .int .u8 30, .int .u8 24, .int .u8 18, .int .u8 12, .int .u8 5, .int .u8 63, .int .u8 55, .int .u8 48, .int .u8 27, .int .u8 60, .int .u8 41, .int .u8 37, .int .u8 16, .int .u8 46, .int .u8 35, .int .u8 44, .int .u8 21, .int .u8 52, .int .u8 32, .int .u8 23, .int .u8 11, .int .u8 54, .int .u8 26, .int .u8 40, .int .u8 15, .int .u8 34, .int .u8 20, .int .u8 31, .int .u8 10, .int .u8 25, .int .u8 14, .int .u8 19, .int .u8 9, .int .u8 13, .int .u8 8, .int .u8 7, .int .u8 6]) 1 #[.int .u64 1, .int .u64 10, .int .u64 100, .int .u64 1000, .int .u64 10000, .int .u64 100000, .int .u64 1000000, .int .u64 10000000, .int .u64 100000000, .int .u64 1000000000, .int .u64 10000000000, .int .u64 100000000000, .int .u64 1000000000000, .int .u64 10000000000000, .int .u64 100000000000000, .int .u64 1000000000000000, .int .u64 10000000000000000, .int .u64 100000000000000000, .int .u64 1000000000000000000, .int .u64 10000000000000000000]) 4 #[.iface 128 (.pointer (some ⟨low + 0, 0, none⟩))]) 3 #[.iface 128 (.pointer (some ⟨low + 1, 0, none⟩))]) 0 #[.int .u8 0, .int .u8 0, .int .u8 98, .int .u8 0, .int .u8 0, .int .u8 0, .int .u8 0, .int .u8 0, .int .u8 0, .int .u8 0, .int .u8 100, .int .u8 0, .int .u8 0, .int .u8 0, .int .u8 0, .int .u8 0, .int .u8 104]) }
def laid : List (String × DataW Unit) := [("math/bits.deBruijn32tab", Rows.laid_math_bits_deBruijn32tab), ("math/bits.deBruijn64tab", Rows.laid_math_bits_deBruijn64tab), ("internal/strconv.uint64pow10", Rows.laid_internal_strconv_uint64pow10), ("strconv.ErrRange", Rows.laid_strconv_ErrRange), ("strconv.ErrSyntax", Rows.laid_strconv_ErrSyntax), ("ratchet/bits.letters", Rows.laid_ratchet_bits_letters)]
theorem laidWorld_met (os : Os) (args : Array Value) : laidMet Tryz.prog laid ((laidWorld os).forCall (fun _ _ => 0) ⟨#[], args, []⟩).memory := laidMet_of_run' 8 (by kernel_rfl) (by kernel_rfl)
theorem glob_rep {W : World} (h : laidMet Tryz.prog laid W) : ∀ g x, E.glob g = some x → Rep E W noG noL 0 x (.pointer (some ⟨g, 0, none⟩)) := by
  intro g x hx
  have hx : globs g = some x := hx
  unfold globs at hx
  split at hx
  · obtain rfl := Option.some.inj hx
    exact laid_ints (E := E) (e := 5) (l := glob0) (k := .u8) h (fun x => x) (name := "ratchet/bits.letters") (d := Rows.laid_ratchet_bits_letters) (.tail _ (.tail _ (.tail _ (.tail _ (.tail _ (.head _)))))) (by kernel_rfl) (by kernel_rfl) (by kernel_rfl) Tryz.underlying53 Tryz.underlying5 (by kernel_rfl) (by kernel_rfl) (fun _ => by kernel_rfl)
  · obtain rfl := Option.some.inj hx
    exact laid_ints (E := E) (e := 95) (l := glob1) (k := .u64) h (fun x => x) (name := "internal/strconv.uint64pow10") (d := Rows.laid_internal_strconv_uint64pow10) (.tail _ (.tail _ (.head _))) (by kernel_rfl) (by kernel_rfl) (by kernel_rfl) Tryz.underlying113 Tryz.underlying95 (by kernel_rfl) (by kernel_rfl) (fun _ => by kernel_rfl)
  · obtain rfl := Option.some.inj hx
    exact laid_ints (E := E) (e := 5) (l := glob5) (k := .u8) h (fun x => x) (name := "math/bits.deBruijn32tab") (d := Rows.laid_math_bits_deBruijn32tab) (.head _) (by kernel_rfl) (by kernel_rfl) (by kernel_rfl) Tryz.underlying131 Tryz.underlying5 (by kernel_rfl) (by kernel_rfl) (fun _ => by kernel_rfl)
  · obtain rfl := Option.some.inj hx
    exact laid_ints (E := E) (e := 5) (l := glob6) (k := .u8) h (fun x => x) (name := "math/bits.deBruijn64tab") (d := Rows.laid_math_bits_deBruijn64tab) (.tail _ (.head _)) (by kernel_rfl) (by kernel_rfl) (by kernel_rfl) Tryz.underlying132 Tryz.underlying5 (by kernel_rfl) (by kernel_rfl) (fun _ => by kernel_rfl)
  · obtain rfl := Option.some.inj hx
    exact laid_err (E := E) (e := 57) (x := (true : Bool)) h (name := "strconv.ErrSyntax") (d := Rows.laid_strconv_ErrSyntax) (.tail _ (.tail _ (.tail _ (.tail _ (.head _))))) rfl (by kernel_rfl) (by kernel_rfl) Tryz.underlying57 (by kernel_rfl)
  · obtain rfl := Option.some.inj hx
    exact laid_err (E := E) (e := 57) (x := (true : Bool)) h (name := "strconv.ErrRange") (d := Rows.laid_strconv_ErrRange) (.tail _ (.tail _ (.tail _ (.head _)))) rfl (by kernel_rfl) (by kernel_rfl) Tryz.underlying57 (by kernel_rfl)
  · cases hx
theorem held_ok {W : World} (h : laidMet Tryz.prog laid W) : Held E W noG := by
  intro g nm cs hx
  have hx : held g = some (nm, cs) := hx
  unfold held at hx
  split at hx
  · obtain ⟨rfl, rfl⟩ := Prod.mk.inj (Option.some.inj hx)
    exact ⟨by kernel_rfl, laid_tab (k := .u64) (zs := Go.Lib.pow10Tab) (d := Rows.laid_internal_strconv_uint64pow10) h (.tail _ (.tail _ (.head _))) rfl (g := 1) (t := 113) (e := 95) (n := 20) (by kernel_rfl) (by kernel_rfl) Tryz.underlying113 Tryz.underlying95 (by kernel_rfl) (by kernel_rfl), rfl⟩
  · cases hx
end Go.Proofs.YtcgkjbglijganaaGreatDoor
