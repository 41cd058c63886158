/- What the rows of this seat have in common: the listed variables, a world that fits. -/
import Derived.Test.YtcgkjbglijganaaDoorF2
import Derived.Test.YtcgkjbglijganaaDoorEvLaw
import Derived.Test.YtcgkjbglijganaaDoorCards
import Derived.Test.YtcgkjbglijganaaDoorTie
set_option linter.unusedVariables false
namespace Go.Proofs.YtcgkjbglijganaaDoor
open Go.Proofs.YtcgkjbglijganaaDoor.Ev Go.Proofs.YtcgkjbglijganaaDoor.Ev.F Go.RowKit

theorem own : ownKnob Tryd.prog.godebug = none := by kernel_rfl
/-- so many blocks has the settled world -/
noncomputable def low : Nat := (World.holding Tryd.prog default ⟨#[], #[], []⟩).heap.size
noncomputable def setRow (h : Array Obj) (g : Nat) (cs : Array Value) : Array Obj := h.modify g fun | .cells _ t frozen => .cells cs t frozen | o => o
/-- a world that fits: the listed variables as their initialisers lay them -/
noncomputable def laidWorld (os : Os) : World :=
  let w0 := World.holding Tryd.prog os ⟨#[.cells #[.string ⟨#[118, 97, 108, 117, 101, 32, 111, 117, 116, 32, 111, 102, 32, 114, 97, 110, 103, 101]⟩] 143, .cells #[.string ⟨#[105, 110, 118, 97, 108, 105, 100, 32, 115, 121, 110, 116, 97, 120]⟩] 143], #[], []⟩
  { w0 with heap := (setRow (setRow (setRow (setRow (setRow (setRow w0.heap 1 #[.int .u8 0, .int .u8 1, .int .u8 28, .int .u8 2, .int .u8 29, .int .u8 14, .int .u8 24, .int .u8 3, .int .u8 30, .int .u8 22, .int .u8 20, .int .u8 15, .int .u8 25, .int .u8 17, .int .u8 4, .int .u8 8, .int .u8 31, .int .u8 27, .int .u8 13, .int .u8 23, .int .u8 21, .int .u8 19, .int .u8 16, .int .u8 7, .int .u8 26, .int .u8 12, .int .u8 18, .int .u8 6, .int .u8 11, .int .u8 5, .int .u8 10, .int .u8 9]) 2 #[.int .u8 0, .int .u8 1, .int .u8 56, .int .u8 2, .int .u8 57, .int .u8 49, .int .u8 28, .int .u8 3, .int .u8 61, .int .u8 58, .int .u8 42, .int .u8 50, .int .u8 38, .int .u8 29, .int .u8 17, .int .u8 4, .int .u8 62, .int .u8 47, .int .u8 59, .int .u8 36, .int .u8 45, .int .u8 43, .int .u8 51, .int .u8 22, .int .u8 53, .int .u8 39, .int .u8 33, .int .u8 30, .int .u8 24, .int .u8 18, .int .u8 12, .int .u8 5, .int .u8 63, .int .u8 55, .int .u8 48, .int .u8 27, .int .u8 60, .int .u8 41, .int .u8 37, .int .u8 16, .int .u8 46, .int .u8 35, .int .u8 44, .int .u8 21, .int .u8 52, .int .u8 32, .int .u8 23, .int .u8 11, .int .u8 54, .int .u8 26, .int .u8 40, .int .u8 15, .int .u8 34, .int .u8 20, .int .u8 31, .int .u8 10, .int .u8 25, .int .u8 14, .int .u8 19, .int .u8 9, .int .u8 13, .int .u8 8, .int .u8 7, .int .u8 6]) 6 #[.int .u64 1, .int .u64 10, .int .u64 100, .int .u64 1000, .int .u64 10000, .int .u64 100000, .int .u64 1000000, .int .u64 10000000, .int .u64 100000000, .int .u64 1000000000, .int .u64 10000000000, .int .u64 100000000000, .int .u64 1000000000000, .int .u64 10000000000000, .int .u64 100000000000000, .int .u64 1000000000000000, .int .u64 10000000000000000, .int .u64 100000000000000000, .int .u64 1000000000000000000, .int .u64 10000000000000000000]) 5 #[.iface 141 (.pointer (some ⟨low + 0, 0, none⟩))]) 4 #[.iface 141 (.pointer (some ⟨low + 1, 0, none⟩))]) 0 #[.int .u8 0, .int .u8 0, .int .u8 98, .int .u8 0, .int .u8 0, .int .u8 0, .int .u8 0, .int .u8 0, .int .u8 0, .int .u8 0, .int .u8 100, .int .u8 0, .int .u8 0, .int .u8 0, .int .u8 0, .int .u8 0, .int .u8 104]) }
def laid : List (String × DataW Unit) := [("math/bits.deBruijn32tab", Rows.laid_math_bits_deBruijn32tab), ("math/bits.deBruijn64tab", Rows.laid_math_bits_deBruijn64tab), ("internal/strconv.uint64pow10", Rows.laid_internal_strconv_uint64pow10), ("strconv.ErrRange", Rows.laid_strconv_ErrRange), ("strconv.ErrSyntax", Rows.laid_strconv_ErrSyntax), ("ratchet/bits.letters", Rows.laid_ratchet_bits_letters)]
theorem laidWorld_met (os : Os) (args : Array Value) : laidMet Tryd.prog laid ((laidWorld os).forCall (fun _ _ => 0) ⟨#[], args, []⟩).memory := laidMet_of_run' 8 (by kernel_rfl) (by kernel_rfl)
theorem glob_rep {W : World} (h : laidMet Tryd.prog laid W) : ∀ g x, E.glob g = some x → Rep E W noG noL 0 x (.pointer (some ⟨g, 0, none⟩)) := by
  intro g x hx
  have hx : globs g = some x := hx
  unfold globs at hx
  split at hx
  · obtain rfl := Option.some.inj hx
    exact laid_ints (E := E) (e := 5) (l := glob0) (k := .u8) h (fun x => x) (name := "ratchet/bits.letters") (d := Rows.laid_ratchet_bits_letters) (.tail _ (.tail _ (.tail _ (.tail _ (.tail _ (.head _)))))) (by kernel_rfl) (by kernel_rfl) (by kernel_rfl) Tryd.underlying105 Tryd.underlying5 (by kernel_rfl) (by kernel_rfl) (fun _ => by kernel_rfl)
  · obtain rfl := Option.some.inj hx
    exact laid_ints (E := E) (e := 5) (l := glob1) (k := .u8) h (fun x => x) (name := "math/bits.deBruijn32tab") (d := Rows.laid_math_bits_deBruijn32tab) (.head _) (by kernel_rfl) (by kernel_rfl) (by kernel_rfl) Tryd.underlying117 Tryd.underlying5 (by kernel_rfl) (by kernel_rfl) (fun _ => by kernel_rfl)
  · obtain rfl := Option.some.inj hx
    exact laid_ints (E := E) (e := 5) (l := glob2) (k := .u8) h (fun x => x) (name := "math/bits.deBruijn64tab") (d := Rows.laid_math_bits_deBruijn64tab) (.tail _ (.head _)) (by kernel_rfl) (by kernel_rfl) (by kernel_rfl) Tryd.underlying118 Tryd.underlying5 (by kernel_rfl) (by kernel_rfl) (fun _ => by kernel_rfl)
  · obtain rfl := Option.some.inj hx
    exact laid_ints (E := E) (e := 112) (l := glob6) (k := .u64) h (fun x => x) (name := "internal/strconv.uint64pow10") (d := Rows.laid_internal_strconv_uint64pow10) (.tail _ (.tail _ (.head _))) (by kernel_rfl) (by kernel_rfl) (by kernel_rfl) Tryd.underlying144 Tryd.underlying112 (by kernel_rfl) (by kernel_rfl) (fun _ => by kernel_rfl)
  · cases hx
end Go.Proofs.YtcgkjbglijganaaDoor
