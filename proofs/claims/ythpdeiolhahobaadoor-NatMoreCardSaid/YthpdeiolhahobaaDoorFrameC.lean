/- Chapter 2: the row's tables (the law looks at none). -/
import Derived.Test.YthpdeiolhahobaaDoorW
import Derived.Test.YthpdeiolhahobaaDoorEng3
namespace Go.Proofs.YthpdeiolhahobaaDoor
open Go Go.Eng
theorem u8_range {a : Int} (w : (Lit.int .u8 a).wf = true) : 0 ≤ a ∧ a < 256 := by
  simp only [Lit.wf, IntKind.min, IntKind.max, IntKind.signed, IntKind.bits, Bool.and_eq_true] at w
  simp at w
  omega
theorem u32_range {a : Int} (w : (Lit.int .u32 a).wf = true) : 0 ≤ a ∧ a < 4294967296 := by
  simp only [Lit.wf, IntKind.min, IntKind.max, IntKind.signed, IntKind.bits, Bool.and_eq_true] at w
  simp at w
  omega
theorem nat_range {a b c d : Int} (h0 : (Lit.int .u32 a).wf = true) (h1 : (Lit.int .u32 b).wf = true) (h2 : (Lit.int .u32 c).wf = true) (h3 : (Lit.int .u32 d).wf = true) : inN a b c d = true :=
  inN_iff.2 ⟨u32_range h0, u32_range h1, u32_range h2, u32_range h3⟩
def laidL : List (String × DataW Unit) := [("unicode/utf8.acceptRanges", Rows.laid_unicode_utf8_acceptRanges), ("unicode/utf8.first", Rows.laid_unicode_utf8_first)]
theorem own : ownKnob Tryd.prog.godebug = none := by kernel_rfl
end Go.Proofs.YthpdeiolhahobaaDoor
