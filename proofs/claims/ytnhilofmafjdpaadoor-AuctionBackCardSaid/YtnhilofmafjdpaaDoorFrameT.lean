/- Chapter 9: the rows that list three tables. -/
import Derived.Test.YtnhilofmafjdpaaDoorFrameN
namespace Go.Proofs.YtnhilofmafjdpaaDoor
open Go Go.Eng Go.ChangeShapes Go.WideShapes Go.ChangeAt Go.RowKit
def laidL3 : List (String × DataW Unit) := [("unicode/utf8.acceptRanges", Rows.laid_unicode_utf8_acceptRanges), ("finesse/call.texts", Rows.laid_finesse_call_texts), ("unicode/utf8.first", Rows.laid_unicode_utf8_first)]
theorem texts_of3 {W : World} (h : laidMetH Tryd.prog laidL3 W) : TextsAt W := by
  rw [MakeChecks.laidMetH_plain _ _ _ (by kernel_rfl)] at h
  obtain ⟨ps, ⟨_, _, _, _, _, _, _, _, _, _, ⟨g0, t0, cs0, f0, p0, q0, hg0, ht0, hv0, hd0, _, _⟩, _⟩, _, _⟩ := h
  obtain rfl := Option.some.inj (gTexts.symm.trans hg0)
  obtain rfl := Option.some.inj (tTexts.symm.trans ht0)
  intro i x hx
  rw [World.var?_cell hg0 hv0 i]
  have := laid_strs Tryd.underlying106 Tryd.underlying9 cells9 hd0 texts_datum i x.data.toList (by rw [textsB, List.getElem?_map, hx]; rfl)
  simpa using this
end Go.Proofs.YtnhilofmafjdpaaDoor
