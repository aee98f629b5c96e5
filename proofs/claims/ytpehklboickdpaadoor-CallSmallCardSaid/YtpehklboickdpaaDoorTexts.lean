/- Chapter 8: the strings of the calls. -/
import Derived.Test.YtpehklboickdpaaDoorBase
namespace Go.Proofs.YtpehklboickdpaaDoor
open Go Go.Eng
def textsL : List ByteArray := [⟨#[80]⟩, ⟨#[88]⟩, ⟨#[88, 88]⟩, ⟨#[49, 67]⟩, ⟨#[49, 68]⟩, ⟨#[49, 72]⟩, ⟨#[49, 83]⟩, ⟨#[49, 78, 84]⟩, ⟨#[50, 67]⟩, ⟨#[50, 68]⟩, ⟨#[50, 72]⟩, ⟨#[50, 83]⟩, ⟨#[50, 78, 84]⟩, ⟨#[51, 67]⟩, ⟨#[51, 68]⟩, ⟨#[51, 72]⟩, ⟨#[51, 83]⟩, ⟨#[51, 78, 84]⟩, ⟨#[52, 67]⟩, ⟨#[52, 68]⟩, ⟨#[52, 72]⟩, ⟨#[52, 83]⟩, ⟨#[52, 78, 84]⟩, ⟨#[53, 67]⟩, ⟨#[53, 68]⟩, ⟨#[53, 72]⟩, ⟨#[53, 83]⟩, ⟨#[53, 78, 84]⟩, ⟨#[54, 67]⟩, ⟨#[54, 68]⟩, ⟨#[54, 72]⟩, ⟨#[54, 83]⟩, ⟨#[54, 78, 84]⟩, ⟨#[55, 67]⟩, ⟨#[55, 68]⟩, ⟨#[55, 72]⟩, ⟨#[55, 83]⟩, ⟨#[55, 78, 84]⟩]
def gH : List Blk := [.glob 0 (.strs textsL)]
noncomputable abbrev evalG (T : PTab) (LL : FuncId → Loops) (f : FuncId) (fn : Func) (args : List V) : Option V := evalFn Tryd.prog (orcS T LL) (LL f) 100 f fn args gH (fun v _ => some v)
end Go.Proofs.YtpehklboickdpaaDoor
