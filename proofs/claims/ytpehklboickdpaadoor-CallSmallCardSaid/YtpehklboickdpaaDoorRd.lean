/- Chapter 8: Read, for every string. -/
import Derived.Test.YtpehklboickdpaaDoorWords
import Derived.Test.YtpehklboickdpaaDoorAwake
import Derived.Test.YtpehklboickdpaaDoorEng4
namespace Go.Proofs.YtpehklboickdpaaDoor
open Go Go.Eng
def rdGo : List ByteArray → Nat → ByteArray → Option V
  | [], _, _ => some (.tuple [.int .u8 0, .int .i64 81])
  | t :: r, k, s => bif strEq t s then some (.tuple [.int .u8 (k : Int), .int .i64 0]) else rdGo r (k + 1) s
theorem read_eval (s : ByteArray) : evalG tabS plainL 20 Tryd.f20 [.str s] = rdGo textsL 0 s := by kernel_rfl
/-- The call with a text. -/
def rdF : List ByteArray → Nat → ByteArray → Option Nat
  | [], _, _ => none
  | t :: r, k, s => bif strEq t s then some k else rdF r (k + 1) s
def rdC (s : ByteArray) : Int := match rdF textsL 0 s with
  | some k => (k : Int)
  | none => 0
def rdE (s : ByteArray) : Int := match rdF textsL 0 s with
  | some _ => 0
  | none => 81
theorem rdGo_eq : ∀ (l : List ByteArray) (k : Nat) (s : ByteArray), rdGo l k s = some (.tuple [.int .u8 (match rdF l k s with | some k => (k : Int) | none => 0), .int .i64 (match rdF l k s with | some _ => 0 | none => 81)])
  | [], _, _ => rfl
  | t :: r, k, s => by
    unfold rdGo rdF
    cases strEq t s with
    | true => rfl
    | false => exact rdGo_eq r (k + 1) s
theorem gH_ro : ∀ (b : Nat) blk, gH[b]? = some blk → blk.mine = false := by
  intro b blk hb
  match b, hb with
  | 0, hb => cases hb; rfl
  | _ + 1, hb => simp [gH] at hb
theorem read_fn (s : ByteArray) : FnOK Tryd.prog 20 [.str s] gH (.tuple [.int .u8 (rdC s), .int .i64 (rdE s)]) gH := by
  have key : evalG tabS plainL 20 Tryd.f20 [.str s] = some (.tuple [.int .u8 (rdC s), .int .i64 (rdE s)]) := by rw [read_eval, rdGo_eq]; rfl
  obtain ⟨v1, h1, hk, hok⟩ := evalFn_ok (orcS_ok tabS_ok plainL_ok) mixed Tryd.func20 noLoops_ok key
  cases hk
  exact hok.plain rfl gH_ro
end Go.Proofs.YtpehklboickdpaaDoor
