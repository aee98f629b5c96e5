/- Chapter 8: one round of the reference's loops. -/
import Derived.Test.YtpehklboickdpaaDoorRef
namespace Go.Proofs.YtpehklboickdpaaDoor
open Go Go.Eng
def inR (c : Int) : Bool := decide (0 ≤ c ∧ c < 256)
def gRParts : List V → Option (Bool × V)
  | [.int .u8 c] => some (inR c, .tuple [.int .u8 (pl c), .int .u8 (pd c), .bool (isB c)])
  | _ => none
def gRText : List V → Option (Bool × V)
  | [.int .u8 c] => some (inR c, .tuple [.str (rtx c), .int .i64 (txE c)])
  | _ => none
def tabR : PTab := addTab 34 gRText (addTab 33 gRParts tabJ)
theorem tabR_ok : PTabOk Tryd.prog tabR := by
  refine addTab_ok ?_ (addTab_ok ?_ tabJ_ok)
  · intro args c v h hc
    unfold gRText at h
    split at h
    · cases h
      simp only [inR, decide_eq_true_eq] at hc
      exact ref_text hc.1 hc.2
    · cases h
  · intro args c v h hc
    unfold gRParts at h
    split at h
    · cases h
      simp only [inR, decide_eq_true_eq] at hc
      exact ref_parts hc.1 hc.2
    · cases h
noncomputable abbrev orcR : Oracle := orcS tabR plainL
theorem orcR_ok : OracleOk Tryd.prog orcR := orcS_ok tabR_ok plainL_ok
/-! ### Bid -/
noncomputable def rbLp : Code := loopOf 2 Tryd.f32
def rbT : Tm := ⟨mkS [(0, .int .u8), (1, .int .u8), (4, .int .u8), (5, .int .i64), (6, .int .u8)] 0 29, [], []⟩
def rbX : Tm := ⟨mkS [(0, .int .u8), (1, .int .u8), (4, .int .u8), (5, .int .i64)] 0 29, [], []⟩
theorem rb_round (rd : Option Nat) (l d r e c : Int) : roundT Tryd.prog orcR noLoops 100 0 rd 32 rbLp rbT rbX [.i l, .i d, .i r, .i e, .i c] =
    bif decide (c < 38) then cond (inR c) (bif decide (pl c = l) then bif decide (pd c = d) then some (.ret, [.i l, .i d, .i c, .i 0], []) else some (.normal, [.i l, .i d, .i r, .i e, .i (wr .u8 (c + 1))], [])
      else some (.normal, [.i l, .i d, .i r, .i e, .i (wr .u8 (c + 1))], [])) none else some (.exit 0, [.i l, .i d, .i r, .i e], []) := by kernel_rfl
/-! ### Cheapest -/
noncomputable def rcLp : Code := loopOf 6 Tryd.f35
def rcT : Tm := ⟨mkS [(0, .int .u8), (1, .int .u8), (4, .int .u8), (5, .int .i64), (6, .int .u8)] 0 34, [], []⟩
def rcX : Tm := ⟨mkS [(0, .int .u8), (1, .int .u8), (4, .int .u8), (5, .int .i64)] 0 34, [], []⟩
theorem rc_round (rd : Option Nat) (o d r e c : Int) : roundT Tryd.prog orcR noLoops 100 0 rd 35 rcLp rcT rcX [.i o, .i d, .i r, .i e, .i c] =
    bif decide (c < 38) then cond (inR c) (bif decide (pd c = d) then bif decide (o < c) then some (.ret, [.i o, .i d, .i c, .i 0], []) else some (.normal, [.i o, .i d, .i r, .i e, .i (wr .u8 (c + 1))], [])
      else some (.normal, [.i o, .i d, .i r, .i e, .i (wr .u8 (c + 1))], [])) none else some (.exit 0, [.i o, .i d, .i r, .i e], []) := by kernel_rfl
/-! ### Jump -/
noncomputable def rjLp : Code := loopOf 8 Tryd.f36
def rjT : Tm := ⟨mkS [(0, .int .u8), (1, .int .u8), (4, .int .i64), (5, .int .i64), (7, .int .u8), (9, .int .i64), (10, .int .u8)] 0 52, [], []⟩
def rjX : Tm := ⟨mkS [(0, .int .u8), (1, .int .u8), (4, .int .i64), (5, .int .i64), (9, .int .i64)] 0 52, [], []⟩
theorem rj_round (rd : Option Nat) (o b r e d n c : Int) : roundT Tryd.prog orcR noLoops 100 0 rd 36 rjLp rjT rjX [.i o, .i b, .i r, .i e, .i d, .i n, .i c] =
    bif decide (c < b) then cond (inR c) (bif decide (pd c = d) then bif decide (o < c) then some (.normal, [.i o, .i b, .i r, .i e, .i d, .i (wr .i64 (n + 1)), .i (wr .u8 (c + 1))], []) else some (.normal, [.i o, .i b, .i r, .i e, .i d, .i n, .i (wr .u8 (c + 1))], [])
      else some (.normal, [.i o, .i b, .i r, .i e, .i d, .i n, .i (wr .u8 (c + 1))], [])) none else some (.exit 0, [.i o, .i b, .i r, .i e, .i n], []) := by kernel_rfl
end Go.Proofs.YtpehklboickdpaaDoor
