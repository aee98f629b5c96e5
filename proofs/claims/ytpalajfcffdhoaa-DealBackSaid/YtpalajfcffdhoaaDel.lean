/- Chapter 6: the package's own functions, over names. -/
import Derived.Test.YtpalajfcffdhoaaPar
namespace Go.Proofs.Ytpalajfcffdhoaa
open Go Go.Eng Go.Deal
structure D6 where
  n : N6
  pb : Int → Int → Int → Int → Bool
  o0 : Int → Int → Int → Int → Int
  o1 : Int → Int → Int → Int → Int
  o2 : Int → Int → Int → Int → Int
  sb : Int → Int → Int → Int
  sbk : Int → Int → Int → Bool
  od : Int → Int → Int
  odk : Int → Int → Bool
def D6.u4 (D : D6) (a b c d : Int) : Bool := D.n.u a && D.n.u b && D.n.u c && D.n.u d
def gPar (D : D6) : List V → Option (Bool × V)
  | [.agg [.int .u64 a, .int .u64 b, .int .u64 c, .int .u64 d]] => some (D.u4 a b c d, .bool (D.pb a b c d))
  | _ => none
def gOth (D : D6) : List V → Option (Bool × V)
  | [.agg [.int .u64 a, .int .u64 b, .int .u64 c, .int .u64 d]] => some (D.u4 a b c d && D.pb a b c d,
    .agg [.int .u32 (D.n.w0 (D.o0 a b c d)), .int .u32 (D.n.w1 (D.o0 a b c d)), .int .u32 (D.n.w2 (D.o0 a b c d)), .int .u32 (D.n.w3 (D.o0 a b c d)), .int .u32 (D.n.w0 (D.o1 a b c d)), .int .u32 (D.n.w1 (D.o1 a b c d)), .int .u32 (D.n.w2 (D.o1 a b c d)), .int .u32 (D.n.w3 (D.o1 a b c d)),
      .int .u32 (D.n.w0 (D.o2 a b c d)), .int .u32 (D.n.w1 (D.o2 a b c d)), .int .u32 (D.n.w2 (D.o2 a b c d)), .int .u32 (D.n.w3 (D.o2 a b c d)), .int .u32 1, .int .u32 0, .int .u32 0, .int .u32 0, .int .u32 1, .int .u32 0, .int .u32 0, .int .u32 0])
  | _ => none
def gSub (D : D6) : List V → Option (Bool × V)
  | [.int .u64 m, .int .i64 k, .agg [.int .u32 a, .int .u32 b, .int .u32 c, .int .u32 d]] => some (D.n.inn a b c d && D.sbk m k (D.n.z a b c d), .int .u64 (D.sb m k (D.n.z a b c d)))
  | _ => none
def gOrd (D : D6) : List V → Option (Bool × V)
  | [.int .u64 m, .int .u64 g] => some (D.odk m g, D.n.nW (D.od m g))
  | _ => none
/-- How many cards a hand lacks. -/
def gLk (D : D6) : List V → Option (Bool × V)
  | [.int .u64 x] => some (D.n.u x, .int .i64 (nd1 D.n x))
  | _ => none
theorem lk_eval (N : N6) (x : Int) : evalFn Try.prog (orcN N (tabN N) plainL) noLoops 100 40 Try.f40 [.int .u64 x] [] (fun v _ => some v) = bif N.u x then some (.int .i64 (nd1 N x)) else none := by kernel_rfl
def tabE (D : D6) : PTab := addTab 40 (gLk D) (addTab 14 (gPar D) (addTab 29 (gOth D) (addTab 39 (gSub D) (addTab 49 (gOrd D) (tabN D.n)))))
noncomputable abbrev orcE (D : D6) (LL : FuncId → Loops) : Oracle := orcN D.n (tabE D) LL
noncomputable def d6 : D6 := ⟨n6, parB, o0, o1, o2, g6, sbOk, og6, odOk⟩
theorem tabE_ok : PTabOk Try.prog (tabE d6) := by
  refine addTab_ok ?_ (addTab_ok ?_ (addTab_ok ?_ (addTab_ok ?_ (addTab_ok ?_ tabN_ok))))
  · intro args c v h hc
    unfold gLk at h
    split at h
    · cases h
      refine fnPure_of_eval (N := 100) (orcN_ok tabN_ok plainL_ok) mixed Try.func40 (by kernel_rfl) noLoops_ok ?_ rfl rfl
      rw [lk_eval]
      exact congrArg (fun b => bif b then _ else none) hc
    · cases h
  · intro args c v h hc
    unfold gPar at h
    split at h
    · cases h; exact par_p hc
    · cases h
  · intro args c v h hc
    unfold gOth at h
    split at h
    · cases h; rw [Bool.and_eq_true] at hc; exact oth_p hc.1 hc.2
    · cases h
  · intro args c v h hc
    unfold gSub at h
    split at h
    · cases h; rw [Bool.and_eq_true] at hc; exact sub_p hc.1 hc.2
    · cases h
  · intro args c v h hc
    unfold gOrd at h
    split at h
    · cases h; exact ord_p hc
    · cases h
theorem orcE_ok {LL : FuncId → Loops} (hL : ∀ f, loopsOk Try.prog (LL f)) : OracleOk Try.prog (orcE d6 LL) := orcN_ok tabE_ok hL
noncomputable abbrev evE (D : D6) (f : FuncId) (fn : Func) (args : List V) : Option V := evalFn Try.prog (orcE D plainL) noLoops 100 f fn args [] (fun v _ => some v)
def q4 (a b c d : Int) : V := .agg [.int .u64 a, .int .u64 b, .int .u64 c, .int .u64 d]
end Go.Proofs.Ytpalajfcffdhoaa
