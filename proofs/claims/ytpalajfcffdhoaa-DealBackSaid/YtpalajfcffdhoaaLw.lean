/- Chapter 6: all contracts that the laws want, as names. -/
import Derived.Test.YtpalajfcffdhoaaDlQ
namespace Go.Proofs.Ytpalajfcffdhoaa
open Go Go.Eng Go.Deal
abbrev I4 := Int → Int → Int → Int → Int
structure D7 where
  n : N6
  ok : List Int → Bool
  m0 : List Int → Int
  m1 : List Int → Int
  m2 : List Int → Int
  m3 : List Int → Int
  u : Int → Int → Int → Int → Bool
  pb : Int → Int → Int → Int → Bool
  rg : Int → Int → Int → Int → Bool
  lf : I4
  le : I4
  wy : I4
  t0 : Int → I4
  t1 : Int → I4
  t2 : Int → I4
  t3 : Int → I4
  c0 : Int → Int → Int → Int → Int → Int
  c1 : Int → Int → Int → Int → Int → Int
  c2 : Int → Int → Int → Int → Int → Int
  c3 : Int → Int → Int → Int → Int → Int
  ce : Int → Int → Int → Int → Int → Int
  ix : Int → Int → Int → Int → I4
  ie : Int → Int → Int → Int → I4
  oi : Int → Int → Int → Int → Int → Int
  ob : Int → Int → Int → Int → Int → Bool
def q4b : List V → Option (Int × Int × Int × Int)
  | [.agg [.int .u64 a, .int .u64 b, .int .u64 c, .int .u64 d]] => some (a, b, c, d)
  | _ => none
section
variable (D : D7)
def hPar : List V → Option (Bool × V)
  | [.agg [.int .u64 a, .int .u64 b, .int .u64 c, .int .u64 d]] => some (D.u a b c d, .bool (D.pb a b c d))
  | _ => none
def hRig : List V → Option (Bool × V)
  | [.agg [.int .u64 a, .int .u64 b, .int .u64 c, .int .u64 d]] => some (D.u a b c d, .bool (D.rg a b c d))
  | _ => none
def hLef : List V → Option (Bool × V)
  | [.agg [.int .u64 a, .int .u64 b, .int .u64 c, .int .u64 d]] => some (D.u a b c d, .tuple [.int .u64 (D.lf a b c d), .int .i64 (D.le a b c d)])
  | _ => none
def hWay : List V → Option (Bool × V)
  | [.agg [.int .u64 a, .int .u64 b, .int .u64 c, .int .u64 d]] => some (D.u a b c d, .tuple [D.n.nW (D.wy a b c d), .int .i64 (D.le a b c d)])
  | _ => none
def hTur : List V → Option (Bool × V)
  | [.agg [.int .u64 a, .int .u64 b, .int .u64 c, .int .u64 d], .int .i64 k] => some (true, q4 (D.t0 k a b c d) (D.t1 k a b c d) (D.t2 k a b c d) (D.t3 k a b c d))
  | _ => none
def hCpl : List V → Option (Bool × V)
  | [.agg [.int .u64 a, .int .u64 b, .int .u64 c, .int .u64 d], .agg [.int .u32 e, .int .u32 f, .int .u32 g, .int .u32 h]] => some (D.u a b c d && D.n.inn e f g h,
      .tuple [q4 (D.c0 a b c d (D.n.z e f g h)) (D.c1 a b c d (D.n.z e f g h)) (D.c2 a b c d (D.n.z e f g h)) (D.c3 a b c d (D.n.z e f g h)), .int .i64 (D.ce a b c d (D.n.z e f g h))])
  | _ => none
def hIdx : List V → Option (Bool × V)
  | [.agg [.int .u64 a, .int .u64 b, .int .u64 c, .int .u64 d], .agg [.int .u64 x, .int .u64 y, .int .u64 z, .int .u64 w]] => some (D.u a b c d && D.u x y z w, .tuple [D.n.nW (D.ix a b c d x y z w), .int .i64 (D.ie a b c d x y z w)])
  | _ => none
def hOwn : List V → Option (Bool × V)
  | [.agg [.int .u64 a, .int .u64 b, .int .u64 c, .int .u64 d], .int .u8 k] => some (D.u a b c d && decide (0 ≤ k), .tuple [.int .u8 (D.oi a b c d k), .bool (D.ob a b c d k)])
  | _ => none
def hAwa : List V → Option (Bool × V)
  | [] => some (true, .bool true)
  | _ => none
def tab7 : PTab := addTab 14 (hPar D) (addTab 23 (hRig D) (addTab 13 (hLef D) (addTab 11 (hWay D) (addTab 10 (hTur D) (addTab 18 (hCpl D) (addTab 20 (hIdx D) (addTab 15 (hOwn D) (addTab 12 hAwa (tabN D.n)))))))))
def gDl : List V → List Blk → Option (Bool × V × List Blk)
  | [.gs 0], [.rs _ 1 (.ints .u8 ls)] => some (D.ok ls, q4 (D.m0 ls) (D.m1 ls) (D.m2 ls) (D.m3 ls), [])
  | _, _ => none
def hTab7 : HTab := addH 37 (gDl D) (hTabN D.n)
def dom7 : FuncId → Bool := fun f => Nat.beq f 48 || Nat.beq f 37
noncomputable abbrev orc7 : Oracle := inl Try.prog ftab (tab7 D) plainL 100 never dom7 (hOrcP nrN (hTab7 D)) 20
noncomputable abbrev law7 (f : FuncId) (fn : Func) (args : List V) (h : List Blk) : Option V := evalFn Try.prog (orc7 D) noLoops 100 f fn args h (fun v _ => some v)
end
noncomputable def okB (ls : List Int) : Bool := pB (okV ls)
noncomputable def d7 : D7 := ⟨n6, okB, m0, m1, m2, m3, in4, parB, rgB, lfI, leI, wyI, tu0, tu1, tu2, tu3, cp0, cp1, cp2, cp3, cpE, ixI, ixE, owI, owB⟩
theorem tab7_ok : PTabOk Try.prog (tab7 d7) := by
  refine addTab_ok ?_ (addTab_ok ?_ (addTab_ok ?_ (addTab_ok ?_ (addTab_ok ?_ (addTab_ok ?_ (addTab_ok ?_ (addTab_ok ?_ (addTab_ok ?_ tabN_ok))))))))
  · intro args c v h hc
    unfold hPar at h; split at h
    · cases h; exact par_p hc
    · cases h
  · intro args c v h hc
    unfold hRig at h; split at h
    · cases h; exact right_p hc
    · cases h
  · intro args c v h hc
    unfold hLef at h; split at h
    · cases h; exact left_p hc
    · cases h
  · intro args c v h hc
    unfold hWay at h; split at h
    · cases h; exact ways_p hc
    · cases h
  · intro args c v h hc
    unfold hTur at h; split at h
    · cases h; exact turn_p _ _ _ _ _
    · cases h
  · intro args c v h hc
    unfold hCpl at h; split at h
    · cases h; rw [Bool.and_eq_true] at hc; exact cpl_p hc.1 hc.2
    · cases h
  · intro args c v h hc
    unfold hIdx at h; split at h
    · cases h; rw [Bool.and_eq_true] at hc; exact idx_p hc.1 hc.2
    · cases h
  · intro args c v h hc
    unfold hOwn at h; split at h
    · cases h; rw [Bool.and_eq_true, decide_eq_true_eq] at hc; exact owner_p hc.1 hc.2
    · cases h
  · intro args c v h hc
    unfold hAwa at h; split at h
    · cases h; exact awake_p
    · cases h
theorem hTab7_ok : HTabOk Try.prog (hTab7 d7) := by
  refine addH_ok ?_ hTabN_ok
  intro args h c v nb hq hc
  unfold gDl at hq
  split at hq
  · cases hq
    exact ⟨.of Try.func37 (by kernel_rfl), dl_fn _ (pB_iff.1 hc)⟩
  · cases hq
theorem orc7_ok : OracleOk Try.prog (orc7 d7) := inl_ok (hOrcP_ok hTab7_ok) ftab_ok tab7_ok plainL_ok mixed 20
end Go.Proofs.Ytpalajfcffdhoaa
