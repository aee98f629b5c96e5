/- Texts merged: Lw, TuT, TuL. -/
import Derived.Test.YtpalajfcffdhoaaDlQ
/- Chapter 6: all contracts that the laws want, as names. -/
namespace Go.Proofs.Ytpalajfcffdhoaa
open Go Go.Eng Go.Deal
abbrev I4 := Int → Int → Int → Int → Int
structure D7 where
  n : N6
  ok : List Int → Bool
  m0 : List Int → Int
  m1 : List Int → Int
  m2 : List Int → Int
  m3 : List Int → Int
  u : Int → Int → Int → Int → Bool
  pb : Int → Int → Int → Int → Bool
  rg : Int → Int → Int → Int → Bool
  lf : I4
  le : I4
  wy : I4
  t0 : Int → I4
  t1 : Int → I4
  t2 : Int → I4
  t3 : Int → I4
  c0 : Int → Int → Int → Int → Int → Int
  c1 : Int → Int → Int → Int → Int → Int
  c2 : Int → Int → Int → Int → Int → Int
  c3 : Int → Int → Int → Int → Int → Int
  ce : Int → Int → Int → Int → Int → Int
  ix : Int → Int → Int → Int → I4
  ie : Int → Int → Int → Int → I4
  oi : Int → Int → Int → Int → Int → Int
  ob : Int → Int → Int → Int → Int → Bool
def q4b : List V → Option (Int × Int × Int × Int)
  | [.agg [.int .u64 a, .int .u64 b, .int .u64 c, .int .u64 d]] => some (a, b, c, d)
  | _ => none
section
variable (D : D7)
def hPar : List V → Option (Bool × V)
  | [.agg [.int .u64 a, .int .u64 b, .int .u64 c, .int .u64 d]] => some (D.u a b c d, .bool (D.pb a b c d))
  | _ => none
def hRig : List V → Option (Bool × V)
  | [.agg [.int .u64 a, .int .u64 b, .int .u64 c, .int .u64 d]] => some (D.u a b c d, .bool (D.rg a b c d))
  | _ => none
def hLef : List V → Option (Bool × V)
  | [.agg [.int .u64 a, .int .u64 b, .int .u64 c, .int .u64 d]] => some (D.u a b c d, .tuple [.int .u64 (D.lf a b c d), .int .i64 (D.le a b c d)])
  | _ => none
def hWay : List V → Option (Bool × V)
  | [.agg [.int .u64 a, .int .u64 b, .int .u64 c, .int .u64 d]] => some (D.u a b c d, .tuple [D.n.nW (D.wy a b c d), .int .i64 (D.le a b c d)])
  | _ => none
def hTur : List V → Option (Bool × V)
  | [.agg [.int .u64 a, .int .u64 b, .int .u64 c, .int .u64 d], .int .i64 k] => some (true, q4 (D.t0 k a b c d) (D.t1 k a b c d) (D.t2 k a b c d) (D.t3 k a b c d))
  | _ => none
def hCpl : List V → Option (Bool × V)
  | [.agg [.int .u64 a, .int .u64 b, .int .u64 c, .int .u64 d], .agg [.int .u32 e, .int .u32 f, .int .u32 g, .int .u32 h]] => some (D.u a b c d && D.n.inn e f g h,
      .tuple [q4 (D.c0 a b c d (D.n.z e f g h)) (D.c1 a b c d (D.n.z e f g h)) (D.c2 a b c d (D.n.z e f g h)) (D.c3 a b c d (D.n.z e f g h)), .int .i64 (D.ce a b c d (D.n.z e f g h))])
  | _ => none
def hIdx : List V → Option (Bool × V)
  | [.agg [.int .u64 a, .int .u64 b, .int .u64 c, .int .u64 d], .agg [.int .u64 x, .int .u64 y, .int .u64 z, .int .u64 w]] => some (D.u a b c d && D.u x y z w, .tuple [D.n.nW (D.ix a b c d x y z w), .int .i64 (D.ie a b c d x y z w)])
  | _ => none
def hOwn : List V → Option (Bool × V)
  | [.agg [.int .u64 a, .int .u64 b, .int .u64 c, .int .u64 d], .int .u8 k] => some (D.u a b c d && decide (0 ≤ k), .tuple [.int .u8 (D.oi a b c d k), .bool (D.ob a b c d k)])
  | _ => none
def hAwa : List V → Option (Bool × V)
  | [] => some (true, .bool true)
  | _ => none
def tab7 : PTab := addTab 14 (hPar D) (addTab 23 (hRig D) (addTab 13 (hLef D) (addTab 11 (hWay D) (addTab 10 (hTur D) (addTab 18 (hCpl D) (addTab 20 (hIdx D) (addTab 15 (hOwn D) (addTab 12 hAwa (tabN D.n)))))))))
def gDl : List V → List Blk → Option (Bool × V × List Blk)
  | [.gs 0], [.rs _ 1 (.ints .u8 ls)] => some (D.ok ls, q4 (D.m0 ls) (D.m1 ls) (D.m2 ls) (D.m3 ls), [])
  | _, _ => none
def hTab7 : HTab := addH 37 (gDl D) (hTabN D.n)
def dom7 : FuncId → Bool := fun f => Nat.beq f 48 || Nat.beq f 37
noncomputable abbrev orc7 : Oracle := inl Try.prog ftab (tab7 D) plainL 100 never dom7 (hOrcP nrN (hTab7 D)) 20
noncomputable abbrev law7 (f : FuncId) (fn : Func) (args : List V) (h : List Blk) : Option V := evalFn Try.prog (orc7 D) noLoops 100 f fn args h (fun v _ => some v)
end
noncomputable def okB (ls : List Int) : Bool := pB (okV ls)
noncomputable def d7 : D7 := ⟨n6, okB, m0, m1, m2, m3, in4, parB, rgB, lfI, leI, wyI, tu0, tu1, tu2, tu3, cp0, cp1, cp2, cp3, cpE, ixI, ixE, owI, owB⟩
theorem tab7_ok : PTabOk Try.prog (tab7 d7) := by
  refine addTab_ok ?_ (addTab_ok ?_ (addTab_ok ?_ (addTab_ok ?_ (addTab_ok ?_ (addTab_ok ?_ (addTab_ok ?_ (addTab_ok ?_ (addTab_ok ?_ tabN_ok))))))))
  · intro args c v h hc
    unfold hPar at h; split at h
    · cases h; exact par_p hc
    · cases h
  · intro args c v h hc
    unfold hRig at h; split at h
    · cases h; exact right_p hc
    · cases h
  · intro args c v h hc
    unfold hLef at h; split at h
    · cases h; exact left_p hc
    · cases h
  · intro args c v h hc
    unfold hWay at h; split at h
    · cases h; exact ways_p hc
    · cases h
  · intro args c v h hc
    unfold hTur at h; split at h
    · cases h; exact turn_p _ _ _ _ _
    · cases h
  · intro args c v h hc
    unfold hCpl at h; split at h
    · cases h; rw [Bool.and_eq_true] at hc; exact cpl_p hc.1 hc.2
    · cases h
  · intro args c v h hc
    unfold hIdx at h; split at h
    · cases h; rw [Bool.and_eq_true] at hc; exact idx_p hc.1 hc.2
    · cases h
  · intro args c v h hc
    unfold hOwn at h; split at h
    · cases h; rw [Bool.and_eq_true, decide_eq_true_eq] at hc; exact owner_p hc.1 hc.2
    · cases h
  · intro args c v h hc
    unfold hAwa at h; split at h
    · cases h; exact awake_p
    · cases h
theorem hTab7_ok : HTabOk Try.prog (hTab7 d7) := by
  refine addH_ok ?_ hTabN_ok
  intro args h c v nb hq hc
  unfold gDl at hq
  split at hq
  · cases hq
    exact ⟨.of Try.func37 (by kernel_rfl), dl_fn _ (pB_iff.1 hc)⟩
  · cases hq
theorem orc7_ok : OracleOk Try.prog (orc7 d7) := inl_ok (hOrcP_ok hTab7_ok) ftab_ok tab7_ok plainL_ok mixed 20
end Go.Proofs.Ytpalajfcffdhoaa

/- Chapter 6: the law DealTurns: its loop. -/
namespace Go.Proofs.Ytpalajfcffdhoaa
open Go Go.Eng Go.Deal
noncomputable abbrev orcZ7 : Oracle := orcN n6 emptyTab plainL
structure DQ where
  a : Int
  b : Int
  c : Int
  d : Int
def DQ.v (q : DQ) : V := q4 q.a q.b q.c q.d
noncomputable def tuLp : Code := loopOf 4 Try.f3
def tuT (nn : Bool) : Tm := ⟨mkS [(2, .int .i64), (3, .int .i64), (9, .ptr 1 0), (10, .ptr 2 0), (23, .int .i64)] 0 96, [.rs nn 1 (.ints .u8), .own 25 u64s, .own 25 u64s], []⟩
def tuX (nn : Bool) : Tm := ⟨mkS [(2, .int .i64), (3, .int .i64), (9, .ptr 1 0), (10, .ptr 2 0)] 0 96, [.rs nn 1 (.ints .u8), .own 25 u64s, .own 25 u64s], []⟩
def ld4 {α : Type} (i : Int) (q : DQ) (K : Int → Option α) : Option α := bif decide (i = 0) then K q.a else bif decide (i = 1) then K q.b else bif decide (i = 2) then K q.c else bif decide (i = 3) then K q.d else none
def tuPs (p x : DQ) (ls : List Int) : List PV := [.l ls, .i p.a, .i p.b, .i p.c, .i p.d, .i x.a, .i x.b, .i x.c, .i x.d]
theorem tu_round (nn : Bool) (rd : Option Nat) (a b i : Int) (p x : DQ) (ls : List Int) : roundT Try.prog orcZ7 noLoops 100 1 rd 3 tuLp (tuT nn) (tuX nn) (.i a :: .i b :: .i i :: tuPs p x ls) =
    bif decide (i < 4) then ld4 (tnX i a) x fun xv => ld4 i p fun pv => bif !decide (xv = pv) then some (.ret, .i a :: .i b :: tuPs p x ls, []) else some (.normal, .i a :: .i b :: .i (wr .i64 (i + 1)) :: tuPs p x ls, [])
    else some (.exit 0, .i a :: .i b :: tuPs p x ls, []) := by cases nn <;> kernel_rfl
end Go.Proofs.Ytpalajfcffdhoaa

/- Chapter 6: the law DealTurns: its formula. -/
namespace Go.Proofs.Ytpalajfcffdhoaa
open Go Go.Eng Go.Deal
section
variable (D : D7) (C : Int → Int → DQ → DQ → Bool)
noncomputable def tuTr (nn : Bool) : List PV → Fin
  | [.i a, .i b, .i i, .l ls, .i p0, .i p1, .i p2, .i p3, .i x0, .i x1, .i x2, .i x3] => .br (C a i ⟨p0, p1, p2, p3⟩ ⟨x0, x1, x2, x3⟩) (.leaf (.exit 0) ((tuX nn).at [.i a, .i b, .l ls, .i p0, .i p1, .i p2, .i p3, .i x0, .i x1, .i x2, .i x3])) .no
  | _ => .no
noncomputable def tuL (nn : Bool) : Loops := sums (fun n => match n with | 4 => some (lsumF 1 (tuT nn) tuLp (tuTr C nn)) | _ => none)
def eqQ (p q : DQ) : Bool := decide (p.a = q.a) && (decide (p.b = q.b) && (decide (p.c = q.c) && (decide (p.d = q.d) && true)))
def eqW (x y : Int) : Bool := decide (D.n.w0 x = D.n.w0 y) && (decide (D.n.w1 x = D.n.w1 y) && (decide (D.n.w2 x = D.n.w2 y) && (decide (D.n.w3 x = D.n.w3 y) && true)))
def D7.T (k : Int) (q : DQ) : DQ := ⟨D.t0 k q.a q.b q.c q.d, D.t1 k q.a q.b q.c q.d, D.t2 k q.a q.b q.c q.d, D.t3 k q.a q.b q.c q.d⟩
def D7.U (q : DQ) : Bool := D.u q.a q.b q.c q.d
def D7.Le (q : DQ) : Int := D.le q.a q.b q.c q.d
def D7.Wy (q : DQ) : Int := D.wy q.a q.b q.c q.d
def D7.P (ls : List Int) (w : Int) : DQ := ⟨anI (D.m0 ls) w, anI (D.m1 ls) w, anI (D.m2 ls) w, anI (D.m3 ls) w⟩
def truV : Option V := some (.bool true)
noncomputable def tuRest (a b : Int) (P X : DQ) : Option V := bif D.U P then bif D.U X then bif decide (D.Le P = 0) then bif decide (D.Le X = 0) then bif eqW D (D.Wy P) (D.Wy X) then
  bif eqQ (D.T 1 (D.T 1 (D.T 1 (D.T 1 P)))) P then bif eqQ (D.T b X) (D.T (wr .i64 (a.tmod 4 + b.tmod 4)) P) then bif eqQ (D.T (wr .i64 (0 - a.tmod 4)) X) P then truV else flsV else flsV else flsV else flsV else flsV else flsV else none else none
theorem turns_eval (nn : Bool) (ls : List Int) (w a b : Int) : evalFn Try.prog (orc7 D) (tuL C nn) 100 3 Try.f3 [.gs 0, .int .u64 w, .int .i64 a, .int .i64 b] [.rs nn 1 (.ints .u8 ls)] (fun v _ => some v) =
    bif D.ok ls then cond (codesB [(tuLp, tuLp)]) (bif C a 0 (D.P ls w) (D.T a (D.P ls w)) then tuRest D a b (D.P ls w) (D.T a (D.P ls w)) else none) none else none := by cases nn <;> kernel_rfl
end
end Go.Proofs.Ytpalajfcffdhoaa
