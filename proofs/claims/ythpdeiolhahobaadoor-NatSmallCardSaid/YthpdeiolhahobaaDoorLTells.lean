/- Texts merged: LTells, LMore. -/
import Derived.Test.YthpdeiolhahobaaDoorRMul
import Derived.Test.YthpdeiolhahobaaDoorRText
import Derived.Test.YthpdeiolhahobaaDoorLReads
import Derived.Test.YthpdeiolhahobaaDoorRMulL
import Derived.Test.YthpdeiolhahobaaDoorRChoose
/- Chapter 2: the law NatTells is true. -/
namespace Go.Proofs.YthpdeiolhahobaaDoor
open Go Go.Eng
structure NQ where
  z : Int → Int → Int → Int → Int
  w0 : Int → Int
  w1 : Int → Int
  w2 : Int → Int
  w3 : Int → Int
  inn : Int → Int → Int → Int → Bool
  add : Int → Int → Int
  addE : Int → Int → Int
  sub : Int → Int → Int
  subE : Int → Int → Int
  mul : Int → Int → Int
  mulE : Int → Int → Int
  quo : Int → Int → Int
  rem : Int → Int → Int
  divE : Int → Int
  int : Int → Int
  intE : Int → Int
  gcd : Int → Int → Int
  cmp : Int → Int → Int
  tx : Int → ByteArray
def NQ.nW (N : NQ) (x : Int) : V := .agg [.int .u32 (N.w0 x), .int .u32 (N.w1 x), .int .u32 (N.w2 x), .int .u32 (N.w3 x)]
def gTwo (N : NQ) (F : Int → Int → V) : List V → Option (Bool × V)
  | [.agg [.int .u32 a, .int .u32 b, .int .u32 c, .int .u32 d], .agg [.int .u32 e, .int .u32 f, .int .u32 g, .int .u32 h]] => some (N.inn a b c d && N.inn e f g h, F (N.z a b c d) (N.z e f g h))
  | _ => none
def gOne (N : NQ) (F : Int → V) : List V → Option (Bool × V)
  | [.agg [.int .u32 a, .int .u32 b, .int .u32 c, .int .u32 d]] => some (N.inn a b c d, F (N.z a b c d))
  | _ => none
def NQ.fAdd (N : NQ) (x y : Int) : V := .tuple [N.nW (N.add x y), .int .i64 (N.addE x y)]
def NQ.fSub (N : NQ) (x y : Int) : V := .tuple [N.nW (N.sub x y), .int .i64 (N.subE x y)]
def NQ.fMul (N : NQ) (x y : Int) : V := .tuple [N.nW (N.mul x y), .int .i64 (N.mulE x y)]
def NQ.fDiv (N : NQ) (x y : Int) : V := .tuple [N.nW (N.quo x y), N.nW (N.rem x y), .int .i64 (N.divE y)]
def NQ.fGcd (N : NQ) (x y : Int) : V := N.nW (N.gcd x y)
def NQ.fCmp (N : NQ) (x y : Int) : V := .int .i64 (N.cmp x y)
def NQ.fInt (N : NQ) (x : Int) : V := .tuple [.int .i64 (N.int x), .int .i64 (N.intE x)]
def NQ.fTx (N : NQ) (x : Int) : V := .str (N.tx x)
def tabNQ (N : NQ) : PTab := addTab 19 (gTwo N N.fAdd) (addTab 40 (gTwo N N.fAdd) (addTab 25 (gTwo N N.fSub) (addTab 41 (gTwo N N.fSub) (addTab 23 (gTwo N N.fDiv) (addTab 42 (gTwo N N.fDiv)
  (addTab 22 (gTwo N N.fGcd) (addTab 44 (gTwo N N.fGcd) (addTab 24 (gTwo N N.fCmp) (addTab 45 (gTwo N N.fCmp) (addTab 26 (gOne N N.fInt) (addTab 43 (gOne N N.fInt) (addTab 17 (gOne N N.fTx) (addTab 46 (gOne N N.fTx) emptyTab)))))))))))))
def gMulQ (N : NQ) : List V → List Blk → Option (Bool × V × List Blk)
  | [.gs 0], [.rs true 4 (.ints .u32 [a, b, c, d, e, f, g, h])] => some (N.inn a b c d && N.inn e f g h, N.fMul (N.z a b c d) (N.z e f g h), [])
  | _, _ => none
def hTabQq (N : NQ) : HTab := addH 21 (gMulQ N) (addH 30 (gMulQ N) emptyH)
def domQ2 : FuncId → Bool := fun f => Nat.beq f 21 || Nat.beq f 30
noncomputable abbrev orcNQ (N : NQ) : Oracle := inl Tryd.prog ftab (tabNQ N) plainL 200 never domQ2 (hOrc (hTabQq N)) 20
def NQ.e4 (N : NQ) (x : Int) : Bool := decide (N.w0 x = N.w0 x) && (decide (N.w1 x = N.w1 x) && (decide (N.w2 x = N.w2 x) && (decide (N.w3 x = N.w3 x) && true)))
def NQ.ie (x y : Int) : Bool := decide (x = y)
theorem NQ.e4_true (N : NQ) (x : Int) : N.e4 x = true := by simp [NQ.e4]
def fls3 : Option V := some (.bool false)
def NQ.t1 (N : NQ) (A B : Int) (ia ib : Bool) : Option V := bif decide (N.addE A B = N.addE A B) then bif decide (N.subE A B = N.subE A B) then bif decide (N.mulE A B = N.mulE A B) then bif decide (N.divE B = N.divE B) then bif decide (N.intE A = N.intE A) then
  bif ia && ib then bif ia && ib then bif N.e4 (N.gcd A B) then bif ia && ib then bif ia && ib then bif decide (N.cmp A B = N.cmp A B) then bif ia then bif ia then some (.bool (strEq (N.tx A) (N.tx A))) else none else none else fls3 else none else none else fls3 else none else none else fls3 else fls3 else fls3 else fls3 else fls3
def NQ.t2 (N : NQ) (A B : Int) (ia ib : Bool) : Option V := bif !N.e4 (N.add A B) then fls3 else bif !N.e4 (N.sub A B) then fls3 else bif !N.e4 (N.mul A B) then fls3 else bif !N.e4 (N.quo A B) then fls3 else bif !N.e4 (N.rem A B) then fls3 else bif !decide (N.int A = N.int A) then fls3 else N.t1 A B ia ib
theorem tells_eval (N : NQ) (a b c d e f g h : Int) : evalFn Tryd.prog (orcNQ N) noLoops 200 27 Tryd.f27 (nat2 a b c d e f g h) [] (fun v _ => some v) =
    bif N.inn a b c d && N.inn e f g h then bif N.inn a b c d && N.inn e f g h then bif N.inn a b c d && N.inn e f g h then bif N.inn a b c d && N.inn e f g h then bif N.inn a b c d && N.inn e f g h then bif N.inn a b c d && N.inn e f g h then
    bif N.inn a b c d && N.inn e f g h then bif N.inn a b c d && N.inn e f g h then bif N.inn a b c d then bif N.inn a b c d then N.t2 (N.z a b c d) (N.z e f g h) (N.inn a b c d) (N.inn e f g h) else none else none else none else none else none else none else none else none else none else none := by kernel_rfl
theorem strEq_self (s : ByteArray) : strEq s s = true := strEq_iff.2 rfl
theorem tells_true (N : NQ) {a b c d e f g h : Int} (hx : N.inn a b c d = true) (hy : N.inn e f g h = true) : evalFn Tryd.prog (orcNQ N) noLoops 200 27 Tryd.f27 (nat2 a b c d e f g h) [] (fun v _ => some v) = some (.bool true) := by
  rw [tells_eval, hx, hy]
  unfold NQ.t2 NQ.t1
  simp [NQ.e4_true, strEq_self]
def Q0 : NQ := ⟨nval, w0, w1, w2, w3, inN, addZ, addE, subZ, subE, mulZ, mulE, divZ, remZ, divE, intZ, intE, gcdZ, cmpI, fun x => bytesOf (tx x.toNat)⟩
theorem gTwo_ok {f : FuncId} {F : Int → Int → V} (H : ∀ {a b c d e f' g h : Int}, inN a b c d = true → inN e f' g h = true → FnPure Tryd.prog f (nat2 a b c d e f' g h) (F (nval a b c d) (nval e f' g h))) : ∀ args c v, gTwo Q0 F args = some (c, v) → c = true → FnPure Tryd.prog f args v := by
  intro args c v h hc
  unfold gTwo at h
  split at h
  · cases h
    simp only [Bool.and_eq_true] at hc
    exact H hc.1 hc.2
  · cases h
theorem gOne_ok {f : FuncId} {F : Int → V} (H : ∀ {a b c d : Int}, inN a b c d = true → FnPure Tryd.prog f [.agg [.int .u32 a, .int .u32 b, .int .u32 c, .int .u32 d]] (F (nval a b c d))) : ∀ args c v, gOne Q0 F args = some (c, v) → c = true → FnPure Tryd.prog f args v := by
  intro args c v h hc
  unfold gOne at h
  split at h
  · cases h
    exact H hc
  · cases h
theorem tabNQ_ok : PTabOk Tryd.prog (tabNQ Q0) := by
  refine addTab_ok (gTwo_ok add_p) (addTab_ok (gTwo_ok radd_p) (addTab_ok (gTwo_ok sub_p) (addTab_ok (gTwo_ok rsub_p) (addTab_ok (gTwo_ok div_p) (addTab_ok (gTwo_ok rdiv_p) (addTab_ok (gTwo_ok gcd_p) (addTab_ok (gTwo_ok rgcd_p)
    (addTab_ok (gTwo_ok fun hx hy => cmp_p hx hy) (addTab_ok (gTwo_ok rcmp_p) (addTab_ok (gOne_ok int_p) (addTab_ok (gOne_ok rint_p) (addTab_ok (gOne_ok text_p) (addTab_ok (gOne_ok rtext_p) emptyTab_ok)))))))))))))
theorem hTabQq_ok : HTabOk Tryd.prog (hTabQq Q0) := by
  refine addH_ok ?_ (addH_ok ?_ emptyH_ok)
  · intro args h c v nb hq hc
    unfold gMulQ at hq
    split at hq
    · cases hq
      simp only [Bool.and_eq_true] at hc
      exact ⟨.of Tryd.func21 (by kernel_rfl), mul_fn hc.1 hc.2⟩
    · cases hq
  · intro args h c v nb hq hc
    unfold gMulQ at hq
    split at hq
    · cases hq
      simp only [Bool.and_eq_true] at hc
      exact ⟨.of Tryd.func30 (by kernel_rfl), rmul_fn hc.1 hc.2⟩
    · cases hq
theorem orcNQ_ok : OracleOk Tryd.prog (orcNQ Q0) := inl_ok (hOrc_ok hTabQq_ok) ftab_ok tabNQ_ok plainL_ok mixed 20
theorem tells_p {a b c d e f g h : Int} (hx : inN a b c d = true) (hy : inN e f g h = true) : FnPure Tryd.prog 27 (nat2 a b c d e f g h) (.bool true) :=
  fnPure_of_eval (N := 200) orcNQ_ok mixed Tryd.func27 (by kernel_rfl) noLoops_ok (tells_true Q0 hx hy) rfl rfl
/-! ### the law -/
def gTrue2 : List V → Option (Bool × V)
  | [.agg [.int .u32 a, .int .u32 b, .int .u32 c, .int .u32 d], .agg [.int .u32 e, .int .u32 f, .int .u32 g, .int .u32 h]] => some (inN a b c d && inN e f g h, .bool true)
  | _ => none
def tabTl : PTab := addTab 27 gTrue2 (addTab 13 gAwake emptyTab)
theorem tabTl_ok : PTabOk Tryd.prog tabTl := by
  refine addTab_ok ?_ (addTab_ok ?_ emptyTab_ok)
  · intro args c v h hc
    unfold gTrue2 at h
    split at h
    · cases h
      simp only [Bool.and_eq_true] at hc
      exact tells_p hc.1 hc.2
    · cases h
  · intro args c v h _
    unfold gAwake at h
    split at h
    · cases h; exact awake_p
    · cases h
theorem natTells_eval (a b c d e f g h : Int) : evalFn Tryd.prog (orcP tabTl plainL) noLoops 200 10 Tryd.f10 (nat2 a b c d e f g h) [] (fun v _ => some v) = bif inN a b c d && inN e f g h then some (.bool true) else none := by kernel_rfl
theorem natTells_p {a b c d e f g h : Int} (hx : inN a b c d = true) (hy : inN e f g h = true) : FnPure Tryd.prog 10 (nat2 a b c d e f g h) (.bool true) := by
  refine fnPure_of_eval (N := 200) (orcP_ok tabTl_ok plainL_ok) mixed Tryd.func10 (by kernel_rfl) noLoops_ok ?_ rfl rfl
  rw [natTells_eval, hx, hy]; rfl
end Go.Proofs.YthpdeiolhahobaaDoor

/- Chapter 2: the law NatMore: its loops. -/
namespace Go.Proofs.YthpdeiolhahobaaDoor
open Go Go.Eng
structure NM where
  w0 : Int → Int
  w1 : Int → Int
  w2 : Int → Int
  w3 : Int → Int
  of : Int → Int
  ofE : Int → Int
  ofC : Int → Bool
  ch : Int → Int → Int
  che : Int → Int
  mul : List Int → Int
  mulE : List Int → Int
  mulC : List Int → Bool
def NM.nW (N : NM) (x : Int) : V := .agg [.int .u32 (N.w0 x), .int .u32 (N.w1 x), .int .u32 (N.w2 x), .int .u32 (N.w3 x)]
def gOfM (N : NM) : List V → Option (Bool × V)
  | [.int .i64 n] => some (N.ofC n, .tuple [N.nW (N.of n), .int .i64 (N.ofE n)])
  | _ => none
def gChM (N : NM) : List V → Option (Bool × V)
  | [.int .i64 n, .int .i64 k] => some (true, .tuple [N.nW (N.ch n k), .int .i64 (N.che n)])
  | _ => none
def tabNM (N : NM) : PTab := addTab 15 (gOfM N) (addTab 31 (gOfM N) (addTab 16 (gChM N) (addTab 32 (gChM N) (addTab 13 gAwake emptyTab))))
def gMulM (N : NM) : List V → List Blk → Option (Bool × V × List Blk)
  | [.gs 0], [.rs _ 4 (.ints .u32 xs)] => some (N.mulC xs, .tuple [N.nW (N.mul xs), .int .i64 (N.mulE xs)], [])
  | [.gs 0], [.rs true 4 (.vs [])] => some (true, .tuple [N.nW (N.mul []), .int .i64 (N.mulE [])], [])
  | [.gs 0], [.rs false 1 (.ints .u32 [])] => some (true, .tuple [N.nW (N.mul []), .int .i64 (N.mulE [])], [])
  | _, _ => none
def nrM : FuncId → Option Row := fun f => bif Nat.beq f 14 || domQ2 f then some (.ints .u32 []) else none
def hTabNM (N : NM) : HTab := addH 21 (gMulM N) (addH 30 (gMulM N) emptyH)
noncomputable abbrev orcNM (N : NM) : Oracle := inl Tryd.prog ftab (tabNM N) plainL 200 never domQ2 (hOrcP nrM (hTabNM N)) 20
noncomputable def moLp1 : Code := loopOf 6 Tryd.f14
noncomputable def moLp2 : Code := loopOf 17 Tryd.f14
def moT1 (nn : Bool) : Tm := ⟨mkS [(0, .int .i64), (1, .int .i64), (2, .gs 0), (7, .gs 1), (8, .gs 2), (30, .gs 0), (31, .int .i64), (32, .int .i64)] 0 116, [.rs nn 4 u32s, .grow true 28 4 u32s, .grow false 27 4 u32s], []⟩
def moX1 (nn : Bool) : Tm := ⟨mkS [(0, .int .i64), (1, .int .i64), (2, .gs 0), (7, .gs 1), (8, .gs 2)] 0 116, [.rs nn 4 u32s, .grow true 28 4 u32s, .grow false 27 4 u32s], []⟩
def moT2 (nn : Bool) : Tm := ⟨mkS [(2, .gs 0), (7, .gs 1), (11, .ptr 2 0), (12, .int .i64), (13, .ptr 3 0), (14, .int .i64), (15, .ptr 4 0), (16, .int .i64), (17, .ptr 5 0), (18, .int .i64), (19, .ptr 6 0), (20, .int .i64), (21, .ptr 7 0), (22, .int .i64), (74, .int .i64), (75, .int .i64)] 0 116,
  [.rs nn 4 u32s, .grow true 28 4 u32s, .own 28 n4, .own 27 n4, .own 28 n4, .own 27 n4, .own 28 n4, .own 27 n4], []⟩
def moX2 (nn : Bool) : Tm := ⟨mkS [(11, .ptr 2 0), (12, .int .i64), (13, .ptr 3 0), (14, .int .i64), (15, .ptr 4 0), (16, .int .i64), (17, .ptr 5 0), (18, .int .i64), (19, .ptr 6 0), (20, .int .i64), (21, .ptr 7 0), (22, .int .i64)] 0 116,
  [.rs nn 4 u32s, .grow true 28 4 u32s, .own 28 n4, .own 27 n4, .own 28 n4, .own 27 n4, .own 28 n4, .own 27 n4], []⟩
end Go.Proofs.YthpdeiolhahobaaDoor
