/- Texts merged: Base, Oth, SubT, SubR. -/
import Derived.Test.YtpalajfcffdhoaaDoorANat8
import Derived.Test.YtpalajfcffdhoaaDoorAPas
import Derived.Test.YtpalajfcffdhoaaDoorBt
import Derived.Test.YtpalajfcffdhoaaDoorEng4
/- Chapter 6: the program, with what is known of nat, bits and card as names alone. -/
namespace Go.Proofs.YtpalajfcffdhoaaDoor
open Go Go.Eng
noncomputable def ftab : FTab := fun i => Tryd.prog.funcs[i]?
theorem ftab_ok : FTabOk Tryd.prog ftab := fun _ _ h => h
theorem mixed : Tryd.prog.follows .mixedOrders = true := by kernel_rfl
def never : FuncId → Bool := fun _ => false
def plainL : FuncId → Loops := fun _ => noLoops
theorem plainL_ok : ∀ f, loopsOk Tryd.prog (plainL f) := fun _ => noLoops_ok
/-- What is known of the packages below, as names. -/
structure N6 where
  w0 : Int → Int
  w1 : Int → Int
  w2 : Int → Int
  w3 : Int → Int
  z : Int → Int → Int → Int → Int
  inn : Int → Int → Int → Int → Bool
  add : Int → Int → Int
  addE : Int → Int → Int
  sub : Int → Int → Int
  subE : Int → Int → Int
  mul : Int → Int → Int
  mulE : Int → Int → Int
  quo : Int → Int → Int
  rem : Int → Int → Int
  divE : Int → Int
  cmp : Int → Int → Int
  ch : Int → Int → Int
  chE : Int → Int
  oc : Int → Int
  len : Int → Int
  u : Int → Bool
def in64 (x : Int) : Bool := decide (0 ≤ x ∧ x < 18446744073709551616)
theorem in64_iff {x : Int} : in64 x = true ↔ 0 ≤ x ∧ x < 18446744073709551616 := by unfold in64; simp
def lenI (x : Int) : Int := Lib.bitLen x.toNat
def n6 : N6 := ⟨N2.w0, N2.w1, N2.w2, N2.w3, N2.nval, N2.inN, N2.addZ, N2.addE, N2.subZ, N2.subE, N2.mulZ, N2.mulE, N2.divZ, N2.remZ, N2.divE, N2.cmpI, N2.chZ, N2.chE, Deal.cntI, lenI, in64⟩
def N6.nW (N : N6) (x : Int) : V := .agg [.int .u32 (N.w0 x), .int .u32 (N.w1 x), .int .u32 (N.w2 x), .int .u32 (N.w3 x)]
def N6.q (N : N6) (x : Int) : Int := N.z (N.w0 x) (N.w1 x) (N.w2 x) (N.w3 x)
def N6.i (N : N6) (x : Int) : Bool := N.inn (N.w0 x) (N.w1 x) (N.w2 x) (N.w3 x)
def gTwo (N : N6) (F : Int → Int → V) : List V → Option (Bool × V)
  | [.agg [.int .u32 a, .int .u32 b, .int .u32 c, .int .u32 d], .agg [.int .u32 e, .int .u32 f, .int .u32 g, .int .u32 h]] => some (N.inn a b c d && N.inn e f g h, F (N.z a b c d) (N.z e f g h))
  | _ => none
def gCh (N : N6) : List V → Option (Bool × V)
  | [.int .i64 n, .int .i64 k] => some (true, .tuple [N.nW (N.ch n k), .int .i64 (N.chE n)])
  | _ => none
def gOc (N : N6) : List V → Option (Bool × V)
  | [.int .u64 x] => some (N.u x, .int .i64 (N.oc x))
  | _ => none
def gLn (N : N6) : List V → Option (Bool × V)
  | [.int .u64 x] => some (N.u x, .int .i64 (N.len x))
  | _ => none
def tabN (N : N6) : PTab := addTab 71 (gTwo N fun x y => .tuple [N.nW (N.add x y), .int .i64 (N.addE x y)]) (addTab 23 (gTwo N fun x y => .tuple [N.nW (N.sub x y), .int .i64 (N.subE x y)])
  (addTab 42 (gTwo N fun x y => .tuple [N.nW (N.quo x y), N.nW (N.rem x y), .int .i64 (N.divE y)]) (addTab 40 (gTwo N fun x y => .int .i64 (N.cmp x y)) (addTab 62 (gCh N) (addTab 17 (gOc N) (addTab 52 (gLn N) emptyTab))))))
def gMul (N : N6) : List V → List Blk → Option (Bool × V × List Blk)
  | [.gs 0], [.rs true 4 (.ints .u32 [a, b, c, d, e, f, g, h])] => some (N.inn a b c d && N.inn e f g h, .tuple [N.nW (N.mul (N.z a b c d) (N.z e f g h)), .int .i64 (N.mulE (N.z a b c d) (N.z e f g h))], [])
  | _, _ => none
def hTabN (N : N6) : HTab := addH 63 (gMul N) emptyH
def domN : FuncId → Bool := fun f => Nat.beq f 63
def nrN : FuncId → Option Row := fun _ => none
noncomputable abbrev orcN (N : N6) (T : PTab) (LL : FuncId → Loops) : Oracle := inl Tryd.prog ftab T LL 100 never domN (hOrcP nrN (hTabN N)) 20
theorem hTabN_ok : HTabOk Tryd.prog (hTabN n6) := N2.hTabM_ok
/-! ### how many ones -/
theorem oc_eval (m : Int) : evalFn Tryd.prog (N2.orcP emptyTab plainL) noLoops 100 17 Tryd.f17 [.int .u64 m] [] (fun v _ => some v) = some (.int .i64 (Deal.ocI m)) := by kernel_rfl
theorem oc_p {m : Int} (h : in64 m = true) : FnPure Tryd.prog 17 [.int .u64 m] (.int .i64 (Deal.cntI m)) := by
  rw [in64_iff] at h
  refine fnPure_of_eval (N := 100) (N2.orcP_ok emptyTab_ok plainL_ok) mixed Tryd.func17 (by kernel_rfl) noLoops_ok ?_ rfl rfl
  rw [oc_eval]
  obtain ⟨n, rfl⟩ : ∃ n : Nat, m = n := ⟨m.toNat, by omega⟩
  rw [Deal.oc_eq (by omega)]
theorem tabN_ok : PTabOk Tryd.prog (tabN n6) := by
  refine addTab_ok ?_ (addTab_ok ?_ (addTab_ok ?_ (addTab_ok ?_ (addTab_ok ?_ (addTab_ok ?_ (addTab_ok ?_ emptyTab_ok))))))
  · intro args c v h hc
    unfold gTwo at h
    split at h
    · cases h; rw [Bool.and_eq_true] at hc; exact N2.add_p hc.1 hc.2
    · cases h
  · intro args c v h hc
    unfold gTwo at h
    split at h
    · cases h; rw [Bool.and_eq_true] at hc; exact N2.sub_p hc.1 hc.2
    · cases h
  · intro args c v h hc
    unfold gTwo at h
    split at h
    · cases h; rw [Bool.and_eq_true] at hc; exact N2.div_p hc.1 hc.2
    · cases h
  · intro args c v h hc
    unfold gTwo at h
    split at h
    · cases h; rw [Bool.and_eq_true] at hc; exact N2.cmp_p hc.1 hc.2
    · cases h
  · intro args c v h hc
    unfold gCh at h
    split at h
    · cases h; exact N2.choose_p _ _
    · cases h
  · intro args c v h hc
    unfold gOc at h
    split at h
    · cases h; exact oc_p hc
    · cases h
  · intro args c v h hc
    unfold gLn at h
    split at h
    · cases h
      have h2 := in64_iff.1 hc
      exact pure_of_same (.of Tryd.func52 (by kernel_rfl)) rfl rfl fun w => Tryd.bits_Len64 _ w h2.1 (by omega)
    · cases h
theorem orcN_ok {T : PTab} (hT : PTabOk Tryd.prog T) {LL : FuncId → Loops} (hL : ∀ f, loopsOk Tryd.prog (LL f)) : OracleOk Tryd.prog (orcN n6 T LL) := inl_ok (hOrcP_ok hTabN_ok) ftab_ok hT hL mixed 20
end Go.Proofs.YtpalajfcffdhoaaDoor

/- Chapter 6: others, without: their formulas. -/
namespace Go.Proofs.YtpalajfcffdhoaaDoor
open Go Go.Eng
section
variable (N : N6)
def nd1 (x : Int) : Int := wr .i64 (13 - N.oc x)
def cd3 (d : Int) : Int := wr .i64 (0 + nd1 N d)
def cd2 (c d : Int) : Int := wr .i64 (cd3 N d + nd1 N c)
def cd1 (b c d : Int) : Int := wr .i64 (cd2 N c d + nd1 N b)
def cd0 (a b c d : Int) : Int := wr .i64 (cd1 N b c d + nd1 N a)
def ow3 (d : Int) : Int := N.mul (N.z 1 0 0 0) (N.q (N.ch (cd3 N d) (nd1 N d)))
def ow2 (c d : Int) : Int := N.mul (N.q (ow3 N d)) (N.q (N.ch (cd2 N c d) (nd1 N c)))
def ow1 (b c d : Int) : Int := N.mul (N.q (ow2 N c d)) (N.q (N.ch (cd1 N b c d) (nd1 N b)))
def ow0 (a b c d : Int) : Int := N.mul (N.q (ow1 N b c d)) (N.q (N.ch (cd0 N a b c d) (nd1 N a)))
theorem oth_eval (a b c d : Int) : evalFn Tryd.prog (orcN N (tabN N) plainL) noLoops 100 38 Tryd.f38 [.agg [.int .u64 a, .int .u64 b, .int .u64 c, .int .u64 d]] [] (fun v _ => some v) =
    bif N.u d then bif N.inn 1 0 0 0 && N.i (N.ch (cd3 N d) (nd1 N d)) then bif N.u c then bif N.i (ow3 N d) && N.i (N.ch (cd2 N c d) (nd1 N c)) then
    bif N.u b then bif N.i (ow2 N c d) && N.i (N.ch (cd1 N b c d) (nd1 N b)) then bif N.u a then bif N.i (ow1 N b c d) && N.i (N.ch (cd0 N a b c d) (nd1 N a)) then
      some (.agg [.int .u32 (N.w0 (ow0 N a b c d)), .int .u32 (N.w1 (ow0 N a b c d)), .int .u32 (N.w2 (ow0 N a b c d)), .int .u32 (N.w3 (ow0 N a b c d)), .int .u32 (N.w0 (ow1 N b c d)), .int .u32 (N.w1 (ow1 N b c d)), .int .u32 (N.w2 (ow1 N b c d)), .int .u32 (N.w3 (ow1 N b c d)), .int .u32 (N.w0 (ow2 N c d)), .int .u32 (N.w1 (ow2 N c d)), .int .u32 (N.w2 (ow2 N c d)), .int .u32 (N.w3 (ow2 N c d)), .int .u32 (N.w0 (ow3 N d)), .int .u32 (N.w1 (ow3 N d)), .int .u32 (N.w2 (ow3 N d)), .int .u32 (N.w3 (ow3 N d)), .int .u32 1, .int .u32 0, .int .u32 0, .int .u32 0])
    else none else none else none else none else none else none else none else none := by kernel_rfl
def wtI (z n k : Int) : Int := N.quo (N.q (N.mul z (N.z (wr .u32 (wr .i64 (n - k))) 0 0 0))) (N.z (wr .u32 n) 0 0 0)
theorem wt_eval (a b c d n k : Int) : evalFn Tryd.prog (orcN N (tabN N) plainL) noLoops 100 66 Tryd.f66 [.agg [.int .u32 a, .int .u32 b, .int .u32 c, .int .u32 d], .int .i64 n, .int .i64 k] [] (fun v _ => some v) =
    bif N.inn a b c d && N.inn (wr .u32 (wr .i64 (n - k))) 0 0 0 then bif N.i (N.mul (N.z a b c d) (N.z (wr .u32 (wr .i64 (n - k))) 0 0 0)) && N.inn (wr .u32 n) 0 0 0 then some (N.nW (wtI N (N.z a b c d) n k)) else none else none := by kernel_rfl
end
end Go.Proofs.YtpalajfcffdhoaaDoor

/- Chapter 6: subset and order: the states of their loops. -/
namespace Go.Proofs.YtpalajfcffdhoaaDoor
open Go Go.Eng
def gWt (N : N6) (K : Int → Int → Int → Bool) (W : Int → Int → Int → Int) : List V → Option (Bool × V)
  | [.agg [.int .u32 a, .int .u32 b, .int .u32 c, .int .u32 d], .int .i64 n, .int .i64 k] => some (N.inn a b c d && K (N.z a b c d) n k, N.nW (W (N.z a b c d) n k))
  | _ => none
def tabW (N : N6) (K : Int → Int → Int → Bool) (W : Int → Int → Int → Int) : PTab := addTab 66 (gWt N K W) (tabN N)
def o : Option TV := none
def i1 : TR := .vs [.int .i64]
def u1 : TR := .vs [.int .u64]
def n4 : TR := .vs [.int .u32, .int .u32, .int .u32, .int .u32]
noncomputable def sbA : Code := rangeA 6 Tryd.f43
noncomputable def sbB : Code := rangeB 6 Tryd.f43
noncomputable def sbLp : Code := loopOf 1 Tryd.f89
def sbF : TS := mkS [(4, .ptr 0 0), (5, .ptr 1 0), (7, .ptr 2 0), (8, .ptr 3 0), (9, .ptr 4 0)] 0 56
noncomputable def sbBl (st : LSt) : List TB := [.own 3 i1, .own 49 n4, .own 23 u1, .own 3 i1, .own 49 n4, .own 23 u1, .defs, .loopB st 43 sbF [23] sbA sbB 6]
noncomputable def sbT : Tm := ⟨mkS [(0, .yield 7), (1, .ptr 5 0), (3, .int .u64)] 0 19, sbBl .ready, []⟩
noncomputable def sbX : Tm := ⟨mkS [] 0 19, sbBl .ready, []⟩
noncomputable def sbD : Tm := ⟨mkS [] 0 19, sbBl (.done (.exit 0)), []⟩
end Go.Proofs.YtpalajfcffdhoaaDoor

/- Chapter 6: subset: one round. -/
namespace Go.Proofs.YtpalajfcffdhoaaDoor
open Go Go.Eng
noncomputable def sbE : XE → Tm
  | .ret => sbD
  | _ => sbX
theorem sbE_ok : ∀ e, (sbE e).ok = true := fun e => by cases e <;> kernel_rfl
abbrev RT := Option (XE × List PV × List (Code × Code))
noncomputable def sbSt (e : XE) (l : List PV) : RT := some (e, l, [(sbA, sbA), (sbB, sbB)])
def shlI (c : Int) : Int := wr .u64 (1 * 2 ^ shAmt .u64 c)
section
variable (N : N6) (K : Int → Int → Int → Bool) (W : Int → Int → Int → Int)
noncomputable def sbK (r c k i0 i1 i2 i3 g n c0 c1 c2 c3 m f : Int) : RT :=
  bif N.inn i0 i1 i2 i3 && N.i f then
    bif decide (N.cmp (N.z i0 i1 i2 i3) (N.q f) < 0) then bif decide (c < 0) then none else
      sbSt .normal [.i (bitsI .andNot .u64 r (shlI c)), .i k, .i i0, .i i1, .i i2, .i i3, .i g, .i (wr .i64 (n - 1)), .i (N.w0 f), .i (N.w1 f), .i (N.w2 f), .i (N.w3 f), .i m]
    else bif decide (c < 0) then none else bif N.inn i0 i1 i2 i3 && N.i f then bif N.inn c0 c1 c2 c3 && N.i f then bif decide (c < 0) then none else
      sbSt .normal [.i (bitsI .andNot .u64 r (shlI c)), .i (wr .i64 (k - 1)), .i (N.w0 (N.sub (N.z i0 i1 i2 i3) (N.q f))), .i (N.w1 (N.sub (N.z i0 i1 i2 i3) (N.q f))), .i (N.w2 (N.sub (N.z i0 i1 i2 i3) (N.q f))), .i (N.w3 (N.sub (N.z i0 i1 i2 i3) (N.q f))),
        .i (bitsI .or .u64 g (shlI c)), .i (wr .i64 (n - 1)), .i (N.w0 (N.sub (N.z c0 c1 c2 c3) (N.q f))), .i (N.w1 (N.sub (N.z c0 c1 c2 c3) (N.q f))), .i (N.w2 (N.sub (N.z c0 c1 c2 c3) (N.q f))), .i (N.w3 (N.sub (N.z c0 c1 c2 c3) (N.q f))), .i m]
    else none else none
  else none
noncomputable def sbN (r c k i0 i1 i2 i3 g n c0 c1 c2 c3 m : Int) : RT := bif !decide (r = 0) then bif N.u r then
  bif decide (k = 0) then sbSt .ret [.i k, .i i0, .i i1, .i i2, .i i3, .i g, .i n, .i c0, .i c1, .i c2, .i c3, .i m]
  else bif N.inn c0 c1 c2 c3 && K (N.z c0 c1 c2 c3) n k then sbK N r c k i0 i1 i2 i3 g n c0 c1 c2 c3 m (W (N.z c0 c1 c2 c3) n k) else none
  else none else sbSt (.exit 0) [.i k, .i i0, .i i1, .i i2, .i i3, .i g, .i n, .i c0, .i c1, .i c2, .i c3, .i m]
theorem sb_round (rd : Option Nat) (r k i0 i1 i2 i3 g n c0 c1 c2 c3 m : Int) : roundX Tryd.prog (orcN N (tabW N K W) plainL) noLoops 100 8 rd 89 sbLp sbT sbT sbE [.i r, .i k, .i i0, .i i1, .i i2, .i i3, .i g, .i n, .i c0, .i c1, .i c2, .i c3, .i m] =
    sbN N K W r (wr .i64 (N.len r - 1)) k i0 i1 i2 i3 g n c0 c1 c2 c3 m := by kernel_rfl
end
end Go.Proofs.YtpalajfcffdhoaaDoor
