/- Chapter 6: the program, with what is known of nat, bits and card as names alone. -/
import Derived.Test.YtpalajfcffdhoaaANat8
import Derived.Test.YtpalajfcffdhoaaAPas
import Derived.Test.YtpalajfcffdhoaaBt
import Derived.Test.YtpalajfcffdhoaaEng4
namespace Go.Proofs.Ytpalajfcffdhoaa
open Go Go.Eng
noncomputable def ftab : FTab := fun i => Try.prog.funcs[i]?
theorem ftab_ok : FTabOk Try.prog ftab := fun _ _ h => h
theorem mixed : Try.prog.follows .mixedOrders = true := by kernel_rfl
def never : FuncId → Bool := fun _ => false
def plainL : FuncId → Loops := fun _ => noLoops
theorem plainL_ok : ∀ f, loopsOk Try.prog (plainL f) := fun _ => noLoops_ok
/-- What is known of the packages below, as names. -/
structure N6 where
  w0 : Int → Int
  w1 : Int → Int
  w2 : Int → Int
  w3 : Int → Int
  z : Int → Int → Int → Int → Int
  inn : Int → Int → Int → Int → Bool
  add : Int → Int → Int
  addE : Int → Int → Int
  sub : Int → Int → Int
  subE : Int → Int → Int
  mul : Int → Int → Int
  mulE : Int → Int → Int
  quo : Int → Int → Int
  rem : Int → Int → Int
  divE : Int → Int
  cmp : Int → Int → Int
  ch : Int → Int → Int
  chE : Int → Int
  oc : Int → Int
  len : Int → Int
  u : Int → Bool
def in64 (x : Int) : Bool := decide (0 ≤ x ∧ x < 18446744073709551616)
theorem in64_iff {x : Int} : in64 x = true ↔ 0 ≤ x ∧ x < 18446744073709551616 := by unfold in64; simp
def lenI (x : Int) : Int := Lib.bitLen x.toNat
def n6 : N6 := ⟨N2.w0, N2.w1, N2.w2, N2.w3, N2.nval, N2.inN, N2.addZ, N2.addE, N2.subZ, N2.subE, N2.mulZ, N2.mulE, N2.divZ, N2.remZ, N2.divE, N2.cmpI, N2.chZ, N2.chE, Deal.cntI, lenI, in64⟩
def N6.nW (N : N6) (x : Int) : V := .agg [.int .u32 (N.w0 x), .int .u32 (N.w1 x), .int .u32 (N.w2 x), .int .u32 (N.w3 x)]
def N6.q (N : N6) (x : Int) : Int := N.z (N.w0 x) (N.w1 x) (N.w2 x) (N.w3 x)
def N6.i (N : N6) (x : Int) : Bool := N.inn (N.w0 x) (N.w1 x) (N.w2 x) (N.w3 x)
def gTwo (N : N6) (F : Int → Int → V) : List V → Option (Bool × V)
  | [.agg [.int .u32 a, .int .u32 b, .int .u32 c, .int .u32 d], .agg [.int .u32 e, .int .u32 f, .int .u32 g, .int .u32 h]] => some (N.inn a b c d && N.inn e f g h, F (N.z a b c d) (N.z e f g h))
  | _ => none
def gCh (N : N6) : List V → Option (Bool × V)
  | [.int .i64 n, .int .i64 k] => some (true, .tuple [N.nW (N.ch n k), .int .i64 (N.chE n)])
  | _ => none
def gOc (N : N6) : List V → Option (Bool × V)
  | [.int .u64 x] => some (N.u x, .int .i64 (N.oc x))
  | _ => none
def gLn (N : N6) : List V → Option (Bool × V)
  | [.int .u64 x] => some (N.u x, .int .i64 (N.len x))
  | _ => none
def tabN (N : N6) : PTab := addTab 16 (gTwo N fun x y => .tuple [N.nW (N.add x y), .int .i64 (N.addE x y)]) (addTab 33 (gTwo N fun x y => .tuple [N.nW (N.sub x y), .int .i64 (N.subE x y)])
  (addTab 22 (gTwo N fun x y => .tuple [N.nW (N.quo x y), N.nW (N.rem x y), .int .i64 (N.divE y)]) (addTab 21 (gTwo N fun x y => .int .i64 (N.cmp x y)) (addTab 58 (gCh N) (addTab 34 (gOc N) (addTab 86 (gLn N) emptyTab))))))
def gMul (N : N6) : List V → List Blk → Option (Bool × V × List Blk)
  | [.gs 0], [.rs true 4 (.ints .u32 [a, b, c, d, e, f, g, h])] => some (N.inn a b c d && N.inn e f g h, .tuple [N.nW (N.mul (N.z a b c d) (N.z e f g h)), .int .i64 (N.mulE (N.z a b c d) (N.z e f g h))], [])
  | _, _ => none
def hTabN (N : N6) : HTab := addH 48 (gMul N) emptyH
def domN : FuncId → Bool := fun f => Nat.beq f 48
def nrN : FuncId → Option Row := fun _ => none
noncomputable abbrev orcN (N : N6) (T : PTab) (LL : FuncId → Loops) : Oracle := inl Try.prog ftab T LL 100 never domN (hOrcP nrN (hTabN N)) 20
theorem hTabN_ok : HTabOk Try.prog (hTabN n6) := N2.hTabM_ok
/-! ### how many ones -/
theorem oc_eval (m : Int) : evalFn Try.prog (N2.orcP emptyTab plainL) noLoops 100 34 Try.f34 [.int .u64 m] [] (fun v _ => some v) = some (.int .i64 (Deal.ocI m)) := by kernel_rfl
theorem oc_p {m : Int} (h : in64 m = true) : FnPure Try.prog 34 [.int .u64 m] (.int .i64 (Deal.cntI m)) := by
  rw [in64_iff] at h
  refine fnPure_of_eval (N := 100) (N2.orcP_ok emptyTab_ok plainL_ok) mixed Try.func34 (by kernel_rfl) noLoops_ok ?_ rfl rfl
  rw [oc_eval]
  obtain ⟨n, rfl⟩ : ∃ n : Nat, m = n := ⟨m.toNat, by omega⟩
  rw [Deal.oc_eq (by omega)]
theorem tabN_ok : PTabOk Try.prog (tabN n6) := by
  refine addTab_ok ?_ (addTab_ok ?_ (addTab_ok ?_ (addTab_ok ?_ (addTab_ok ?_ (addTab_ok ?_ (addTab_ok ?_ emptyTab_ok))))))
  · intro args c v h hc
    unfold gTwo at h
    split at h
    · cases h; rw [Bool.and_eq_true] at hc; exact N2.add_p hc.1 hc.2
    · cases h
  · intro args c v h hc
    unfold gTwo at h
    split at h
    · cases h; rw [Bool.and_eq_true] at hc; exact N2.sub_p hc.1 hc.2
    · cases h
  · intro args c v h hc
    unfold gTwo at h
    split at h
    · cases h; rw [Bool.and_eq_true] at hc; exact N2.div_p hc.1 hc.2
    · cases h
  · intro args c v h hc
    unfold gTwo at h
    split at h
    · cases h; rw [Bool.and_eq_true] at hc; exact N2.cmp_p hc.1 hc.2
    · cases h
  · intro args c v h hc
    unfold gCh at h
    split at h
    · cases h; exact N2.choose_p _ _
    · cases h
  · intro args c v h hc
    unfold gOc at h
    split at h
    · cases h; exact oc_p hc
    · cases h
  · intro args c v h hc
    unfold gLn at h
    split at h
    · cases h
      have h2 := in64_iff.1 hc
      exact pure_of_same (.of Try.func86 (by kernel_rfl)) rfl rfl fun w => Try.bits_Len64 _ w h2.1 (by omega)
    · cases h
theorem orcN_ok {T : PTab} (hT : PTabOk Try.prog T) {LL : FuncId → Loops} (hL : ∀ f, loopsOk Try.prog (LL f)) : OracleOk Try.prog (orcN n6 T LL) := inl_ok (hOrcP_ok hTabN_ok) ftab_ok hT hL mixed 20
end Go.Proofs.Ytpalajfcffdhoaa
