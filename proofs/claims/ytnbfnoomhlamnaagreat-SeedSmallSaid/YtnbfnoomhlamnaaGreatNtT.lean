/- Texts merged: NtT, LTells3, Ss1. -/
import Derived.Test.YtnbfnoomhlamnaaGreatRnP
import Derived.Test.YtnbfnoomhlamnaaGreatFs3
import Derived.Test.YtnbfnoomhlamnaaGreatEng5
/- Chapter 3: SeedTells: the contracts as names; the law. -/
namespace Go.Proofs.YtnbfnoomhlamnaaGreat
open Go Go.Eng
structure NT where
  B : NB
  of : Int → Int
  rt : Int → Bool
  bs : Int → Int → Int
  bv : Int → Int → Int
  be : Int → Int → Int
  ns : Int → Int
  nv : Int → Int
  ne : Int → Int
  js : Int → Int → Int
  je : Int → Int
  zs : Int → Int → Int
  zv : Int → Int → Int
  ze : Int → Int → Int
def nT : NT := ⟨nB, ofI, rightB, belowS, belowV, fun s n => errI (!belowB s n), nextS, nextV, fun s => errI (rightB s), jumpI, fun s => errI (rightB s), natS, natV, fun s z => errI (!natBz s z)⟩
def tBelow (G : NT) : List V → Option (Bool × V)
  | [.int .i64 s, .int .i64 n] => some (true, .tuple [.int .i64 (G.bs s n), .int .i64 (G.bv s n), .int .i64 (G.be s n)])
  | _ => none
def tNext (G : NT) : List V → Option (Bool × V)
  | [.int .i64 s] => some (true, .tuple [.int .i64 (G.ns s), .int .i64 (G.nv s), .int .i64 (G.ne s)])
  | _ => none
def tJump (G : NT) : List V → Option (Bool × V)
  | [.int .i64 s, .int .i64 k] => some (true, .tuple [.int .i64 (G.js s k), .int .i64 (G.je s)])
  | _ => none
def tOf (G : NT) : List V → Option (Bool × V)
  | [.int .i64 n] => some (true, .int .i64 (G.of n))
  | _ => none
def tRight (G : NT) : List V → Option (Bool × V)
  | [.int .i64 n] => some (true, .bool (G.rt n))
  | _ => none
def tNat (G : NT) : List V → Option (Bool × V)
  | [.int .i64 s, .agg [.int .u32 a, .int .u32 b, .int .u32 c, .int .u32 d]] => some (G.B.inn a b c d, .tuple [.int .i64 (G.zs s (G.B.z a b c d)), G.B.nW (G.zv s (G.B.z a b c d)), .int .i64 (G.ze s (G.B.z a b c d))])
  | _ => none
def tabT (G : NT) : PTab := addTab 12 gAwake (addTab 5 (tOf G) (addTab 27 (tOf G) (addTab 19 (tJump G) (addTab 20 (tJump G) (addTab 10 (tNext G) (addTab 18 (tNext G) (addTab 21 (tBelow G) (addTab 22 (tBelow G) (addTab 25 (tRight G) (addTab 26 (tRight G)
  (addTab 23 (tNat G) (addTab 24 (tNat G) emptyTab))))))))))))
theorem tBelow_ok {f : FuncId} (H : ∀ s n, FnPure Tryz.prog f [.int .i64 s, .int .i64 n] (.tuple [.int .i64 (belowS s n), .int .i64 (belowV s n), .int .i64 (errI (!belowB s n))])) : ∀ args c v, tBelow nT args = some (c, v) → c = true → FnPure Tryz.prog f args v := by
  intro args c v h _
  unfold tBelow at h
  split at h
  · cases h; exact H _ _
  · cases h
theorem tNext_ok {f : FuncId} (H : ∀ s, FnPure Tryz.prog f [.int .i64 s] (.tuple [.int .i64 (nextS s), .int .i64 (nextV s), .int .i64 (errI (rightB s))])) : ∀ args c v, tNext nT args = some (c, v) → c = true → FnPure Tryz.prog f args v := by
  intro args c v h _
  unfold tNext at h
  split at h
  · cases h; exact H _
  · cases h
theorem tJump_ok {f : FuncId} (H : ∀ s k, FnPure Tryz.prog f [.int .i64 s, .int .i64 k] (.tuple [.int .i64 (jumpI s k), .int .i64 (errI (rightB s))])) : ∀ args c v, tJump nT args = some (c, v) → c = true → FnPure Tryz.prog f args v := by
  intro args c v h _
  unfold tJump at h
  split at h
  · cases h; exact H _ _
  · cases h
theorem tOf_ok {f : FuncId} (H : ∀ s, FnPure Tryz.prog f [.int .i64 s] (.int .i64 (ofI s))) : ∀ args c v, tOf nT args = some (c, v) → c = true → FnPure Tryz.prog f args v := by
  intro args c v h _
  unfold tOf at h
  split at h
  · cases h; exact H _
  · cases h
theorem tRight_ok {f : FuncId} (H : ∀ s, FnPure Tryz.prog f [.int .i64 s] (.bool (rightB s))) : ∀ args c v, tRight nT args = some (c, v) → c = true → FnPure Tryz.prog f args v := by
  intro args c v h _
  unfold tRight at h
  split at h
  · cases h; exact H _
  · cases h
theorem tNat_ok {f : FuncId} (H : ∀ s n0 n1 n2 n3, N2.inN n0 n1 n2 n3 = true → FnPure Tryz.prog f [.int .i64 s, .agg [.int .u32 n0, .int .u32 n1, .int .u32 n2, .int .u32 n3]]
    (.tuple [.int .i64 (natS s (N2.nval n0 n1 n2 n3)), N2.nW (natV s (N2.nval n0 n1 n2 n3)), .int .i64 (errI (!natBz s (N2.nval n0 n1 n2 n3)))])) : ∀ args c v, tNat nT args = some (c, v) → c = true → FnPure Tryz.prog f args v := by
  intro args c v h hc
  unfold tNat at h
  split at h
  · cases h; exact H _ _ _ _ _ hc
  · cases h
theorem tabT_ok : PTabOk Tryz.prog (tabT nT) :=
  addTab_ok gAwake_ok (addTab_ok (tOf_ok of_pure) (addTab_ok (tOf_ok rof_pure) (addTab_ok (tJump_ok jump_pure) (addTab_ok (tJump_ok rjump_pure) (addTab_ok (tNext_ok next_pure) (addTab_ok (tNext_ok rnext_pure) (addTab_ok (tBelow_ok below_pure) (addTab_ok (tBelow_ok rbelow_pure)
    (addTab_ok (tRight_ok right_pure) (addTab_ok (tRight_ok rright_pure) (addTab_ok (tNat_ok fun _ _ _ _ _ h => nat_pure h) (addTab_ok (tNat_ok fun _ _ _ _ _ h => rnat_pure h) emptyTab_ok))))))))))))
end Go.Proofs.YtnbfnoomhlamnaaGreat

/- Chapter 3: SeedTells: its formula is true. -/
namespace Go.Proofs.YtnbfnoomhlamnaaGreat
open Go Go.Eng
/-- What the laws' comparisons come to. -/
def tellF (G : NT) (s k n0 n1 n2 n3 : Int) (r : Option V) : Option V :=
  bif G.B.inn n0 n1 n2 n3 then bif G.B.inn n0 n1 n2 n3 then
  bif !decide (G.ns s = G.ns s) then some (.bool false) else
  bif !decide (G.nv s = G.nv s) then some (.bool false) else
  bif !decide (G.js s k = G.js s k) then some (.bool false) else
  bif !decide (G.bs s k = G.bs s k) then some (.bool false) else
  bif !decide (G.bv s k = G.bv s k) then some (.bool false) else
  bif !decide (G.zs s (G.B.z n0 n1 n2 n3) = G.zs s (G.B.z n0 n1 n2 n3)) then some (.bool false) else
  bif !(decide (G.B.w0 (G.zv s (G.B.z n0 n1 n2 n3)) = G.B.w0 (G.zv s (G.B.z n0 n1 n2 n3))) && (decide (G.B.w1 (G.zv s (G.B.z n0 n1 n2 n3)) = G.B.w1 (G.zv s (G.B.z n0 n1 n2 n3))) && (decide (G.B.w2 (G.zv s (G.B.z n0 n1 n2 n3)) = G.B.w2 (G.zv s (G.B.z n0 n1 n2 n3))) && (decide (G.B.w3 (G.zv s (G.B.z n0 n1 n2 n3)) = G.B.w3 (G.zv s (G.B.z n0 n1 n2 n3))) && true)))) then some (.bool false) else
  bif !decide (G.ne s = G.ne s) then some (.bool false) else
  bif !decide (G.je s = G.je s) then some (.bool false) else
  bif !decide (G.be s k = G.be s k) then some (.bool false) else
  bif !decide (G.ze s (G.B.z n0 n1 n2 n3) = G.ze s (G.B.z n0 n1 n2 n3)) then some (.bool false) else
  bif bif G.rt s then G.rt s else !G.rt s then r else some (.bool false) else none else none
theorem tell19_eval (G : NT) (s k n0 n1 n2 n3 : Int) : evalAt (tabT G) plainL 8 Tryz.f8 [.int .i64 s, .int .i64 k, .agg [.int .u32 n0, .int .u32 n1, .int .u32 n2, .int .u32 n3]] =
    tellF G s k n0 n1 n2 n3 (some (.bool (decide (G.of k = G.of k)))) := by kernel_rfl
theorem tellF_is {G : NT} {s k n0 n1 n2 n3 : Int} {r : Option V} (h : G.B.inn n0 n1 n2 n3 = true) : tellF G s k n0 n1 n2 n3 r = r := by
  unfold tellF
  simp only [h, decide_true, Bool.and_self, Bool.not_true, cond_true, cond_false]
  cases G.rt s <;> rfl
theorem tells19_pure {s k n0 n1 n2 n3 : Int} (h : N2.inN n0 n1 n2 n3 = true) : FnPure Tryz.prog 8 [.int .i64 s, .int .i64 k, .agg [.int .u32 n0, .int .u32 n1, .int .u32 n2, .int .u32 n3]] (.bool true) := by
  refine pure_at tabT_ok plainL_ok Tryz.func8 (by kernel_rfl) ?_ rfl rfl
  rw [tell19_eval, tellF_is (G := nT) h, decide_eq_true rfl]
end Go.Proofs.YtnbfnoomhlamnaaGreat

/- Chapter 3: SeedSmall: contracts by name; templates. -/
namespace Go.Proofs.YtnbfnoomhlamnaaGreat
open Go Go.Eng
structure QS where
  OF : Int → Int
  NX : Int → Int
  NV : Int → Int
  NE : Int → Int
  IN : Int → Int → Int → Int → Bool
  A : Nat → List Int → Int
  B : Nat → List Int → Int
  S : SN
def gQOf (Q : QS) : List V → Option (Bool × V)
  | [.int .i64 n] => some (true, .int .i64 (Q.OF n))
  | _ => none
def gQNx (Q : QS) : List V → Option (Bool × V)
  | [.int .i64 s] => some (true, .tuple [.int .i64 (Q.NX s), .int .i64 (Q.NV s), .int .i64 (Q.NE s)])
  | _ => none
def gQTwo (IN : Int → Int → Int → Int → Bool) (A : Nat → List Int → Int) : List V → Option (Bool × V)
  | [.agg [.int .u32 a, .int .u32 b, .int .u32 c, .int .u32 d], .agg [.int .u32 e, .int .u32 f, .int .u32 g, .int .u32 h]] =>
    some (IN a b c d && IN e f g h, .tuple [.agg [.int .u32 (A 0 [a, b, c, d, e, f, g, h]), .int .u32 (A 1 [a, b, c, d, e, f, g, h]), .int .u32 (A 2 [a, b, c, d, e, f, g, h]), .int .u32 (A 3 [a, b, c, d, e, f, g, h])], .int .i64 (A 4 [a, b, c, d, e, f, g, h])])
  | _ => none
def gQTe (Q : QS) : List V → Option (Bool × V)
  | [.int .i64 _, .int .i64 _, .agg [.int .u32 a, .int .u32 b, .int .u32 c, .int .u32 d]] => some (Q.IN a b c d, .bool true)
  | _ => none
def tabQ (Q : QS) : PTab := addTab 5 (gQOf Q) (addTab 10 (gQNx Q) (addTab 6 (gQTwo Q.IN Q.A) (addTab 7 (gQTwo Q.IN Q.B) (addTab 8 (gQTe Q) (addTab 12 gAwake emptyTab)))))
def hTabQ (Q : QS) : HTab := addH 9 gS10 (addH 11 (gS18 Q.S) N2.hTabM)
def domQ : FuncId → Bool := fun f => Nat.beq f 9 || (Nat.beq f 11 || Nat.beq f 4)
def nrQ : FuncId → Option Row := fun f => bif Nat.beq f 9 then some (.ints .i64 []) else none
noncomputable abbrev orcQ (Q : QS) : Oracle := inl Tryz.prog ftab (tabQ Q) plainL 100 never domQ (hOrcN glS nrQ (hTabQ Q)) 20
noncomputable def smLp3 : Code := loopOf 11 Tryz.f3
noncomputable def smLp2 : Code := loopOf 7 Tryz.f3
def smT3 : Tm := ⟨mkS [(1, .gs 0), (2, .gs 1), (5, .int .i64), (6, .int .i64), (7, .int .i64), (8, .int .i64), (42, .gs 0), (43, .int .i64), (44, .int .i64)] 0 189, [.grow true 3 1 (.ints .i64), .grow true 25 4 (.ints .u32)], []⟩
def smX3 : Tm := ⟨mkS [(1, .gs 0), (2, .gs 1), (5, .int .i64), (6, .int .i64), (7, .int .i64), (42, .gs 0), (43, .int .i64), (44, .int .i64)] 0 189, [.grow true 3 1 (.ints .i64), .grow true 25 4 (.ints .u32)], []⟩
def smT2 : Tm := ⟨mkS [(1, .gs 0), (2, .gs 1), (42, .gs 0), (43, .int .i64), (44, .int .i64)] 0 189, [.grow true 3 1 (.ints .i64), .grow true 25 4 (.ints .u32)], []⟩
def smX2 : Tm := ⟨mkS [] 0 189, [], []⟩
end Go.Proofs.YtnbfnoomhlamnaaGreat
