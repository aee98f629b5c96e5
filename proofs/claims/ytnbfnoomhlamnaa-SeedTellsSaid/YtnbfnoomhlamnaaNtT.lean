/- Texts merged: NtT, LTells3. -/
import Derived.Test.YtnbfnoomhlamnaaRnP
/- Chapter 3: SeedTells: the contracts as names; the law. -/
namespace Go.Proofs.Ytnbfnoomhlamnaa
open Go Go.Eng
structure NT where
  B : NB
  of : Int → Int
  rt : Int → Bool
  bs : Int → Int → Int
  bv : Int → Int → Int
  be : Int → Int → Int
  ns : Int → Int
  nv : Int → Int
  ne : Int → Int
  js : Int → Int → Int
  je : Int → Int
  zs : Int → Int → Int
  zv : Int → Int → Int
  ze : Int → Int → Int
def nT : NT := ⟨nB, ofI, rightB, belowS, belowV, fun s n => errI (!belowB s n), nextS, nextV, fun s => errI (rightB s), jumpI, fun s => errI (rightB s), natS, natV, fun s z => errI (!natBz s z)⟩
def tBelow (G : NT) : List V → Option (Bool × V)
  | [.int .i64 s, .int .i64 n] => some (true, .tuple [.int .i64 (G.bs s n), .int .i64 (G.bv s n), .int .i64 (G.be s n)])
  | _ => none
def tNext (G : NT) : List V → Option (Bool × V)
  | [.int .i64 s] => some (true, .tuple [.int .i64 (G.ns s), .int .i64 (G.nv s), .int .i64 (G.ne s)])
  | _ => none
def tJump (G : NT) : List V → Option (Bool × V)
  | [.int .i64 s, .int .i64 k] => some (true, .tuple [.int .i64 (G.js s k), .int .i64 (G.je s)])
  | _ => none
def tOf (G : NT) : List V → Option (Bool × V)
  | [.int .i64 n] => some (true, .int .i64 (G.of n))
  | _ => none
def tRight (G : NT) : List V → Option (Bool × V)
  | [.int .i64 n] => some (true, .bool (G.rt n))
  | _ => none
def tNat (G : NT) : List V → Option (Bool × V)
  | [.int .i64 s, .agg [.int .u32 a, .int .u32 b, .int .u32 c, .int .u32 d]] => some (G.B.inn a b c d, .tuple [.int .i64 (G.zs s (G.B.z a b c d)), G.B.nW (G.zv s (G.B.z a b c d)), .int .i64 (G.ze s (G.B.z a b c d))])
  | _ => none
def tabT (G : NT) : PTab := addTab 11 gAwake (addTab 12 (tOf G) (addTab 43 (tOf G) (addTab 13 (tJump G) (addTab 39 (tJump G) (addTab 14 (tNext G) (addTab 38 (tNext G) (addTab 17 (tBelow G) (addTab 40 (tBelow G) (addTab 15 (tRight G) (addTab 42 (tRight G)
  (addTab 20 (tNat G) (addTab 41 (tNat G) emptyTab))))))))))))
theorem tBelow_ok {f : FuncId} (H : ∀ s n, FnPure Try.prog f [.int .i64 s, .int .i64 n] (.tuple [.int .i64 (belowS s n), .int .i64 (belowV s n), .int .i64 (errI (!belowB s n))])) : ∀ args c v, tBelow nT args = some (c, v) → c = true → FnPure Try.prog f args v := by
  intro args c v h _
  unfold tBelow at h
  split at h
  · cases h; exact H _ _
  · cases h
theorem tNext_ok {f : FuncId} (H : ∀ s, FnPure Try.prog f [.int .i64 s] (.tuple [.int .i64 (nextS s), .int .i64 (nextV s), .int .i64 (errI (rightB s))])) : ∀ args c v, tNext nT args = some (c, v) → c = true → FnPure Try.prog f args v := by
  intro args c v h _
  unfold tNext at h
  split at h
  · cases h; exact H _
  · cases h
theorem tJump_ok {f : FuncId} (H : ∀ s k, FnPure Try.prog f [.int .i64 s, .int .i64 k] (.tuple [.int .i64 (jumpI s k), .int .i64 (errI (rightB s))])) : ∀ args c v, tJump nT args = some (c, v) → c = true → FnPure Try.prog f args v := by
  intro args c v h _
  unfold tJump at h
  split at h
  · cases h; exact H _ _
  · cases h
theorem tOf_ok {f : FuncId} (H : ∀ s, FnPure Try.prog f [.int .i64 s] (.int .i64 (ofI s))) : ∀ args c v, tOf nT args = some (c, v) → c = true → FnPure Try.prog f args v := by
  intro args c v h _
  unfold tOf at h
  split at h
  · cases h; exact H _
  · cases h
theorem tRight_ok {f : FuncId} (H : ∀ s, FnPure Try.prog f [.int .i64 s] (.bool (rightB s))) : ∀ args c v, tRight nT args = some (c, v) → c = true → FnPure Try.prog f args v := by
  intro args c v h _
  unfold tRight at h
  split at h
  · cases h; exact H _
  · cases h
theorem tNat_ok {f : FuncId} (H : ∀ s n0 n1 n2 n3, N2.inN n0 n1 n2 n3 = true → FnPure Try.prog f [.int .i64 s, .agg [.int .u32 n0, .int .u32 n1, .int .u32 n2, .int .u32 n3]]
    (.tuple [.int .i64 (natS s (N2.nval n0 n1 n2 n3)), N2.nW (natV s (N2.nval n0 n1 n2 n3)), .int .i64 (errI (!natBz s (N2.nval n0 n1 n2 n3)))])) : ∀ args c v, tNat nT args = some (c, v) → c = true → FnPure Try.prog f args v := by
  intro args c v h hc
  unfold tNat at h
  split at h
  · cases h; exact H _ _ _ _ _ hc
  · cases h
theorem tabT_ok : PTabOk Try.prog (tabT nT) :=
  addTab_ok gAwake_ok (addTab_ok (tOf_ok of_pure) (addTab_ok (tOf_ok rof_pure) (addTab_ok (tJump_ok jump_pure) (addTab_ok (tJump_ok rjump_pure) (addTab_ok (tNext_ok next_pure) (addTab_ok (tNext_ok rnext_pure) (addTab_ok (tBelow_ok below_pure) (addTab_ok (tBelow_ok rbelow_pure)
    (addTab_ok (tRight_ok right_pure) (addTab_ok (tRight_ok rright_pure) (addTab_ok (tNat_ok fun _ _ _ _ _ h => nat_pure h) (addTab_ok (tNat_ok fun _ _ _ _ _ h => rnat_pure h) emptyTab_ok))))))))))))
end Go.Proofs.Ytnbfnoomhlamnaa

/- Chapter 3: SeedTells: its formula is true. -/
namespace Go.Proofs.Ytnbfnoomhlamnaa
open Go Go.Eng
/-- What the laws' comparisons come to. -/
def tellF (G : NT) (s k n0 n1 n2 n3 : Int) (r : Option V) : Option V :=
  bif G.B.inn n0 n1 n2 n3 then bif G.B.inn n0 n1 n2 n3 then
  bif !decide (G.ns s = G.ns s) then some (.bool false) else
  bif !decide (G.nv s = G.nv s) then some (.bool false) else
  bif !decide (G.js s k = G.js s k) then some (.bool false) else
  bif !decide (G.bs s k = G.bs s k) then some (.bool false) else
  bif !decide (G.bv s k = G.bv s k) then some (.bool false) else
  bif !decide (G.zs s (G.B.z n0 n1 n2 n3) = G.zs s (G.B.z n0 n1 n2 n3)) then some (.bool false) else
  bif !(decide (G.B.w0 (G.zv s (G.B.z n0 n1 n2 n3)) = G.B.w0 (G.zv s (G.B.z n0 n1 n2 n3))) && (decide (G.B.w1 (G.zv s (G.B.z n0 n1 n2 n3)) = G.B.w1 (G.zv s (G.B.z n0 n1 n2 n3))) && (decide (G.B.w2 (G.zv s (G.B.z n0 n1 n2 n3)) = G.B.w2 (G.zv s (G.B.z n0 n1 n2 n3))) && (decide (G.B.w3 (G.zv s (G.B.z n0 n1 n2 n3)) = G.B.w3 (G.zv s (G.B.z n0 n1 n2 n3))) && true)))) then some (.bool false) else
  bif !decide (G.ne s = G.ne s) then some (.bool false) else
  bif !decide (G.je s = G.je s) then some (.bool false) else
  bif !decide (G.be s k = G.be s k) then some (.bool false) else
  bif !decide (G.ze s (G.B.z n0 n1 n2 n3) = G.ze s (G.B.z n0 n1 n2 n3)) then some (.bool false) else
  bif bif G.rt s then G.rt s else !G.rt s then r else some (.bool false) else none else none
theorem tell7_eval (G : NT) (s k n0 n1 n2 n3 : Int) : evalAt (tabT G) plainL 7 Try.f7 [.int .i64 s, .int .i64 k, .agg [.int .u32 n0, .int .u32 n1, .int .u32 n2, .int .u32 n3]] =
    tellF G s k n0 n1 n2 n3 (bif decide (G.of k = G.of k) then some (.bool true) else some (.bool false)) := by kernel_rfl
theorem tell19_eval (G : NT) (s k n0 n1 n2 n3 : Int) : evalAt (tabT G) plainL 19 Try.f19 [.int .i64 s, .int .i64 k, .agg [.int .u32 n0, .int .u32 n1, .int .u32 n2, .int .u32 n3]] =
    tellF G s k n0 n1 n2 n3 (some (.bool (decide (G.of k = G.of k)))) := by kernel_rfl
theorem tellF_is {G : NT} {s k n0 n1 n2 n3 : Int} {r : Option V} (h : G.B.inn n0 n1 n2 n3 = true) : tellF G s k n0 n1 n2 n3 r = r := by
  unfold tellF
  simp only [h, decide_true, Bool.and_self, Bool.not_true, cond_true, cond_false]
  cases G.rt s <;> rfl
theorem tells7_pure {s k n0 n1 n2 n3 : Int} (h : N2.inN n0 n1 n2 n3 = true) : FnPure Try.prog 7 [.int .i64 s, .int .i64 k, .agg [.int .u32 n0, .int .u32 n1, .int .u32 n2, .int .u32 n3]] (.bool true) := by
  refine pure_at tabT_ok plainL_ok Try.func7 (by kernel_rfl) ?_ rfl rfl
  rw [tell7_eval, tellF_is (G := nT) h, decide_eq_true rfl]; rfl
theorem tells19_pure {s k n0 n1 n2 n3 : Int} (h : N2.inN n0 n1 n2 n3 = true) : FnPure Try.prog 19 [.int .i64 s, .int .i64 k, .agg [.int .u32 n0, .int .u32 n1, .int .u32 n2, .int .u32 n3]] (.bool true) := by
  refine pure_at tabT_ok plainL_ok Try.func19 (by kernel_rfl) ?_ rfl rfl
  rw [tell19_eval, tellF_is (G := nT) h, decide_eq_true rfl]
end Go.Proofs.Ytnbfnoomhlamnaa
