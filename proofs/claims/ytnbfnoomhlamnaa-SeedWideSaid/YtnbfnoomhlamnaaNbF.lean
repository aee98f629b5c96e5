/- Chapter 3: BelowNat: what the function answers, as a formula. -/
import Derived.Test.YtnbfnoomhlamnaaNbS
namespace Go.Proofs.Ytnbfnoomhlamnaa
open Go Go.Eng
def NB.ws {R : Type} (N : NB) (z : Int) (K : Int → Int → Int → Int → R) : R := K (N.w0 z) (N.w1 z) (N.w2 z) (N.w3 z)
/-- From the product of the base's powers on. -/
noncomputable def nbRest (N : NB) (k : Nat) (s a0 a1 a2 a3 n0 n1 n2 n3 : Int) : Option V :=
  bif N.inn a0 a1 a2 a3 && N.inn n0 n1 n2 n3 then
    N.ws (N.rem (N.z a0 a1 a2 a3) (N.z n0 n1 n2 n3)) fun o0 o1 o2 o3 => bif N.inn a0 a1 a2 a3 && N.inn o0 o1 o2 o3 then
      N.ws (N.sub (N.z a0 a1 a2 a3) (N.z o0 o1 o2 o3)) fun m0 m1 m2 m3 =>
        nbD N 2147483646 0 0 0 k s 0 0 0 0 1 0 0 0 (fun s' v0 v1 v2 v3 =>
          bif codesB [(nbLp, nbLp)] then bif true && (rightB s' && (true && (true && (true && (true && (N.inn m0 m1 m2 m3 && N.inn v0 v1 v2 v3)))))) then
            N.ws (N.lv k s' (N.z m0 m1 m2 m3) (N.z v0 v1 v2 v3)) fun x0 x1 x2 x3 => bif N.inn x0 x1 x2 x3 && N.inn n0 n1 n2 n3 then
              some (.tuple [.int .i64 (N.ls k s' (N.z m0 m1 m2 m3) (N.z v0 v1 v2 v3)), N.nW (N.rem (N.z x0 x1 x2 x3) (N.z n0 n1 n2 n3)), .int .i64 0]) else none
            else none else none) else none else none
noncomputable def nbGo (N : NB) : Nat → Nat → Int → Int → Int → Int → Int → Int → Int → Int → Int → Option V
  | 0, _, _, _, _, _, _, _, _, _, _ => none
  | u + 1, k, s, a0, a1, a2, a3, n0, n1, n2, n3 => bif N.inn a0 a1 a2 a3 && N.inn n0 n1 n2 n3 then bif decide (N.cmp (N.z a0 a1 a2 a3) (N.z n0 n1 n2 n3) < 0) then
      bif N.inn a0 a1 a2 a3 && N.inn 2147483646 0 0 0 then N.ws (N.mul (N.z a0 a1 a2 a3) (N.z 2147483646 0 0 0)) fun b0 b1 b2 b3 => nbGo N u (k + 1) s b0 b1 b2 b3 n0 n1 n2 n3 else none
    else nbRest N k s a0 a1 a2 a3 n0 n1 n2 n3 else none
noncomputable def dec2 : Loops := decs fun r => match r with | 2 => some false | _ => none
theorem nb_eval (N : NB) (s n0 n1 n2 n3 : Int) : evalFn Try.prog (orcB2 N) dec2 4 20 Try.f20 [.int .i64 s, .agg [.int .u32 n0, .int .u32 n1, .int .u32 n2, .int .u32 n3]] [] (fun v _ => some v) =
    bif !rightB s then none else bif zeroB n0 n1 n2 n3 then none else bif N.inn n0 n1 n2 n3 && N.inn 0 0 0 16777216 then bif decide (0 < N.cmp (N.z n0 n1 n2 n3) (N.z 0 0 0 16777216)) then none else
      nbGo N 4 1 s 2147483646 0 0 0 n0 n1 n2 n3 else none := by kernel_rfl
end Go.Proofs.Ytnbfnoomhlamnaa
