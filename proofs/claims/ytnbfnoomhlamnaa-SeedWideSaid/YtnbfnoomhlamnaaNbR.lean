/- Chapter 3: BelowNat: one round of the loop in which it draws. -/
import Derived.Test.YtnbfnoomhlamnaaNbT
namespace Go.Proofs.Ytnbfnoomhlamnaa
open Go Go.Eng
abbrev RTb := Option (XE × List PV × List (Code × Code))
/-- A draw of so many values: the words of the sum and of the scale. -/
noncomputable def nbD {R : Type} (N : NB) (b0 b1 b2 b3 : Int) : Nat → Int → Int → Int → Int → Int → Int → Int → Int → Int → (Int → Int → Int → Int → Int → Option R) → Option R
  | 0, s, a0, a1, a2, a3, _, _, _, _, K => K s a0 a1 a2 a3
  | k + 1, s, a0, a1, a2, a3, c0, c1, c2, c3, K => bif N.inn c0 c1 c2 c3 && N.inn (wr .u32 (wr .i64 (mulP s 48271 - 1))) 0 0 0 then
      bif N.inn a0 a1 a2 a3 && N.inn (N.w0 (N.mul (N.z c0 c1 c2 c3) (N.z (wr .u32 (wr .i64 (mulP s 48271 - 1))) 0 0 0))) (N.w1 (N.mul (N.z c0 c1 c2 c3) (N.z (wr .u32 (wr .i64 (mulP s 48271 - 1))) 0 0 0))) (N.w2 (N.mul (N.z c0 c1 c2 c3) (N.z (wr .u32 (wr .i64 (mulP s 48271 - 1))) 0 0 0))) (N.w3 (N.mul (N.z c0 c1 c2 c3) (N.z (wr .u32 (wr .i64 (mulP s 48271 - 1))) 0 0 0))) then
      bif N.inn c0 c1 c2 c3 && N.inn b0 b1 b2 b3 then
        (fun A C => nbD N b0 b1 b2 b3 k (mulP s 48271) (N.w0 A) (N.w1 A) (N.w2 A) (N.w3 A) (N.w0 C) (N.w1 C) (N.w2 C) (N.w3 C) K)
          (N.add (N.z a0 a1 a2 a3) (N.z (N.w0 (N.mul (N.z c0 c1 c2 c3) (N.z (wr .u32 (wr .i64 (mulP s 48271 - 1))) 0 0 0))) (N.w1 (N.mul (N.z c0 c1 c2 c3) (N.z (wr .u32 (wr .i64 (mulP s 48271 - 1))) 0 0 0))) (N.w2 (N.mul (N.z c0 c1 c2 c3) (N.z (wr .u32 (wr .i64 (mulP s 48271 - 1))) 0 0 0))) (N.w3 (N.mul (N.z c0 c1 c2 c3) (N.z (wr .u32 (wr .i64 (mulP s 48271 - 1))) 0 0 0)))))
          (N.mul (N.z c0 c1 c2 c3) (N.z b0 b1 b2 b3)) else none else none else none
noncomputable def nbE (N : NB) (k : Nat) (i s n0 n1 n2 n3 r0 r1 r2 r3 b0 b1 b2 b3 m0 m1 m2 m3 v0 v1 v2 v3 : Int) : RTb :=
  bif decide (i < 100) then bif N.inn v0 v1 v2 v3 && N.inn m0 m1 m2 m3 then bif decide (N.cmp (N.z v0 v1 v2 v3) (N.z m0 m1 m2 m3) < 0) then some (.exit 0, [.i s, .i n0, .i n1, .i n2, .i n3, .i r0, .i r1, .i r2, .i r3, .i b0, .i b1, .i b2, .i b3, .i m0, .i m1, .i m2, .i m3, .i v0, .i v1, .i v2, .i v3], []) else
    nbD N b0 b1 b2 b3 k s 0 0 0 0 1 0 0 0 (fun s' a0 a1 a2 a3 => some (.normal, [.i (wr .i64 (i + 1)), .i s', .i n0, .i n1, .i n2, .i n3, .i r0, .i r1, .i r2, .i r3, .i b0, .i b1, .i b2, .i b3, .i m0, .i m1, .i m2, .i m3, .i a0, .i a1, .i a2, .i a3], [])) else none
  else some (.exit 0, [.i s, .i n0, .i n1, .i n2, .i n3, .i r0, .i r1, .i r2, .i r3, .i b0, .i b1, .i b2, .i b3, .i m0, .i m1, .i m2, .i m3, .i v0, .i v1, .i v2, .i v3], [])
theorem nb_round (N : NB) (rd : Option Nat) (i s n0 n1 n2 n3 r0 r1 r2 r3 b0 b1 b2 b3 m0 m1 m2 m3 v0 v1 v2 v3 : Int) : ∀ k : Nat, 1 ≤ k ∧ k ≤ 4 →
    roundT Try.prog (orcB N plainL) noLoops 200 (8 + k) rd 47 nbLp (nbT k) (nbX k) [.i i, .i s, .i n0, .i n1, .i n2, .i n3, .i r0, .i r1, .i r2, .i r3, .i b0, .i b1, .i b2, .i b3, .i m0, .i m1, .i m2, .i m3, .i v0, .i v1, .i v2, .i v3] =
      nbE N k i s n0 n1 n2 n3 r0 r1 r2 r3 b0 b1 b2 b3 m0 m1 m2 m3 v0 v1 v2 v3
  | 0, h => by omega
  | 1, _ => by kernel_rfl
  | 2, _ => by kernel_rfl
  | 3, _ => by kernel_rfl
  | 4, _ => by kernel_rfl
  | _ + 5, h => by omega
end Go.Proofs.Ytnbfnoomhlamnaa
