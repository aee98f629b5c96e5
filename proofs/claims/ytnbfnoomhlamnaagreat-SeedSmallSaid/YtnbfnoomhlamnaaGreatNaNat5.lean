/- Chapter 2: times. -/
import Derived.Test.YtnbfnoomhlamnaaGreatNaNat4
namespace Go.Proofs.YtnbfnoomhlamnaaGreat.N2
open Go Go.Eng
def p8 : TR := .vs [.int .u32, .int .u32, .int .u32, .int .u32, .int .u32, .int .u32, .int .u32, .int .u32]
def tmT : Tm := ⟨mkS [(3, .ptr 1 0), (4, .ptr 2 0), (5, .bool), (6, .ptr 3 0), (13, .agg [.int .u32, .int .u32, .int .u32, .int .u32]), (14, .int .i64)] 0 73, [.dead, .own 25 n4, .own 25 z4, .own 69 p8], []⟩
noncomputable def tmLp : Code := loopOf 3 Tryz.f13
def mt (x y p c : Int) : Int := wr .u64 (wr .u64 (wr .u64 (wr .u64 x * wr .u64 y) + wr .u64 p) + c)
def hi (t : Int) : Int := t.fdiv 4294967296
def rt0 (x b0 r0 : Int) : Int := mt x b0 r0 0
def rt1 (x b0 b1 r0 r1 : Int) : Int := mt x b1 r1 (hi (rt0 x b0 r0))
def rt2 (x b0 b1 b2 r0 r1 r2 : Int) : Int := mt x b2 r2 (hi (rt1 x b0 b1 r0 r1))
def rt3 (x b0 b1 b2 b3 r0 r1 r2 r3 : Int) : Int := mt x b3 r3 (hi (rt2 x b0 b1 b2 r0 r1 r2))
theorem tm_round0 (rd : Option Nat) (f : Bool) (a0 a1 a2 a3 b0 b1 b2 b3 p0 p1 p2 p3 p4 p5 p6 p7 : Int) : roundT Tryz.prog (orcP tabA plainL) noLoops 200 0 rd 13 tmLp tmT tmT [.b f, .i a0, .i a1, .i a2, .i a3, .i 0, .i b0, .i b1, .i b2, .i b3, .i p0, .i p1, .i p2, .i p3, .i p4, .i p5, .i p6, .i p7] =
    some (.normal, [.b f, .i a0, .i a1, .i a2, .i a3, .i 1, .i b0, .i b1, .i b2, .i b3, .i (wr .u32 (rt0 a0 b0 p0)), .i (wr .u32 (rt1 a0 b0 b1 p0 p1)), .i (wr .u32 (rt2 a0 b0 b1 b2 p0 p1 p2)), .i (wr .u32 (rt3 a0 b0 b1 b2 b3 p0 p1 p2 p3)), .i (wr .u32 (hi (rt3 a0 b0 b1 b2 b3 p0 p1 p2 p3))), .i p5, .i p6, .i p7], []) := by kernel_rfl
theorem tm_round1 (rd : Option Nat) (f : Bool) (a0 a1 a2 a3 b0 b1 b2 b3 p0 p1 p2 p3 p4 p5 p6 p7 : Int) : roundT Tryz.prog (orcP tabA plainL) noLoops 200 0 rd 13 tmLp tmT tmT [.b f, .i a0, .i a1, .i a2, .i a3, .i 1, .i b0, .i b1, .i b2, .i b3, .i p0, .i p1, .i p2, .i p3, .i p4, .i p5, .i p6, .i p7] =
    some (.normal, [.b f, .i a0, .i a1, .i a2, .i a3, .i 2, .i b0, .i b1, .i b2, .i b3, .i p0, .i (wr .u32 (rt0 a1 b0 p1)), .i (wr .u32 (rt1 a1 b0 b1 p1 p2)), .i (wr .u32 (rt2 a1 b0 b1 b2 p1 p2 p3)), .i (wr .u32 (rt3 a1 b0 b1 b2 b3 p1 p2 p3 p4)), .i (wr .u32 (hi (rt3 a1 b0 b1 b2 b3 p1 p2 p3 p4))), .i p6, .i p7], []) := by kernel_rfl
theorem tm_round2 (rd : Option Nat) (f : Bool) (a0 a1 a2 a3 b0 b1 b2 b3 p0 p1 p2 p3 p4 p5 p6 p7 : Int) : roundT Tryz.prog (orcP tabA plainL) noLoops 200 0 rd 13 tmLp tmT tmT [.b f, .i a0, .i a1, .i a2, .i a3, .i 2, .i b0, .i b1, .i b2, .i b3, .i p0, .i p1, .i p2, .i p3, .i p4, .i p5, .i p6, .i p7] =
    some (.normal, [.b f, .i a0, .i a1, .i a2, .i a3, .i 3, .i b0, .i b1, .i b2, .i b3, .i p0, .i p1, .i (wr .u32 (rt0 a2 b0 p2)), .i (wr .u32 (rt1 a2 b0 b1 p2 p3)), .i (wr .u32 (rt2 a2 b0 b1 b2 p2 p3 p4)), .i (wr .u32 (rt3 a2 b0 b1 b2 b3 p2 p3 p4 p5)), .i (wr .u32 (hi (rt3 a2 b0 b1 b2 b3 p2 p3 p4 p5))), .i p7], []) := by kernel_rfl
theorem tm_round3 (rd : Option Nat) (f : Bool) (a0 a1 a2 a3 b0 b1 b2 b3 p0 p1 p2 p3 p4 p5 p6 p7 : Int) : roundT Tryz.prog (orcP tabA plainL) noLoops 200 0 rd 13 tmLp tmT tmT [.b f, .i a0, .i a1, .i a2, .i a3, .i 3, .i b0, .i b1, .i b2, .i b3, .i p0, .i p1, .i p2, .i p3, .i p4, .i p5, .i p6, .i p7] =
    some (.normal, [.b f, .i a0, .i a1, .i a2, .i a3, .i 4, .i b0, .i b1, .i b2, .i b3, .i p0, .i p1, .i p2, .i (wr .u32 (rt0 a3 b0 p3)), .i (wr .u32 (rt1 a3 b0 b1 p3 p4)), .i (wr .u32 (rt2 a3 b0 b1 b2 p3 p4 p5)), .i (wr .u32 (rt3 a3 b0 b1 b2 b3 p3 p4 p5 p6)), .i (wr .u32 (hi (rt3 a3 b0 b1 b2 b3 p3 p4 p5 p6)))], []) := by kernel_rfl
theorem tm_round4 (rd : Option Nat) (f : Bool) (a0 a1 a2 a3 b0 b1 b2 b3 p0 p1 p2 p3 p4 p5 p6 p7 : Int) : roundT Tryz.prog (orcP tabA plainL) noLoops 200 0 rd 13 tmLp tmT tmT [.b f, .i a0, .i a1, .i a2, .i a3, .i 4, .i b0, .i b1, .i b2, .i b3, .i p0, .i p1, .i p2, .i p3, .i p4, .i p5, .i p6, .i p7] =
    some (.exit 0, [.b f, .i a0, .i a1, .i a2, .i a3, .i 4, .i b0, .i b1, .i b2, .i b3, .i p0, .i p1, .i p2, .i p3, .i p4, .i p5, .i p6, .i p7], []) := by kernel_rfl
abbrev isW (a : Int) : Prop := 0 ≤ a ∧ a < 4294967296
theorem mul_W {x y : Int} (hx : isW x) (hy : isW y) : 0 ≤ x * y ∧ x * y ≤ 18446744065119617025 := by
  refine ⟨Int.mul_nonneg hx.1 hy.1, ?_⟩
  have h1 : x * y ≤ 4294967295 * 4294967295 := Int.mul_le_mul (by omega) (by omega) hy.1 (by decide)
  omega
theorem mt_eq {x y p c : Int} (hx : isW x) (hy : isW y) (hp : isW p) (hc : isW c) : mt x y p c = x * y + p + c ∧ isW (hi (mt x y p c)) ∧ hi (mt x y p c) = (x * y + p + c) / 4294967296 := by
  obtain ⟨h0, h1⟩ := mul_W hx hy
  have e : mt x y p c = x * y + p + c := by
    unfold mt
    rw [wrU (x := x) (by omega) (by omega), wrU (x := y) (by omega) (by omega), wrU (x := p) (by omega) (by omega), wrU (x := x * y) h0 (by omega), wrU (x := x * y + p) (by omega) (by omega), wrU (by omega) (by omega)]
  have e2 : hi (mt x y p c) = (x * y + p + c) / 4294967296 := by
    unfold hi
    rw [e, Int.fdiv_eq_ediv_of_nonneg _ (by omega)]
  refine ⟨e, ?_, e2⟩
  rw [e2]
  constructor <;> omega
/-- A row of the product. -/
theorem row_eq {x b0 b1 b2 b3 r0 r1 r2 r3 : Int} (hx : isW x) (h0 : isW b0) (h1 : isW b1) (h2 : isW b2) (h3 : isW b3) (g0 : isW r0) (g1 : isW r1) (g2 : isW r2) (g3 : isW r3) :
    isW (wr .u32 (rt0 x b0 r0)) ∧ isW (wr .u32 (rt1 x b0 b1 r0 r1)) ∧ isW (wr .u32 (rt2 x b0 b1 b2 r0 r1 r2)) ∧ isW (wr .u32 (rt3 x b0 b1 b2 b3 r0 r1 r2 r3)) ∧ isW (wr .u32 (hi (rt3 x b0 b1 b2 b3 r0 r1 r2 r3))) ∧
    nval (wr .u32 (rt0 x b0 r0)) (wr .u32 (rt1 x b0 b1 r0 r1)) (wr .u32 (rt2 x b0 b1 b2 r0 r1 r2)) (wr .u32 (rt3 x b0 b1 b2 b3 r0 r1 r2 r3)) + 340282366920938463463374607431768211456 * wr .u32 (hi (rt3 x b0 b1 b2 b3 r0 r1 r2 r3)) = nval r0 r1 r2 r3 + x * nval b0 b1 b2 b3 := by
  obtain ⟨e0, c0, d0⟩ := mt_eq hx h0 g0 (c := 0) ⟨by decide, by decide⟩
  unfold rt3 rt2 rt1 rt0
  obtain ⟨e1, c1, d1⟩ := mt_eq hx h1 g1 c0
  obtain ⟨e2, c2, d2⟩ := mt_eq hx h2 g2 c1
  obtain ⟨e3, c3, d3⟩ := mt_eq hx h3 g3 c2
  have s : ∀ z : Int, wr .u32 z = z % 4294967296 := fun z => rfl
  have hm : x * nval b0 b1 b2 b3 = x * b0 + 4294967296 * (x * b1) + 18446744073709551616 * (x * b2) + 79228162514264337593543950336 * (x * b3) := by
    unfold nval
    simp only [Int.mul_add]
    rw [Int.mul_left_comm x 4294967296, Int.mul_left_comm x 18446744073709551616, Int.mul_left_comm x 79228162514264337593543950336]
  rw [hm]
  generalize mt x b0 r0 0 = t0 at *
  generalize hi t0 = k0 at *
  generalize mt x b1 r1 k0 = t1 at *
  generalize hi t1 = k1 at *
  generalize mt x b2 r2 k1 = t2 at *
  generalize hi t2 = k2 at *
  generalize mt x b3 r3 k2 = t3 at *
  generalize hi t3 = k3 at *
  generalize x * b0 = m0 at *
  generalize x * b1 = m1 at *
  generalize x * b2 = m2 at *
  generalize x * b3 = m3 at *
  simp only [s]
  unfold nval
  refine ⟨?_, ?_, ?_, ?_, ?_, ?_⟩ <;> first | omega | (constructor <;> omega)
end Go.Proofs.YtnbfnoomhlamnaaGreat.N2
