/- Chapter 2: a tenth. -/
import Derived.Test.YthpdeiolhahobaaDoorCh3
namespace Go.Proofs.YthpdeiolhahobaaDoor
open Go Go.Eng
theorem bv64 (n : Nat) (h : n < 18446744073709551616) : (BitVec.ofInt 64 (n : Int)).toNat = n := by
  simp only [BitVec.toNat_ofInt]; omega
theorem or64 {a b : Nat} (ha : a < 18446744073709551616) (hb : b < 18446744073709551616) : bitsI .or .u64 (a : Int) (b : Int) = ((a ||| b : Nat) : Int) := by
  unfold bitsI
  show wr .u64 (((BitVec.ofInt 64 (a : Int) ||| BitVec.ofInt 64 (b : Int)).toNat : Nat) : Int) = _
  rw [BitVec.toNat_or, bv64 a ha, bv64 b hb]
  have := Nat.or_lt_two_pow (n := 64) ha hb
  exact wrU (by omega) (by omega)
def d10 (hi lo : Int) : Int := bitsI .or .u64 (wr .u64 (wr .u64 hi * 2 ^ shAmt .u64 32)) (wr .u64 lo)
theorem d10_eval (a b : Int) : evalFn Tryd.prog (orcP tabA plainL) noLoops 200 54 Tryd.f54 [.int .u32 a, .int .u32 b, .int .u32 10] [] (fun v _ => some v) =
    bif decide (10 ≤ a) then none else some (.tuple [.int .u32 (wr .u32 (wr .u64 ((d10 a b).tdiv (wr .u64 10)))), .int .u32 (wr .u32 ((d10 a b).tmod (wr .u64 10)))]) := by kernel_rfl
theorem d10_eq {a b : Int} (ha : 0 ≤ a ∧ a < 10) (hb : isW b) : d10 a b = a * 4294967296 + b := by
  obtain ⟨n, rfl⟩ : ∃ n : Nat, a = n := ⟨a.toNat, by omega⟩
  obtain ⟨m, rfl⟩ : ∃ m : Nat, b = m := ⟨b.toNat, by omega⟩
  unfold d10
  have e1 : wr .u64 (wr .u64 (n : Int) * 2 ^ shAmt .u64 32) = ((2 ^ 32 * n : Nat) : Int) := by
    rw [show (2 : Int) ^ shAmt .u64 32 = 4294967296 from rfl, wrU (x := (n : Int)) (by omega) (by omega), wrU (by omega) (by omega)]; omega
  rw [e1, wrU (x := (m : Int)) (by omega) (by omega), or64 (by omega) (by omega), ← Nat.two_pow_add_eq_or_of_lt (i := 32) (b := m) (by omega) n]
  omega
def gDiv10 : List V → Option (Bool × V)
  | [.int .u32 a, .int .u32 b, .int .u32 y] => some (decide (0 ≤ a ∧ a < 10) && (inW b && decide (y = 10)), .tuple [.int .u32 ((a * 4294967296 + b) / 10), .int .u32 ((a * 4294967296 + b) % 10)])
  | _ => none
def tabT0 : PTab := addTab 54 gDiv10 tabF
theorem tabT0_ok : PTabOk Tryd.prog tabT0 := by
  refine addTab_ok ?_ tabF_ok
  intro args c v h hc
  unfold gDiv10 at h
  split at h
  · rename_i a b y
    cases h
    simp only [Bool.and_eq_true, decide_eq_true_eq, inW_iff] at hc
    obtain ⟨ha, hb, rfl⟩ := hc
    refine fnPure_of_eval (N := 200) (orcP_ok tabA_ok plainL_ok) mixed Tryd.func54 (by kernel_rfl) noLoops_ok ?_ rfl rfl
    rw [d10_eval, decide_eq_false (by omega), d10_eq ha hb, wrU (x := 10) (by decide) (by decide), Int.tdiv_eq_ediv_of_nonneg (by omega), Int.tmod_eq_emod_of_nonneg (by omega), wrU (x := (a * 4294967296 + b) / 10) (by omega) (by omega), wr32 (x := (a * 4294967296 + b) / 10) (by omega) (by omega), wr32 (by omega) (by omega)]
    rfl
  · cases h
def t10c (r a : Int) (K : Option V) : Option V := bif decide (0 ≤ r ∧ r < 10) && (inW a && true) then K else none
def t10q (r a : Int) : Int := (r * 4294967296 + a) / 10
def t10r (r a : Int) : Int := (r * 4294967296 + a) % 10
theorem tenth_eval (a b c d : Int) : evalFn Tryd.prog (orcP tabT0 plainL) noLoops 200 34 Tryd.f34 [.agg [.int .u32 a, .int .u32 b, .int .u32 c, .int .u32 d]] [] (fun v _ => some v) =
    t10c 0 d (t10c (t10r 0 d) c (t10c (t10r (t10r 0 d) c) b (t10c (t10r (t10r (t10r 0 d) c) b) a
      (some (.tuple [.agg [.int .u32 (t10q (t10r (t10r (t10r 0 d) c) b) a), .int .u32 (t10q (t10r (t10r 0 d) c) b), .int .u32 (t10q (t10r 0 d) c), .int .u32 (t10q 0 d)], .int .u32 (t10r (t10r (t10r (t10r 0 d) c) b) a)]))))) := by kernel_rfl
theorem tenth_p {a b c d : Int} (hx : inN a b c d = true) : FnPure Tryd.prog 34 [.agg [.int .u32 a, .int .u32 b, .int .u32 c, .int .u32 d]] (.tuple [nW (nval a b c d / 10), .int .u32 (nval a b c d % 10)]) := by
  refine fnPure_of_eval (N := 200) (orcP_ok tabT0_ok plainL_ok) mixed Tryd.func34 (by kernel_rfl) noLoops_ok ?_ rfl rfl
  rw [tenth_eval]
  rw [inN_iff] at hx
  obtain ⟨xa, xb, xc, xd⟩ := hx
  have rr : ∀ r y : Int, 0 ≤ t10r r y ∧ t10r r y < 10 := fun r y => by unfold t10r; omega
  have r3 := rr 0 d
  have r2 := rr (t10r 0 d) c
  have r1 := rr (t10r (t10r 0 d) c) b
  have cc : ∀ r y : Int, (0 ≤ r ∧ r < 10) → isW y → ∀ K, t10c r y K = K := fun r y hr hy K => by
    unfold t10c; rw [decide_eq_true hr, inW_iff.2 hy]; rfl
  rw [cc 0 d (by omega) xd, cc _ c r3 xc, cc _ b r2 xb, cc _ a r1 xa]
  have q3 : t10q 0 d * 10 + t10r 0 d = d := by unfold t10q t10r; omega
  have q2 : t10q (t10r 0 d) c * 10 + t10r (t10r 0 d) c = t10r 0 d * 4294967296 + c := by unfold t10q; unfold t10r; omega
  have q1 : t10q (t10r (t10r 0 d) c) b * 10 + t10r (t10r (t10r 0 d) c) b = t10r (t10r 0 d) c * 4294967296 + b := by
    generalize t10r (t10r 0 d) c = z; unfold t10q t10r; omega
  have q0 : t10q (t10r (t10r (t10r 0 d) c) b) a * 10 + t10r (t10r (t10r (t10r 0 d) c) b) a = t10r (t10r (t10r 0 d) c) b * 4294967296 + a := by
    generalize t10r (t10r (t10r 0 d) c) b = z; unfold t10q t10r; omega
  have r0 := rr (t10r (t10r (t10r 0 d) c) b) a
  generalize t10r (t10r (t10r (t10r 0 d) c) b) a = e0 at *
  generalize t10q (t10r (t10r (t10r 0 d) c) b) a = u0 at *
  generalize t10r (t10r (t10r 0 d) c) b = e1 at *
  generalize t10q (t10r (t10r 0 d) c) b = u1 at *
  generalize t10r (t10r 0 d) c = e2 at *
  generalize t10q (t10r 0 d) c = u2 at *
  generalize t10r 0 d = e3 at *
  generalize t10q 0 d = u3 at *
  have hin : inN u0 u1 u2 u3 = true := by rw [inN_iff]; omega
  have h1 : nval a b c d = nval u0 u1 u2 u3 * 10 + e0 := by unfold nval; omega
  have h2 : nval a b c d / 10 = nval u0 u1 u2 u3 := by omega
  have h3 : nval a b c d % 10 = e0 := by omega
  rw [h2, h3, nW_nval hin]
def gTenth : List V → Option (Bool × V)
  | [.agg [.int .u32 a, .int .u32 b, .int .u32 c, .int .u32 d]] => some (inN a b c d, .tuple [nW (nval a b c d / 10), .int .u32 (nval a b c d % 10)])
  | _ => none
def tabT : PTab := addTab 16 gChoose (addTab 34 gTenth tabF)
theorem tabT_ok : PTabOk Tryd.prog tabT := by
  refine addTab_ok ?_ (addTab_ok ?_ tabF_ok)
  · intro args c v h hc
    unfold gChoose at h
    split at h
    · cases h; exact choose_p _ _
    · cases h
  · intro args c v h hc
    unfold gTenth at h
    split at h
    · cases h; exact tenth_p hc
    · cases h
end Go.Proofs.YthpdeiolhahobaaDoor
