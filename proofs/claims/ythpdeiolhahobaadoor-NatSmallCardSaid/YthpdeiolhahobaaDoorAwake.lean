/- Texts merged: Awake, Awake2, LWrong. -/
import Derived.Test.YthpdeiolhahobaaDoorTen
import Derived.Test.YthpdeiolhahobaaDoorText2
/- Chapter 2: the examples hold. -/
namespace Go.Proofs.YthpdeiolhahobaaDoor
open Go Go.Eng
/-! ### one choice, reckoned -/
def prow : Nat → List Nat
  | 0 => [1]
  | n + 1 => List.zipWith (· + ·) (0 :: prow n) (prow n ++ [0])
theorem prow_len : ∀ n : Nat, (prow n).length = n + 1
  | 0 => rfl
  | n + 1 => by simp [prow, prow_len n]
theorem prow_get : ∀ {n k : Nat}, k ≤ n → (prow n)[k]? = some (ch n k)
  | 0, 0, _ => rfl
  | n + 1, k, h => by
    simp only [prow, List.getElem?_zipWith]
    have h2 : (prow n ++ [0])[k]? = some (ch n k) := by
      by_cases e : k ≤ n
      · rw [List.getElem?_append_left (by rw [prow_len]; omega)]; exact prow_get e
      · rw [List.getElem?_append_right (by rw [prow_len]; omega), prow_len, show k - (n + 1) = 0 by omega, ch_big (by omega)]; rfl
    rw [h2]
    cases k with
    | zero =>
      have : ch n 0 = 1 := by cases n <;> rfl
      simp [ch, this]
    | succ k =>
      rw [List.getElem?_cons_succ, prow_get (by omega)]
      simp [ch]
theorem ch_52_13 : ch 52 13 = 635013559600 := by
  have h := prow_get (n := 52) (k := 13) (by decide)
  have e : (prow 52)[13]? = some 635013559600 := by kernel_rfl
  rw [e] at h
  cases h; rfl
def eqII (a b : Int) : Bool := decide (a = b)
def gChC : List V → Option (Bool × V)
  | [.int .i64 n, .int .i64 k] => bif eqII n 52 then some (eqII k 13, .tuple [nW 635013559600, .int .i64 0]) else bif eqII n 5 then some (eqII k 6, .tuple [nW 0, .int .i64 0]) else some (eqII n 129, .tuple [nW 0, .int .i64 5])
  | _ => none
def tabX : PTab := addTab 16 gChC tabT
theorem tabX_ok : PTabOk Tryd.prog tabX := by
  refine addTab_ok ?_ tabT_ok
  intro args c v h hc
  unfold gChC at h
  split at h
  · rename_i n k
    cases h1 : eqII n 52 with
    | true =>
      rw [h1] at h
      cases h
      have e1 := of_decide_eq_true h1
      have e2 := of_decide_eq_true hc
      subst e1; subst e2
      have := choose_p 52 13
      have hz : chZ 52 13 = 635013559600 := by
        show ((ch 52 13 : Nat) : Int) = _
        rw [ch_52_13]; rfl
      rw [hz] at this
      exact this
    | false =>
      rw [h1] at h
      cases h2 : eqII n 5 with
      | true =>
        rw [h2] at h
        cases h
        have e1 := of_decide_eq_true h2
        have e2 := of_decide_eq_true hc
        subst e1; subst e2
        exact choose_p 5 6
      | false =>
        rw [h2] at h
        cases h
        have e1 := of_decide_eq_true hc
        subst e1
        exact choose_p 129 k
  · cases h
end Go.Proofs.YthpdeiolhahobaaDoor

/- Chapter 2: the examples in the table. -/
namespace Go.Proofs.YthpdeiolhahobaaDoor
open Go Go.Eng
theorem awake_eval : evalFn Tryd.prog (orcM tabX plainL) noLoops 200 13 Tryd.f13 [] [] (fun v _ => some v) = some (.bool true) := by kernel_rfl
theorem awake_p : FnPure Tryd.prog 13 [] (.bool true) := fnPure_of_eval (N := 200) (orcM_ok tabX_ok plainL_ok) mixed Tryd.func13 (by kernel_rfl) noLoops_ok awake_eval rfl rfl
def gAwake : List V → Option (Bool × V)
  | [] => some (true, .bool true)
  | _ => none
def tabG : PTab := addTab 13 gAwake tabT
theorem tabG_ok : PTabOk Tryd.prog tabG := by
  refine addTab_ok ?_ tabT_ok
  intro args c v h _
  unfold gAwake at h
  split at h
  · cases h; exact awake_p
  · cases h
end Go.Proofs.YthpdeiolhahobaaDoor

/- Chapter 2: Of and Int; the law NatWrong: its formula. -/
namespace Go.Proofs.YthpdeiolhahobaaDoor
open Go Go.Eng
/-! ### Of, Int -/
def ofZ (n : Int) : Int := bif decide (n < 0) then 0 else n
def ofE (n : Int) : Int := bif decide (n < 0) then 21 else 0
theorem of_eval (n : Int) : evalFn Tryd.prog (orcP tabA plainL) noLoops 200 15 Tryd.f15 [.int .i64 n] [] (fun v _ => some v) =
    bif decide (n < 0) then some (.tuple [nW 0, .int .i64 21]) else some (.tuple [.agg [.int .u32 (wr .u32 n), .int .u32 (wr .u32 ((wr .u64 n).fdiv 4294967296)), .int .u32 0, .int .u32 0], .int .i64 0]) := by kernel_rfl
theorem of_p {n : Int} (h : -9223372036854775808 ≤ n ∧ n < 9223372036854775808) : FnPure Tryd.prog 15 [.int .i64 n] (.tuple [nW (ofZ n), .int .i64 (ofE n)]) := by
  refine fnPure_of_eval (N := 200) (orcP_ok tabA_ok plainL_ok) mixed Tryd.func15 (by kernel_rfl) noLoops_ok ?_ rfl rfl
  rw [of_eval]
  unfold ofZ ofE
  by_cases h0 : n < 0
  · rw [decide_eq_true h0]; rfl
  · rw [decide_eq_false h0, cond_false, cond_false, cond_false, wrU (x := n) (by omega) (by omega), Int.fdiv_eq_ediv_of_nonneg _ (by omega)]
    unfold nW
    have e0 : w0 n = wr .u32 n := rfl
    have e1 : w1 n = wr .u32 (n / 4294967296) := rfl
    have e2 : w2 n = 0 := by unfold w2; omega
    have e3 : w3 n = 0 := by unfold w3; omega
    rw [e0, e1, e2, e3]
def intZ (z : Int) : Int := bif decide (z < 9223372036854775808) then z else 0
def intE (z : Int) : Int := bif decide (z < 9223372036854775808) then 0 else 3
def lowI (a b : Int) : Int := bitsI .or .u64 (wr .u64 (wr .u64 b * 2 ^ shAmt .u64 32)) (wr .u64 a)
theorem int_eval (a b c d : Int) : evalFn Tryd.prog (orcP tabA plainL) noLoops 200 26 Tryd.f26 [.agg [.int .u32 a, .int .u32 b, .int .u32 c, .int .u32 d]] [] (fun v _ => some v) =
    bif !decide (d = 0) then some (.tuple [.int .i64 0, .int .i64 3]) else bif !decide (c = 0) then some (.tuple [.int .i64 0, .int .i64 3]) else bif decide (9223372036854775807 < lowI a b) then some (.tuple [.int .i64 0, .int .i64 3]) else some (.tuple [.int .i64 (wr .i64 (lowI a b)), .int .i64 0]) := by kernel_rfl
theorem int_p {a b c d : Int} (hx : inN a b c d = true) : FnPure Tryd.prog 26 [.agg [.int .u32 a, .int .u32 b, .int .u32 c, .int .u32 d]] (.tuple [.int .i64 (intZ (nval a b c d)), .int .i64 (intE (nval a b c d))]) := by
  refine fnPure_of_eval (N := 200) (orcP_ok tabA_ok plainL_ok) mixed Tryd.func26 (by kernel_rfl) noLoops_ok ?_ rfl rfl
  rw [int_eval]
  have hin := hx
  rw [inN_iff] at hx
  obtain ⟨xa, xb, xc, xd⟩ := hx
  have hl : lowI a b = b * 4294967296 + a := by
    obtain ⟨n, rfl⟩ : ∃ n : Nat, b = n := ⟨b.toNat, by omega⟩
    obtain ⟨m, rfl⟩ : ∃ m : Nat, a = m := ⟨a.toNat, by omega⟩
    unfold lowI
    have e1 : wr .u64 (wr .u64 (n : Int) * 2 ^ shAmt .u64 32) = ((2 ^ 32 * n : Nat) : Int) := by
      rw [show (2 : Int) ^ shAmt .u64 32 = 4294967296 from rfl, wrU (x := (n : Int)) (by omega) (by omega), wrU (by omega) (by omega)]; omega
    rw [e1, wrU (x := (m : Int)) (by omega) (by omega), or64 (by omega) (by omega), ← Nat.two_pow_add_eq_or_of_lt (i := 32) (b := m) (by omega) n]
    omega
  rw [hl]
  have hv : nval a b c d = b * 4294967296 + a + 18446744073709551616 * c + 79228162514264337593543950336 * d := by unfold nval; omega
  unfold intZ intE
  by_cases hd : d = 0
  · rw [decide_eq_true hd]
    by_cases hc : c = 0
    · rw [decide_eq_true hc]
      by_cases hb : 9223372036854775807 < b * 4294967296 + a
      · rw [decide_eq_true hb, decide_eq_false (show ¬ nval a b c d < 9223372036854775808 by omega)]; rfl
      · rw [decide_eq_false hb, decide_eq_true (show nval a b c d < 9223372036854775808 by omega), wr64 (by omega) (by omega), show b * 4294967296 + a = nval a b c d by omega]; rfl
    · rw [decide_eq_false hc, decide_eq_false (show ¬ nval a b c d < 9223372036854775808 by omega)]; rfl
  · rw [decide_eq_false hd, decide_eq_false (show ¬ nval a b c d < 9223372036854775808 by omega)]; rfl
/-! ### the law -/
/-- Numbers, choices and texts, as names alone. -/
structure NW where
  z : Int → Int → Int → Int → Int
  w0 : Int → Int
  w1 : Int → Int
  w2 : Int → Int
  w3 : Int → Int
  inn : Int → Int → Int → Int → Bool
  of : Int → Int
  ofE : Int → Int
  ofC : Int → Bool
  ch : Int → Int → Int
  che : Int → Int
  tx : Int → ByteArray
  rd : ByteArray → Int
  rdE : ByteArray → Int
  rdC : ByteArray → Bool
  int : Int → Int
  intE : Int → Int
  cmp : Int → Int → Int
def NW.nW (N : NW) (x : Int) : V := .agg [.int .u32 (N.w0 x), .int .u32 (N.w1 x), .int .u32 (N.w2 x), .int .u32 (N.w3 x)]
def NW.q4 (N : NW) (x : Int) : Int := N.z (N.w0 x) (N.w1 x) (N.w2 x) (N.w3 x)
def NW.iq (N : NW) (x : Int) : Bool := N.inn (N.w0 x) (N.w1 x) (N.w2 x) (N.w3 x)
def gOfW (N : NW) : List V → Option (Bool × V)
  | [.int .i64 n] => some (N.ofC n, .tuple [N.nW (N.of n), .int .i64 (N.ofE n)])
  | _ => none
def gChW (N : NW) : List V → Option (Bool × V)
  | [.int .i64 n, .int .i64 k] => some (true, .tuple [N.nW (N.ch n k), .int .i64 (N.che n)])
  | _ => none
def gTxW (N : NW) : List V → Option (Bool × V)
  | [.agg [.int .u32 a, .int .u32 b, .int .u32 c, .int .u32 d]] => some (N.inn a b c d, .str (N.tx (N.z a b c d)))
  | _ => none
def gRdW (N : NW) : List V → Option (Bool × V)
  | [.str s] => some (N.rdC s, .tuple [N.nW (N.rd s), .int .i64 (N.rdE s)])
  | _ => none
def gIntW (N : NW) : List V → Option (Bool × V)
  | [.agg [.int .u32 a, .int .u32 b, .int .u32 c, .int .u32 d]] => some (N.inn a b c d, .tuple [.int .i64 (N.int (N.z a b c d)), .int .i64 (N.intE (N.z a b c d))])
  | _ => none
def gCmpW (N : NW) : List V → Option (Bool × V)
  | [.agg [.int .u32 a, .int .u32 b, .int .u32 c, .int .u32 d], .agg [.int .u32 e, .int .u32 f, .int .u32 g, .int .u32 h]] => some (N.inn a b c d && N.inn e f g h, .int .i64 (N.cmp (N.z a b c d) (N.z e f g h)))
  | _ => none
def tabNW (N : NW) : PTab := addTab 15 (gOfW N) (addTab 16 (gChW N) (addTab 17 (gTxW N) (addTab 18 (gRdW N) (addTab 26 (gIntW N) (addTab 24 (gCmpW N) (addTab 13 gAwake emptyTab))))))
noncomputable abbrev orcW (N : NW) : Oracle := orcP (tabNW N) plainL
end Go.Proofs.YthpdeiolhahobaaDoor
