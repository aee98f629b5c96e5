/- Texts merged: Fi5, Fs2. -/
import Derived.Test.YtnbfnoomhlamnaaGreatFi4
import Derived.Test.YtnbfnoomhlamnaaGreatFs1
import Derived.Test.YtnbfnoomhlamnaaGreatEng4
/- Chapter 3: flatInts answers true on two lists of ours. -/
namespace Go.Proofs.YtnbfnoomhlamnaaGreat
open Go Go.Eng
theorem flat_eval (MK : Int → Int → Int) (a b : List Int) : evalFn Tryz.prog (orcF MK) (fiL MK) 100 64 Tryz.f64 [.gs 2] (flatH 3 .i64 a b) (fun v _ => some v) =
    bif codesB [(fLp1, fLp1)] then
    bif pB ((0 : Int) = 0 ∧ a.length ≤ 900000) then
    bif codesB [(fLp1, fLp1)] then
    bif pB ((0 : Int) = 0 ∧ b.length ≤ 900000) then
    bif codesB [(fLp2, fLp2)] then
    bif pB ((0 : Int) = 0 ∧ okR (MK 0) (mks (MK 0) a.length)) then
    bif codesB [(fLp2, fLp2)] then
    bif pB ((0 : Int) = 0 ∧ okR (MK 1) (mks (MK 1) b.length)) then
    bif codesB [(fLp3, fLp3)] then
    bif pB ((0 : Int) = 0 ∧ okP (MK 0) (mks (MK 0) ((mks (MK 0) a.length).length + 64)) (mks (MK 0) a.length)) then
    bif codesB [(fLp3, fLp3)] then
    bif pB ((0 : Int) = 0 ∧ okP (MK 1) (mks (MK 1) ((mks (MK 1) b.length).length + 64)) (mks (MK 1) b.length)) then
    bif codesB [(fLp4, fLp4)] then
    bif pB ((0 : Int) = 0 ∧ (List.replicate 64 (0 : Int)).length = 64) then
    bif decide (List.take (mks (MK 0) a.length).length (mks (MK 0) ((mks (MK 0) a.length).length + 64)) = mks (MK 0) a.length) then
    bif decide ((mks (MK 0) a.length ++ mks (MK (wr .i64 (0 + Int.ofNat 2))) 64).length * 9 ≤ 70368744177664) then
    bif codesB [(fLp4, fLp4)] then
    bif pB ((0 : Int) = 0 ∧ (List.replicate 64 (0 : Int)).length = 64) then
    bif decide (List.take (mks (MK 1) b.length).length (mks (MK 1) ((mks (MK 1) b.length).length + 64)) = mks (MK 1) b.length) then
    bif decide ((mks (MK 1) b.length ++ mks (MK (wr .i64 (1 + Int.ofNat 2))) 64).length * 9 ≤ 70368744177664) then
    bif codesB [(fLp5, fLp5)] then
    bif pB ((0 : Int) = 0 ∧ okQ (MK 0) (mks (MK 0) a.length ++ mks (MK (wr .i64 (0 + Int.ofNat 2))) 64) (mks (MK 0) a.length)) then
    bif codesB [(fLp5, fLp5)] then
    bif pB ((0 : Int) = 0 ∧ okQ (MK 1) (mks (MK 1) b.length ++ mks (MK (wr .i64 (1 + Int.ofNat 2))) 64) (mks (MK 1) b.length)) then some (.bool true) else none else none else none else none else none else none else none else none else none else none else none else none else none else none else none else none else none else none else none else none else none else none else none else none := by kernel_rfl
theorem okR_mks (f : Int → Int) {n : Nat} (h : n ≤ 900000) : okR f (mks f n) := ⟨by rw [mks_len], by rw [mks_len]; exact h⟩
theorem okP_mks (f : Int → Int) {n : Nat} (h : n ≤ 900000) : okP f (mks f ((mks f n).length + 64)) (mks f n) := ⟨n, n + 64, by omega, by omega, by rw [mks_len], rfl⟩
theorem okQ_mks (f g : Int → Int) {n : Nat} (h : n ≤ 900000) : okQ f (mks f n ++ mks g 64) (mks f n) := ⟨n, by omega, rfl, by rw [List.take_append_of_le_length (by rw [mks_len]; exact Nat.le_refl _), List.take_of_length_le (by rw [mks_len]; exact Nat.le_refl _)]⟩
theorem take_mks {f : Int → Int} {n : Nat} : List.take (mks f n).length (mks f ((mks f n).length + 64)) = mks f n := by rw [mks_len, mks_take (by omega)]
theorem pB_true {p : Prop} (h : p) : pB ((0 : Int) = 0 ∧ p) = true := pB_iff.2 ⟨rfl, h⟩
theorem len_two {f g : Int → Int} {n : Nat} (h : n ≤ 900000) : (mks f n ++ mks g 64).length * 9 ≤ 70368744177664 := by rw [List.length_append, mks_len, mks_len]; omega
theorem flat_true {a b : List Int} (ha : a.length ≤ 900000) (hb : b.length ≤ 900000) : evalFn Tryz.prog (orcF mkV) (fiL mkV) 100 64 Tryz.f64 [.gs 2] (flatH 3 .i64 a b) (fun v _ => some v) = some (.bool true) := by
  rw [flat_eval, lpK, lpK, lpK, lpK, lpK, pB_true ha, pB_true hb, pB_true (okR_mks _ ha), pB_true (okR_mks _ hb), pB_true (okP_mks _ ha), pB_true (okP_mks _ hb), pB_true (List.length_replicate), decide_eq_true take_mks, decide_eq_true (len_two ha), decide_eq_true take_mks, decide_eq_true (len_two hb), pB_true (okQ_mks _ _ ha), pB_true (okQ_mks _ _ hb)]
  rfl
def fiC (a b : List Int) : Bool := decide (a.length ≤ 900000) && decide (b.length ≤ 900000)
theorem fi_ok : FlatOk Tryz.prog 64 3 .i64 fiC := by
  refine ⟨.of Tryz.func64 (by kernel_rfl), fun a b h => ?_⟩
  simp only [fiC, Bool.and_eq_true, decide_eq_true_eq] at h
  obtain ⟨v, h', hk, hok⟩ := evalFn_ok orcF_ok mixed Tryz.func64 fiL_ok (flat_true h.1 h.2)
  cases hk
  exact ⟨h', hok⟩
end Go.Proofs.YtnbfnoomhlamnaaGreat

/- Chapter 3: the law SeedShuffles: its oracle. -/
namespace Go.Proofs.YtnbfnoomhlamnaaGreat
open Go Go.Eng
structure SN where
  SS : Int → List Int → Int
  SV : Int → List Int → List Int
  SE : Int → List Int → Int
  EQ : List Int → List Int → Bool
  KP : List Int → List Int → Bool
  FC : List Int → List Int → Bool
  MK : Int → Int → Int
def sN : SN := ⟨SS, SV, SE, eqI, kpC, fiC, mkV⟩
def gS18 (S : SN) : List V → List Blk → Option (Bool × V × List Blk)
  | [.int .i64 s, .gs 0], [.rs true 1 (.ints .i64 xs)] => some (true, .tuple [.int .i64 (S.SS s xs), .gs 1, .int .i64 (S.SE s xs)], [.grow false 3 1 (.ints .i64 (S.SV s xs))])
  | _, _ => none
def gS27 (S : SN) : List V → List Blk → Option (Bool × V × List Blk)
  | [.int .i64 s, .gs 0], [.rs _ 1 (.ints .i64 xs)] => some (true, .tuple [.int .i64 (S.SS s xs), .gs 1, .int .i64 (S.SE s xs)], [.grow false 3 1 (.ints .i64 (S.SV s xs))])
  | _, _ => none
def gS28 (S : SN) : List V → List Blk → Option (Bool × V × List Blk)
  | [.gs 0, .gs 1], [.rs _ 1 (.ints .i64 xs), .rs _ 1 (.ints .i64 ys)] => some (decide (xs.length ≤ 1000000), .bool (S.EQ xs ys), [])
  | _, _ => none
def hTabS (S : SN) : HTab := addH 11 (gS18 S) (addH 29 (gS27 S) (addH 30 (gS28 S) emptyH))
theorem hTabS_ok : HTabOk Tryz.prog (hTabS sN) := by
  refine addH_ok ?_ (addH_ok ?_ (addH_ok ?_ emptyH_ok))
  · intro args h c v nb hq hc
    unfold gS18 at hq
    split at hq
    · cases hq; exact ⟨.of Tryz.func11 (by kernel_rfl), shuf18_fn _ _⟩
    · cases hq
  · intro args h c v nb hq hc
    unfold gS27 at hq
    split at hq
    · cases hq; exact ⟨.of Tryz.func29 (by kernel_rfl), shuf27_fn _ _ _⟩
    · cases hq
  · intro args h c v nb hq hc
    unfold gS28 at hq
    split at hq
    · cases hq; exact ⟨.of Tryz.func30 (by kernel_rfl), sb_fn _ _ (of_decide_eq_true hc)⟩
    · cases hq
def domS : FuncId → Bool := fun f => Nat.beq f 11 || (Nat.beq f 29 || (Nat.beq f 30 || (Nat.beq f 31 || Nat.beq f 64)))
def isKp : FuncId → Bool := fun f => Nat.beq f 31
def isFi : FuncId → Bool := fun f => Nat.beq f 64
def nrS : FuncId → Option Row := fun _ => some (.ints .i64 [])
def glS : FuncId → List Nat := fun _ => []
noncomputable abbrev orcS (S : SN) : Oracle := inl Tryz.prog ftab (tabMk S.MK) plainL 100 never domS (orElse isKp (wholeOrc nrS (hTabW S.KP)) (orElse isFi (flatOrc 64 3 .i64 S.FC) (hOrcN glS nrS (hTabS S)))) 20
theorem orcS_ok : OracleOk Tryz.prog (orcS sN) := inl_ok (orElse_ok (wholeOrc_ok hTabW_ok) (orElse_ok (flatOrc_ok fi_ok) (hOrcN_ok hTabS_ok))) ftab_ok tabMk_ok plainL_ok mixed 20
end Go.Proofs.YtnbfnoomhlamnaaGreat
