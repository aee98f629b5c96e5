/- Chapter 9: Made for every list. -/
import Derived.Test.YtnhilofmafjdpaaDoorMd3
namespace Go.Proofs.YtnhilofmafjdpaaDoor
open Go Go.Eng
noncomputable def m1Tree (K : Int → List Int → Bool) (MR : Int → List Int → List Int) (nn : Bool) : List PV → Fin
  | [.i d, .b fin, .n z, .n k, .i n, .i i, .l xs, .l out] => .br (decide (z = 0 ∧ k ≤ xs.length ∧ k ≤ 319 ∧ n = Int.ofNat k ∧ i = 0 ∧ out.length = 0) && K d xs) (.leaf (.exit 0) ((m1X nn).at [.i d, .b fin, .l xs, .l (MR d (xs.take k))])) .no
  | _ => .no
noncomputable def m2Tree (K2 : Int → List Int → Bool) (FR : Int → Bool → List Int → List Int) (nn : Bool) : List PV → Fin
  | [.i d, .b fin, .i i, .l xs, .l out] => .br (decide (i = 0) && K2 d out) (.leaf (.exit 2) ((m2X nn).at [.i d, .l xs, .l (FR d fin out)])) .no
  | _ => .no
def mdA (d : Int) (xs : List Int) : List Int := mdR d xs []
def mdF (d : Int) (fin : Bool) (out : List Int) : List Int := fnR d fin 4 out
def mK1 (d : Int) (xs : List Int) : Bool := decide (0 ≤ d) && allU xs
def mK2 (d : Int) (out : List Int) : Bool := okA d out && decide (out.length ≤ 319)
structure MN where
  K1 : Int → List Int → Bool
  MR : Int → List Int → List Int
  K2 : Int → List Int → Bool
  FR : Int → Bool → List Int → List Int
def mN : MN := ⟨mK1, mdA, mK2, mdF⟩
noncomputable def mdL (M : MN) (nn : Bool) : Loops := sums (fun n => match n with
  | 4 => some (lsumF 1 (m1T nn) m1Lp (m1Tree M.K1 M.MR nn)) | 14 => some (lsumF 1 (m2T nn) m2Lp (m2Tree M.K2 M.FR nn)) | _ => none)
theorem mdL_ok (nn : Bool) : loopsOk Tryd.prog (mdL mN nn) := by
  intro n g hg
  simp only [mdL, sums, mN] at hg
  split at hg
  · cases hg
    refine lsumF_ok (by cases nn <;> kernel_rfl) (fun rd ps e1 st1 hq => ?_)
    unfold m1Tree at hq
    split at hq
    · rename_i d fin z k n i xs out
      simp only [Fin.pick] at hq
      cases hc : (decide (z = 0 ∧ k ≤ xs.length ∧ k ≤ 319 ∧ n = Int.ofNat k ∧ i = 0 ∧ out.length = 0) && mK1 d xs) with
      | false => rw [hc] at hq; cases hq
      | true =>
        rw [hc, cond_true] at hq
        simp only [mK1, Bool.and_eq_true, decide_eq_true_eq] at hc
        obtain ⟨⟨rfl, h1, h2, rfl, rfl, h3⟩, h4, h5⟩ := hc
        obtain rfl := List.eq_nil_of_length_eq_zero h3
        cases hq
        have h0 : okA d [] = true := by simp only [okA, smallL, allU, Bool.and_eq_true, decide_eq_true_eq]; exact ⟨h4, by simp, trivial⟩
        exact m1_loop nn rd d fin xs h5 k h1 h2 (0, []) ⟨Nat.zero_le _, h0, Nat.le_refl _⟩
    · cases hq
  · cases hg
    refine lsumF_ok (by cases nn <;> kernel_rfl) (fun rd ps e1 st1 hq => ?_)
    unfold m2Tree at hq
    split at hq
    · rename_i d fin i xs out
      simp only [Fin.pick] at hq
      cases hc : (decide (i = 0) && mK2 d out) with
      | false => rw [hc] at hq; cases hq
      | true =>
        rw [hc, cond_true] at hq
        simp only [mK2, Bool.and_eq_true, decide_eq_true_eq] at hc
        obtain ⟨rfl, h1, h2⟩ := hc
        cases hq
        exact m2_loop nn rd d fin xs (0, out) ⟨by simp, h1, by dsimp only; omega⟩
    · cases hq
  · cases hg
def keepQ (v : V) (h : List Blk) : Option (V × Option (Bool × TypeId × Nat × Row)) := match v with
  | .tuple [w, .gs b] => match getB h b with
    | .grow nn ty sz row => some (.tuple [w, .gs b], some (nn, ty, sz, row))
    | _ => none
  | _ => none
theorem made_eval (N : NA) (M : MN) (nn : Bool) (d : Int) (fin : Bool) (xs : List Int) : evalFn Tryd.prog (orcC N (tabO chk ovr) plainL) (mdL M nn) 100 14 Tryd.f14 [.int .u8 d, .gs 0, .bool fin] [.rs nn 1 (.ints .u8 xs)] keepQ =
    bif decide ((0 : Int) ≤ 0 ∧ (0 : Int) ≤ foldI minI (Int.ofNat xs.length) [319] ∧ foldI minI (Int.ofNat xs.length) [319] ≤ Int.ofNat xs.length) then
    cond (codesB [(m1Lp, m1Lp)]) (bif decide ((0 : Int).toNat = 0 ∧ (foldI minI (Int.ofNat xs.length) [319]).toNat - (0 : Int).toNat ≤ xs.length ∧ (foldI minI (Int.ofNat xs.length) [319]).toNat - (0 : Int).toNat ≤ 319 ∧ Int.ofNat ((foldI minI (Int.ofNat xs.length) [319]).toNat - (0 : Int).toNat) = Int.ofNat ((foldI minI (Int.ofNat xs.length) [319]).toNat - (0 : Int).toNat) ∧ (0 : Int) = 0 ∧ ([] : List Int).length = 0) && M.K1 (d.tmod 4) xs then
      cond (codesB [(m2Lp, m2Lp)]) (bif decide ((0 : Int) = 0) && M.K2 (d.tmod 4) (M.MR (d.tmod 4) (xs.take ((foldI minI (Int.ofNat xs.length) [319]).toNat - (0 : Int).toNat))) then
        some (.tuple [.int .u8 (d.tmod 4), .gs 1], some (false, 5, 1, .ints .u8 (M.FR (d.tmod 4) fin (M.MR (d.tmod 4) (xs.take ((foldI minI (Int.ofNat xs.length) [319]).toNat - (0 : Int).toNat)))))) else none) none else none) none else none := by cases nn <;> kernel_rfl
end Go.Proofs.YtnhilofmafjdpaaDoor
