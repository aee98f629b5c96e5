/- Chapter 9: Table for every list. -/
import Derived.Test.YtnhilofmafjdpaaDoorTb4
namespace Go.Proofs.YtnhilofmafjdpaaDoor
open Go Go.Eng
noncomputable def t1Tree (R1 : Int → List ByteArray) (nn : Bool) : List PV → Fin
  | .i n :: .i i :: .ss tl :: .l xs :: ps => match stP ps with
    | some (s, [.ss cs]) => .br (decide (i = 0 ∧ 0 ≤ n ∧ n < 256 ∧ cs.length = 0)) (.leaf (.exit 0) ((t1X nn).at (.ss tl :: .l xs :: s.pv [.ss (R1 n)]))) .no
    | _ => .no
  | _ => .no
def c2 (i n : Int) (xs : List Int) (cs : List ByteArray) : Bool := decide (i = 0 ∧ n = Int.ofNat xs.length ∧ xs.length ≤ 1000000 ∧ cs.length ≤ 300) && allC xs
noncomputable def t2Tree (C2 : Int → Int → List Int → List ByteArray → Bool) (R2 : List ByteArray → List Int → List ByteArray) (nn : Bool) : List PV → Fin
  | .i n :: .i i :: .ss tl :: .l xs :: ps => match stP ps with
    | some (s, [.ss cs]) => .br (C2 i n xs cs && pB (tl = textsL)) (.leaf (.exit 2) ((t2X nn).at (.ss tl :: .l xs :: s.pv [.ss (R2 cs xs)]))) .no
    | _ => .no
  | _ => .no
noncomputable def t3Tree (C3 : List ByteArray → Bool) (R3 : List ByteArray → List ByteArray) (nn : Bool) : List PV → Fin
  | [.i i, .ss tl, .l xs, .ss cs, .ss ts] => .br (decide (i = 0 ∧ ts.length = 0) && C3 cs) (.leaf (.exit 4) ((t3X nn).at [.ss tl, .l xs, .ss (R3 cs)])) .no
  | _ => .no
structure TbN where
  R1 : Int → List ByteArray
  C2 : Int → Int → List Int → List ByteArray → Bool
  R2 : List ByteArray → List Int → List ByteArray
  C3 : List ByteArray → Bool
  R3 : List ByteArray → List ByteArray
def tbN : TbN := ⟨dashes, c2, withT, smallC, lns⟩
noncomputable def tbL (N : TbN) (nn : Bool) : Loops := sums (fun n => match n with
  | 6 => some (lsumF 2 (t1T nn) t1Lp (t1Tree N.R1 nn)) | 10 => some (lsumF 2 (t2T nn) t2Lp (t2Tree N.C2 N.R2 nn)) | 19 => some (lsumF 2 (t3T nn) t3Lp (t3Tree N.C3 N.R3 nn)) | _ => none)
theorem tbL_ok (nn : Bool) : loopsOk Tryd.prog (tbL tbN nn) := by
  intro n g hg
  simp only [tbL, sums, tbN] at hg
  split at hg
  · cases hg
    refine lsumF_ok (by cases nn <;> kernel_rfl) (fun rd ps e1 st1 hq => ?_)
    unfold t1Tree at hq
    split at hq
    · rename_i n i tl xs ps
      split at hq
      · rename_i s cs hs
        rw [stP_ok hs]
        simp only [Fin.pick] at hq
        cases hc : decide (i = 0 ∧ 0 ≤ n ∧ n < 256 ∧ cs.length = 0) with
        | false => rw [hc] at hq; cases hq
        | true =>
          rw [hc, cond_true] at hq
          simp only [decide_eq_true_eq] at hc
          obtain ⟨rfl, h1, h2, h3⟩ := hc
          obtain rfl := List.eq_nil_of_length_eq_zero h3
          cases hq
          have := t1_loop nn rd n.toNat (by omega) tl xs s 0 (Nat.zero_le _)
          rw [show ((n.toNat : Nat) : Int) = n by omega] at this
          exact this
      · cases hq
    · cases hq
  · cases hg
    refine lsumF_ok (by cases nn <;> kernel_rfl) (fun rd ps e1 st1 hq => ?_)
    unfold t2Tree at hq
    split at hq
    · rename_i n i tl xs ps
      split at hq
      · rename_i s cs hs
        rw [stP_ok hs]
        simp only [Fin.pick] at hq
        cases hc : (c2 i n xs cs && pB (tl = textsL)) with
        | false => rw [hc] at hq; cases hq
        | true =>
          rw [hc, cond_true] at hq
          simp only [c2, Bool.and_eq_true, decide_eq_true_eq, pB_iff] at hc
          obtain ⟨⟨⟨rfl, rfl, h1, h2⟩, h3⟩, rfl⟩ := hc
          cases hq
          have := t2_loop nn rd xs h3 h1 cs h2 s 0 (Nat.zero_le _)
          rw [show withT cs (xs.take 0) = cs by simp [withT]] at this
          exact this
      · cases hq
    · cases hq
  · cases hg
    refine lsumF_ok (by cases nn <;> kernel_rfl) (fun rd ps e1 st1 hq => ?_)
    unfold t3Tree at hq
    split at hq
    · rename_i i tl xs cs ts
      simp only [Fin.pick] at hq
      cases hc : (decide (i = 0 ∧ ts.length = 0) && smallC cs) with
      | false => rw [hc] at hq; cases hq
      | true =>
        rw [hc, cond_true] at hq
        simp only [Bool.and_eq_true, decide_eq_true_eq] at hc
        obtain ⟨⟨rfl, h1⟩, h2⟩ := hc
        obtain rfl := List.eq_nil_of_length_eq_zero h1
        cases hq
        exact t3_loop nn rd tl xs cs h2 0 (Nat.zero_le _)
    · cases hq
  · cases hg
noncomputable abbrev evT (F : Int → List Int → FR) (CH : St → Int → Int) (OV : St → Bool) (LN : LNT) (N : TbN) (nn : Bool) (d : Int) (xs : List Int) := evalFn Tryd.prog (orc1 (tabT CH OV LN) F plainL) (tbL N nn) 100 20 Tryd.f20 [.int .u8 d, .gs 1] [.glob 0 (.strs textsL), .rs nn 1 (.ints .u8 xs)] keepX
end Go.Proofs.YtnhilofmafjdpaaDoor
