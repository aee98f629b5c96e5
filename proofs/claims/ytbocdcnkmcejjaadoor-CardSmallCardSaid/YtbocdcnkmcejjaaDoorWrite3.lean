/- Chapter 4: Write's contract. -/
import Derived.Test.YtbocdcnkmcejjaaDoorWrite2
namespace Go.Proofs.YtbocdcnkmcejjaaDoor
open Go Go.Eng
noncomputable def wrTree : List PV → Fin
  | [.i r, .ss ps, .i m] => .br (pB (0 ≤ r ∧ r < 4503599627370496 ∧ ps = u4 ([], [], [], []) ∧ m = r)) (.leaf (.exit 0) (wrT.at [.i 0, .ss (u4 (add4 ([], [], [], []) r.toNat)), .i m])) .no
  | _ => .no
noncomputable def wrSum : LoopSum := lsumF 4 wrT wrLp wrTree
theorem wrSum_ok : LoopOk Tryd.prog wrSum := by
  refine lsumF_ok (by kernel_rfl) (fun rd ps e1 s1 h => ?_)
  unfold wrTree at h
  split at h
  · rename_i r ps m
    simp only [Fin.pick] at h
    cases hc : pB (0 ≤ r ∧ r < 4503599627370496 ∧ ps = u4 ([], [], [], []) ∧ m = r) with
    | false => rw [hc] at h; cases h
    | true =>
      rw [hc, cond_true] at h
      rw [pB_iff] at hc
      obtain ⟨h0, h1, rfl, rfl⟩ := hc
      cases h
      obtain ⟨n, rfl⟩ : ∃ n : Nat, m = n := ⟨m.toNat, by omega⟩
      rw [show ((n : Int)).toNat = n by omega]
      exact wr_loop rd n (n, ([], [], [], [])) ⟨by dsimp only; omega, by simp only [small4, add4, List.nil_append]; exact ⟨suf_len _ _ _, suf_len _ _ _, suf_len _ _ _, suf_len _ _ _⟩⟩
  · cases h
noncomputable def wrL : FuncId → Loops := fun f => match f with
  | 53 => sums (fun n => match n with | 1 => some wrSum | _ => none)
  | _ => noLoops
theorem wrL_ok : ∀ f, loopsOk Tryd.prog (wrL f) := fun f => by
  unfold wrL
  split
  · intro n g hg
    simp only [sums] at hg
    split at hg
    · cases hg; exact wrSum_ok
    · cases hg
  · exact noLoops_ok
/-- The text of a set. -/
def wtxt (m : Nat) : List UInt8 := suf m 3 13 ++ 46 :: (suf m 2 13 ++ 46 :: (suf m 1 13 ++ 46 :: suf m 0 13))
theorem wr_join (m : Nat) : joinS (u4 (add4 ([], [], [], []) m)) ⟨⟨[46]⟩⟩ = bA (wtxt m) := by
  unfold joinS Lib.join u4 add4 bA wtxt
  simp [List.intercalate]
theorem wr_eval (m : Int) : evalFn Tryd.prog (orcS tabO wrL) noLoops 100 18 Tryd.f18 [.int .u64 m] [] (fun v _ => some v) =
    bif decide (4503599627370495 < m) then some (.tuple [.str ⟨#[]⟩, .int .i64 41]) else
      cond (codesB [(wrLp, wrLp), (wrA, wrA), (wrB, wrB)]) (bif pB (0 ≤ m ∧ m < 4503599627370496 ∧ [⟨#[]⟩, ⟨#[]⟩, ⟨#[]⟩, ⟨#[]⟩] = u4 ([], [], [], []) ∧ m = m) then
        bif decide (4 ≤ 140737488355328) && decide (joinLen (u4 (add4 ([], [], [], []) m.toNat)) ⟨⟨[46]⟩⟩ ≤ 140737488355328) then
          some (.tuple [.str (joinS (u4 (add4 ([], [], [], []) m.toNat)) ⟨⟨[46]⟩⟩), .int .i64 0]) else none else none) none := by kernel_rfl
def wrE (m : Int) : Int := bif decide (4503599627370495 < m) then 41 else 0
def wrV (m : Int) : ByteArray := bif decide (4503599627370495 < m) then ⟨#[]⟩ else bA (wtxt m.toNat)
theorem wtxt_len (m : Nat) : (wtxt m).length ≤ 55 := by
  have h3 := suf_len m 3 13; have h2 := suf_len m 2 13; have h1 := suf_len m 1 13; have h0 := suf_len m 0 13
  simp only [wtxt, List.length_append, List.length_cons]
  omega
theorem codesC3 {a b c : Code} : codesB [(a, a), (b, b), (c, c)] = true := by rw [codesB_iff]; intro x hx; simp at hx; rcases hx with rfl | rfl | rfl <;> rfl
theorem write_p {m : Int} (h0 : 0 ≤ m) : FnPure Tryd.prog 18 [.int .u64 m] (.tuple [.str (wrV m), .int .i64 (wrE m)]) := by
  refine fnPure_of_eval (N := 100) (orcS_ok tabO_ok wrL_ok) mixed Tryd.func18 (by kernel_rfl) noLoops_ok ?_ rfl rfl
  rw [wr_eval]
  unfold wrV wrE
  by_cases h : 4503599627370495 < m
  · rw [decide_eq_true h]; rfl
  · have hj : joinLen (u4 (add4 ([], [], [], []) m.toNat)) ⟨⟨[46]⟩⟩ ≤ 140737488355328 := by
      have : joinLen (u4 (add4 ([], [], [], []) m.toNat)) ⟨⟨[46]⟩⟩ = (joinS (u4 (add4 ([], [], [], []) m.toNat)) ⟨⟨[46]⟩⟩).data.toList.length := by unfold joinLen joinS; simp
      rw [this, wr_join]
      have := wtxt_len m.toNat
      show (wtxt m.toNat).length ≤ _
      omega
    rw [decide_eq_false h, codesC3, pB_iff.2 ⟨h0, by omega, rfl, rfl⟩, decide_eq_true hj, wr_join]
    rfl
def gWrite : List V → Option (Bool × V)
  | [.int .u64 m] => some (decide (0 ≤ m), .tuple [.str (wrV m), .int .i64 (wrE m)])
  | _ => none
end Go.Proofs.YtbocdcnkmcejjaaDoor
