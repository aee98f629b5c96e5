/- Chapter 6: deal.Read's contract. -/
import Derived.Test.YtpalajfcffdhoaaDoorSp3
namespace Go.Proofs.YtpalajfcffdhoaaDoor
open Go Go.Eng
def pK (w : List UInt8) {α : Type} (K : Nat → Option α) : Option α := match N4.parseN w with
  | some m => K m
  | none => none
/-- The partial deal with a text. -/
noncomputable def readN (l : List UInt8) : Option (Nat × Nat × Nat × Nat) := if cpI l = true ∧ l.length ≤ 69 ∧ (l.drop 2).count 32 = 3 then
    pK (ctS (l.drop 2)) fun a => pK (ctS (rsS (l.drop 2))) fun b => pK (ctS (rsS (rsS (l.drop 2)))) fun c => pK (rsS (rsS (rsS (l.drop 2)))) fun d => if parB a b c d = true then some (a, b, c, d) else none
  else none
def resR : Option (Nat × Nat × Nat × Nat) → V
  | some (a, b, c, d) => .tuple [.agg [.int .u64 (a : Nat), .int .u64 (b : Nat), .int .u64 (c : Nat), .int .u64 (d : Nat)], .int .i64 0]
  | none => .tuple [.agg [.int .u64 0, .int .u64 0, .int .u64 0, .int .u64 0], .int .i64 61]
theorem rdI_at {i vl : Nat} {L : List ByteArray} {w : List UInt8} {K : Int → Option V} {F : Option V} {K' : Nat → Option (Nat × Nat × Nat × Nat)} (hi : i < vl) (hL : L.length = vl) (hx : L[i]? = some (bA w)) (hK : ∀ m : Nat, m < 4503599627370496 → K (m : Int) = some (resR (K' m))) :
    rdI ES0 (i : Int) vl L K F = some (resR (pK w K')) := by
  unfold rdI pK
  rw [decide_eq_true (show (i : Int) < Int.ofNat vl by show (i : Int) < (vl : Int); omega), decide_eq_true (show 0 ≤ (i : Int) ∧ (i : Int) < Int.ofNat vl ∧ 0 + vl ≤ L.length by refine ⟨by omega, ?_, by omega⟩; show (i : Int) < (vl : Int); omega), show (i : Int).toNat = i by omega, hx]
  show (bif !decide (N4.prE (bA w) = 0) then e61 else K (N4.prV (bA w))) = _
  unfold N4.prE N4.prV
  rw [show (bA w).data.toList = w from rfl]
  cases hp : N4.parseN w with
  | none => rfl
  | some m => exact hK m (N4.parse_only hp).2
theorem rdI_out {E : ES} {L : List ByteArray} {K : Int → Option V} {F : Option V} : rdI E 4 4 L K F = F := by
  unfold rdI
  rw [decide_eq_false (show ¬ (4 : Int) < Int.ofNat 4 by decide)]; rfl
theorem ES0_u4 : ES0.u4 = in4 := rfl
theorem ES0_pb : ES0.pb = parB := rfl
theorem in4_lt {a b c d : Nat} (ha : a < 4503599627370496) (hb : b < 4503599627370496) (hc : c < 4503599627370496) (hd : d < 4503599627370496) : in4 (a : Int) (b : Int) (c : Int) (d : Int) = true := by
  unfold in4
  rw [in64_iff.2 ⟨by omega, by omega⟩, in64_iff.2 ⟨by omega, by omega⟩, in64_iff.2 ⟨by omega, by omega⟩, in64_iff.2 ⟨by omega, by omega⟩]; rfl
theorem rdX_is {w0 w1 w2 w3 : List UInt8} : rdX ES0 4 [bA w0, bA w1, bA w2, bA w3] = some (resR (pK w0 fun a => pK w1 fun b => pK w2 fun c => pK w3 fun d => if parB a b c d = true then some (a, b, c, d) else none)) := by
  unfold rdX
  refine rdI_at (i := 0) (by decide) rfl rfl fun a ha => ?_
  refine rdI_at (i := 1) (by decide) rfl rfl fun b hb => ?_
  refine rdI_at (i := 2) (by decide) rfl rfl fun c hc => ?_
  refine rdI_at (i := 3) (by decide) rfl rfl fun d hd => ?_
  rw [rdI_out]
  unfold rdF
  rw [ES0_u4, in4_lt ha hb hc hd, cond_true, ES0_pb]
  cases parB (a : Int) (b : Int) (c : Int) (d : Int) with
  | true => rfl
  | false => rfl
theorem codesSS : codesB [(ssLp, ssLp)] = true := by rw [codesB_iff]; intro x hx; simp at hx; rw [hx]
theorem frS_set (k : Nat) (l : List UInt8) : (frS k l ++ [emp]).set k (bA (laS k l)) = frS k l ++ [bA (laS k l)] := by
  have h := frS_len k l
  rw [List.set_append_right _ _ (by omega), h, Nat.sub_self]; rfl
theorem rdS_is {s : ByteArray} {K : Nat → List ByteArray → Option V} (hl : s.data.toList.length ≤ 69) : rdS ES0 s K = K (s.data.toList.count 32 + 1) (frS (s.data.toList.count 32) s.data.toList ++ [bA (laS (s.data.toList.count 32) s.data.toList)]) := by
  have hle : s.data.toList.count 32 ≤ s.data.toList.length := List.count_le_length
  have hn : nS s = ((s.data.toList.count 32 + 1 : Nat) : Int) := by
    unfold nS
    rw [show N4.cntI s 32 = ((s.data.toList.count 32 : Nat) : Int) from rfl, N4.wr64 (x := ((s.data.toList.count 32 : Nat) : Int) + 1) (by omega) (by omega), show Int.ofNat s.data.toList.length = ((s.data.toList.length : Nat) : Int) from rfl, N4.wr64 (by omega) (by omega)]
    simp only [foldI, minI]
    rw [decide_eq_false (by omega)]
    rfl
  unfold rdS
  generalize hk : s.data.toList.count 32 = k at hle hn ⊢
  have hI : ES0.I s = (k : Int) := by show Int.ofNat (s.data.toList.count 32) = _; rw [hk]; rfl
  have hL : ES0.L s = frS k s.data.toList ++ [emp] := by show frS (s.data.toList.count 32) s.data.toList ++ [emp] = _; rw [hk]
  have hS : ES0.S s = bA (laS k s.data.toList) := by show bA (laS (s.data.toList.count 32) s.data.toList) = _; rw [hk]
  have hC : ES0.C s (wr .i64 (((k + 1 : Nat) : Int) - 1)) 0 (List.replicate ((k + 1 : Nat) : Int).toNat ⟨#[]⟩) = true := by
    refine pB_iff.2 ⟨?_, rfl, ?_, hl⟩
    · rw [hk, N4.wr64 (by omega) (by omega)]; show _ = (k : Int); omega
    · rw [hk]; rfl
  have hlen : (frS k s.data.toList ++ [emp]).length = k + 1 := by rw [List.length_append, frS_len]; rfl
  rw [hn, decide_eq_true (show 0 ≤ ((k + 1 : Nat) : Int) ∧ ((k + 1 : Nat) : Int) ≤ ((k + 1 : Nat) : Int) ∧ ((k + 1 : Nat) : Int) * 17 ≤ 140737488355328 by omega), codesSS, hC, hI, hL, hS, show ((k : Int)).toNat = k by omega, frS_set, hlen,
    decide_eq_true (show 0 ≤ (k : Int) ∧ (k : Int) < Int.ofNat (k + 1) by refine ⟨by omega, ?_⟩; show (k : Int) < ((k + 1 : Nat) : Int); omega), decide_eq_true (show k < k + 1 by omega), N4.wr64 (x := (k : Int) + 1) (by omega) (by omega),
    decide_eq_true (show 0 ≤ (0 : Int) ∧ 0 ≤ (k : Int) + 1 ∧ (k : Int) + 1 ≤ Int.ofNat (frS k s.data.toList ++ [bA (laS k s.data.toList)]).length by
      refine ⟨by omega, by omega, ?_⟩
      rw [List.length_append, frS_len]; show (k : Int) + 1 ≤ ((k + 1 : Nat) : Int); omega), show ((k : Int) + 1).toNat = k + 1 by omega]
  rfl
theorem read_p (s : ByteArray) : FnPure Tryd.prog 7 [.str s] (resR (readN s.data.toList)) := by
  refine fnPure_of_eval (N := 100) (N4.orcS_ok tabSp_ok ssL_ok) mixed Tryd.func7 (by kernel_rfl) noLoops_ok ?_ rfl (by unfold resR; split <;> rfl)
  rw [read_eval]
  show (bif !(cpI s.data.toList) then _ else _) = _
  unfold readN
  cases hc : cpI s.data.toList with
  | false => rw [if_neg (fun h => by cases h.1)]; rfl
  | true =>
    simp only [Bool.not_true, cond_false]
    by_cases hl : s.data.toList.length ≤ 69
    · rw [decide_eq_false (show ¬ (69 : Int) < Int.ofNat s.data.toList.length by show ¬ (69 : Int) < ((s.data.toList.length : Nat) : Int); omega), cond_false, show ES0.cs s = bA (s.data.toList.drop 2) by show ctP s = _; unfold ctP; rw [hc]; rfl,
        rdS_is (by show (s.data.toList.drop 2).length ≤ 69; rw [List.length_drop]; omega), show (bA (s.data.toList.drop 2)).data.toList = s.data.toList.drop 2 from rfl]
      generalize s.data.toList.drop 2 = r
      by_cases h3 : r.count 32 = 3
      · rw [if_pos ⟨trivial, hl, h3⟩, h3]
        exact rdX_is
      · rw [if_neg (fun h => h3 h.2.2), decide_eq_false (show ¬ Int.ofNat (r.count 32 + 1) = 4 by show ¬ ((r.count 32 + 1 : Nat) : Int) = 4; omega)]; rfl
    · rw [if_neg (fun h => hl h.2.1), decide_eq_true (show (69 : Int) < Int.ofNat s.data.toList.length by show (69 : Int) < ((s.data.toList.length : Nat) : Int); omega)]; rfl
end Go.Proofs.YtpalajfcffdhoaaDoor
