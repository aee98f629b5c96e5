/- Texts merged: CWrite3, CRList, CRList2. -/
import Derived.Test.YtpalajfcffdhoaaCWrite2
import Derived.Test.YtpalajfcffdhoaaCRHas
/- Chapter 4: Write's contract. -/
namespace Go.Proofs.Ytpalajfcffdhoaa.N4
open Go Go.Eng
noncomputable def wrTree : List PV → Fin
  | [.i r, .ss ps, .i m] => .br (pB (0 ≤ r ∧ r < 4503599627370496 ∧ ps = u4 ([], [], [], []) ∧ m = r)) (.leaf (.exit 0) (wrT.at [.i 0, .ss (u4 (add4 ([], [], [], []) r.toNat)), .i m])) .no
  | _ => .no
noncomputable def wrSum : LoopSum := lsumF 4 wrT wrLp wrTree
theorem wrSum_ok : LoopOk Try.prog wrSum := by
  refine lsumF_ok (by kernel_rfl) (fun rd ps e1 s1 h => ?_)
  unfold wrTree at h
  split at h
  · rename_i r ps m
    simp only [Fin.pick] at h
    cases hc : pB (0 ≤ r ∧ r < 4503599627370496 ∧ ps = u4 ([], [], [], []) ∧ m = r) with
    | false => rw [hc] at h; cases h
    | true =>
      rw [hc, cond_true] at h
      rw [pB_iff] at hc
      obtain ⟨h0, h1, rfl, rfl⟩ := hc
      cases h
      obtain ⟨n, rfl⟩ : ∃ n : Nat, m = n := ⟨m.toNat, by omega⟩
      rw [show ((n : Int)).toNat = n by omega]
      exact wr_loop rd n (n, ([], [], [], [])) ⟨by dsimp only; omega, by simp only [small4, add4, List.nil_append]; exact ⟨suf_len _ _ _, suf_len _ _ _, suf_len _ _ _, suf_len _ _ _⟩⟩
  · cases h
noncomputable def wrL : FuncId → Loops := fun f => match f with
  | 93 => sums (fun n => match n with | 1 => some wrSum | _ => none)
  | _ => noLoops
theorem wrL_ok : ∀ f, loopsOk Try.prog (wrL f) := fun f => by
  unfold wrL
  split
  · intro n g hg
    simp only [sums] at hg
    split at hg
    · cases hg; exact wrSum_ok
    · cases hg
  · exact noLoops_ok
/-- The text of a set. -/
def wtxt (m : Nat) : List UInt8 := suf m 3 13 ++ 46 :: (suf m 2 13 ++ 46 :: (suf m 1 13 ++ 46 :: suf m 0 13))
theorem wr_join (m : Nat) : joinS (u4 (add4 ([], [], [], []) m)) ⟨⟨[46]⟩⟩ = bA (wtxt m) := by
  unfold joinS Lib.join u4 add4 bA wtxt
  simp [List.intercalate]
theorem wr_eval (m : Int) : evalFn Try.prog (orcS tabO wrL) noLoops 100 51 Try.f51 [.int .u64 m] [] (fun v _ => some v) =
    bif decide (4503599627370495 < m) then some (.tuple [.str ⟨#[]⟩, .int .i64 41]) else
      cond (codesB [(wrLp, wrLp), (wrA, wrA), (wrB, wrB)]) (bif pB (0 ≤ m ∧ m < 4503599627370496 ∧ [⟨#[]⟩, ⟨#[]⟩, ⟨#[]⟩, ⟨#[]⟩] = u4 ([], [], [], []) ∧ m = m) then
        bif decide (4 ≤ 140737488355328) && decide (joinLen (u4 (add4 ([], [], [], []) m.toNat)) ⟨⟨[46]⟩⟩ ≤ 140737488355328) then
          some (.tuple [.str (joinS (u4 (add4 ([], [], [], []) m.toNat)) ⟨⟨[46]⟩⟩), .int .i64 0]) else none else none) none := by kernel_rfl
def wrE (m : Int) : Int := bif decide (4503599627370495 < m) then 41 else 0
def wrV (m : Int) : ByteArray := bif decide (4503599627370495 < m) then ⟨#[]⟩ else bA (wtxt m.toNat)
theorem wtxt_len (m : Nat) : (wtxt m).length ≤ 55 := by
  have h3 := suf_len m 3 13; have h2 := suf_len m 2 13; have h1 := suf_len m 1 13; have h0 := suf_len m 0 13
  simp only [wtxt, List.length_append, List.length_cons]
  omega
theorem codesC3 {a b c : Code} : codesB [(a, a), (b, b), (c, c)] = true := by rw [codesB_iff]; intro x hx; simp at hx; rcases hx with rfl | rfl | rfl <;> rfl
theorem write_p {m : Int} (h0 : 0 ≤ m) : FnPure Try.prog 51 [.int .u64 m] (.tuple [.str (wrV m), .int .i64 (wrE m)]) := by
  refine fnPure_of_eval (N := 100) (orcS_ok tabO_ok wrL_ok) mixed Try.func51 (by kernel_rfl) noLoops_ok ?_ rfl rfl
  rw [wr_eval]
  unfold wrV wrE
  by_cases h : 4503599627370495 < m
  · rw [decide_eq_true h]; rfl
  · have hj : joinLen (u4 (add4 ([], [], [], []) m.toNat)) ⟨⟨[46]⟩⟩ ≤ 140737488355328 := by
      have : joinLen (u4 (add4 ([], [], [], []) m.toNat)) ⟨⟨[46]⟩⟩ = (joinS (u4 (add4 ([], [], [], []) m.toNat)) ⟨⟨[46]⟩⟩).data.toList.length := by unfold joinLen joinS; simp
      rw [this, wr_join]
      have := wtxt_len m.toNat
      show (wtxt m.toNat).length ≤ _
      omega
    rw [decide_eq_false h, codesC3, pB_iff.2 ⟨h0, by omega, rfl, rfl⟩, decide_eq_true hj, wr_join]
    rfl
def gWrite : List V → Option (Bool × V)
  | [.int .u64 m] => some (decide (0 ≤ m), .tuple [.str (wrV m), .int .i64 (wrE m)])
  | _ => none
end Go.Proofs.Ytpalajfcffdhoaa.N4

/- Chapter 4, the reference: List and Write: their inner loops. -/
namespace Go.Proofs.Ytpalajfcffdhoaa.N4
open Go Go.Eng
structure NR where
  has : Int → Int → Bool
  hasC : Int → Int → Bool
  sg : Int → ByteArray
  bit : Int → Int
  bitC : Int → Bool
def gHasN (N : NR) : List V → Option (Bool × V)
  | [.int .u64 m, .int .i64 c] => some (N.hasC m c, .bool (N.has m c))
  | _ => none
def gSignN (N : NR) : List V → Option (Bool × V)
  | [.int .i64 r] => some (true, .str (N.sg r))
  | _ => none
def gBitN (N : NR) : List V → Option (Bool × V)
  | [.int .u8 c] => some (N.bitC c, .int .u64 (N.bit c))
  | _ => none
def tabNR (N : NR) : PTab := addTab 70 (gHasN N) (addTab 91 (gSignN N) (addTab 97 (gBitN N) emptyTab))
noncomputable abbrev orcNR (N : NR) : Oracle := inl Try.prog ftab (tabNR N) plainL 100 never never orc0 20
def R0 : NR := ⟨hasB, fun m c => decide ((0 ≤ m ∧ m < 18446744073709551616) ∧ 0 ≤ c ∧ c ≤ 1000), sgB, fun c => ((2 ^ c.toNat : Nat) : Int), fun c => decide (0 ≤ c ∧ c ≤ 63)⟩
theorem tabNR_ok : PTabOk Try.prog (tabNR R0) := by
  refine addTab_ok ?_ (addTab_ok ?_ (addTab_ok ?_ emptyTab_ok))
  · intro args c v h hc
    unfold gHasN at h
    split at h
    · cases h
      have hc := of_decide_eq_true hc
      exact has_p hc.1 hc.2.1 hc.2.2
    · cases h
  · intro args c v h _
    unfold gSignN at h
    split at h
    · cases h; exact sign_p _
    · cases h
  · intro args c v h hc
    unfold gBitN at h
    split at h
    · cases h
      have hc := of_decide_eq_true hc
      exact bit_p hc.1 hc.2
    · cases h
theorem orcNR_ok : OracleOk Try.prog (orcNR R0) := inl_ok orc0_ok ftab_ok tabNR_ok plainL_ok mixed 20
noncomputable def rwLp : Code := loopOf 8 Try.f69
def rwT : Tm := ⟨mkS [(0, .int .u64), (4, .str), (5, .int .i64), (6, .int .i64)] 0 33, [], []⟩
def rwX : Tm := ⟨mkS [(0, .int .u64), (4, .str), (5, .int .i64)] 0 33, [], []⟩
end Go.Proofs.Ytpalajfcffdhoaa.N4

/- Chapter 4, the reference: List and Write: what their inner loops come to. -/
namespace Go.Proofs.Ytpalajfcffdhoaa.N4
open Go Go.Eng
def rIx (s r : Int) : Int := wr .i64 (wr .i64 (13 * s) + r)
theorem rw_round (N : NR) (rd : Option Nat) (m s r : Int) (out : ByteArray) : roundT Try.prog (orcNR N) noLoops 100 0 rd 69 rwLp rwT rwX [.i m, .s out, .i s, .i r] =
    bif decide (0 ≤ r) then bif N.hasC m (rIx s r) then bif N.has m (rIx s r) then bif decide (lenS out + lenS (N.sg r) ≤ 9223372036854775807) then some (.normal, [.i m, .s (catS out (N.sg r)), .i s, .i (wr .i64 (r - 1))], []) else none
      else some (.normal, [.i m, .s out, .i s, .i (wr .i64 (r - 1))], []) else none else some (.exit 2, [.i m, .s out, .i s], []) := by kernel_rfl
theorem rIx_eq {s n : Nat} (hs : s ≤ 3) (hn : n ≤ 12) : rIx (s : Int) (n : Int) = ((13 * s + n : Nat) : Int) := by
  unfold rIx
  rw [wrI64 (x := 13 * (s : Int)) (by omega) (by omega), wrI64 (by omega) (by omega)]; omega
theorem has0 {m : Nat} (hm : m < 18446744073709551616) {c : Nat} (hc : c ≤ 1000) : R0.hasC (m : Int) (c : Int) = true ∧ R0.has (m : Int) (c : Int) = m.testBit c := by
  have e1 : R0.hasC = fun m c => decide ((0 ≤ m ∧ m < 18446744073709551616) ∧ 0 ≤ c ∧ c ≤ 1000) := rfl
  have e2 : R0.has = hasB := rfl
  rw [e1, e2]
  constructor
  · dsimp only
    rw [decide_eq_true_eq]; omega
  · unfold hasB
    rw [Int.toNat_natCast, Int.toNat_natCast]
theorem sg_eq : ∀ {n : Nat}, n ≤ 12 → sgB (n : Int) = bA [rU.getD n 0]
  | 0, _ => rfl
  | 1, _ => rfl
  | 2, _ => rfl
  | 3, _ => rfl
  | 4, _ => rfl
  | 5, _ => rfl
  | 6, _ => rfl
  | 7, _ => rfl
  | 8, _ => rfl
  | 9, _ => rfl
  | 10, _ => rfl
  | 11, _ => rfl
  | 12, _ => rfl
  | n + 13, h => by omega
theorem rw_loop (rd : Option Nat) (m s : Nat) (hm : m < 4503599627370496) (hs : s ≤ 3) : ∀ x : Nat × List UInt8, (x.1 ≤ 13 ∧ x.2.length ≤ 1000 - x.1) →
    SimC Try.prog 0 rd (.loop rwLp) (rwT.at [.i (m : Int), .s (bA x.2), .i (s : Int), .i ((x.1 : Int) - 1)]) (.exit 2) (rwX.at [.i (m : Int), .s (bA (x.2 ++ suf m s x.1)), .i (s : Int)]) := by
  refine loop_of_rounds (C := orcNR R0) (L := noLoops) (N := 100) (me := 69) (T := rwT) (T' := rwX) orcNR_ok mixed noLoops_ok (by kernel_rfl) (by kernel_rfl) (X := Nat × List UInt8)
    (fun x => [.i (m : Int), .s (bA x.2), .i (s : Int), .i ((x.1 : Int) - 1)]) (fun x => x.1 ≤ 13 ∧ x.2.length ≤ 1000 - x.1) (fun x => x.1) (fun x => (.exit 2, [.i (m : Int), .s (bA (x.2 ++ suf m s x.1)), .i (s : Int)])) ?_
  rintro ⟨n, out⟩ ⟨hn, ho⟩
  dsimp only at hn ho ⊢
  have h := rw_round R0 rd (m : Int) (s : Int) ((n : Int) - 1) (bA out)
  cases n with
  | zero => exact ⟨_, _, _, h, codesE, .inr ⟨by simp, by simp [suf]⟩⟩
  | succ n =>
    obtain ⟨h1, h2⟩ := has0 (m := m) (by omega) (c := 13 * s + n) (by omega)
    rw [show (((n + 1 : Nat) : Int) - 1) = (n : Int) by omega] at h ⊢
    rw [rIx_eq hs (by omega), h1, h2, decide_eq_true (show 0 ≤ (n : Int) by omega), wrI64 (by omega) (by omega), show R0.sg = sgB from rfl, sg_eq (by omega)] at h
    cases hb : m.testBit (13 * s + n) with
    | true =>
      rw [hb, decide_eq_true (show lenS (bA out) + lenS (bA [rU.getD n 0]) ≤ 9223372036854775807 by show out.length + 1 ≤ _; omega)] at h
      refine ⟨_, _, _, h, codesE, .inl ⟨rfl, (n, out ++ [rU.getD n 0]), rfl, ⟨by dsimp only; omega, by dsimp only; rw [List.length_append, List.length_singleton]; omega⟩, by dsimp only; omega, ?_⟩⟩
      simp only [suf]
      rw [hb, if_pos rfl, List.append_assoc]; rfl
    | false =>
      rw [hb] at h
      refine ⟨_, _, _, h, codesE, .inl ⟨rfl, (n, out), rfl, ⟨by dsimp only; omega, by dsimp only; omega⟩, by dsimp only; omega, ?_⟩⟩
      simp only [suf]
      rw [hb, if_neg (by simp)]
def rlC (m s r : Int) (n : Nat) : Bool := decide (0 ≤ m ∧ m < 4503599627370496 ∧ 0 ≤ s ∧ s ≤ 3 ∧ r = 12 ∧ n ≤ 60)
def bytesL (s : ByteArray) : List UInt8 := s.data.toList
noncomputable def rwTree : List PV → Fin
  | [.i m, .s out, .i s, .i r] => .br (rlC m s r (lenS out)) (.leaf (.exit 2) (rwX.at [.i m, .s (bA (bytesL out ++ suf m.toNat s.toNat 13)), .i s])) .no
  | _ => .no
noncomputable def rwL : Loops := sums (fun n => match n with | 8 => some (lsumF 0 rwT rwLp rwTree) | _ => none)
theorem rwL_ok : loopsOk Try.prog rwL := by
  intro n g hg
  simp only [rwL, sums] at hg
  split at hg
  · cases hg
    refine lsumF_ok (by kernel_rfl) (fun rd ps e1 st1 hq => ?_)
    unfold rwTree at hq
    split at hq
    · rename_i m out s r
      simp only [Fin.pick] at hq
      cases hc : rlC m s r (lenS out) with
      | false => rw [hc] at hq; cases hq
      | true =>
        rw [hc, cond_true] at hq
        cases hq
        unfold rlC at hc
        rw [decide_eq_true_eq] at hc
        obtain ⟨h1, h2, h3, h4, rfl, h5⟩ := hc
        have := rw_loop rd m.toNat s.toNat (by omega) (by omega) (13, bytesL out) ⟨Nat.le_refl _, by dsimp only; have : (bytesL out).length ≤ 60 := h5; omega⟩
        dsimp only at this
        rw [show ((m.toNat : Nat) : Int) = m by omega, show ((s.toNat : Nat) : Int) = s by omega] at this
        exact this
    · cases hq
  · cases hg
end Go.Proofs.Ytpalajfcffdhoaa.N4
