/- Texts merged: CWrite3, CRList, CRList2, CRList3, E11, E12. -/
import Derived.Test.YtpalajfcffdhoaaGreatDoorCW0
import Derived.Test.YtpalajfcffdhoaaGreatDoorCBase
import Derived.Test.YtpalajfcffdhoaaGreatDoorEng4
/- Chapter 4: Write's contract. -/
namespace Go.Proofs.YtpalajfcffdhoaaGreatDoor.N4
open Go Go.Eng
noncomputable def wrTree : List PV → Fin
  | [.i r, .ss ps, .i m] => .br (pB (0 ≤ r ∧ r < 4503599627370496 ∧ ps = u4 ([], [], [], []) ∧ m = r)) (.leaf (.exit 0) (wrT.at [.i 0, .ss (u4 (add4 ([], [], [], []) r.toNat)), .i m])) .no
  | _ => .no
noncomputable def wrSum : LoopSum := lsumF 4 wrT wrLp wrTree
theorem wrSum_ok : LoopOk Tryz.prog wrSum := by
  refine lsumF_ok (by kernel_rfl) (fun rd ps e1 s1 h => ?_)
  unfold wrTree at h
  split at h
  · rename_i r ps m
    simp only [Fin.pick] at h
    cases hc : pB (0 ≤ r ∧ r < 4503599627370496 ∧ ps = u4 ([], [], [], []) ∧ m = r) with
    | false => rw [hc] at h; cases h
    | true =>
      rw [hc, cond_true] at h
      rw [pB_iff] at hc
      obtain ⟨h0, h1, rfl, rfl⟩ := hc
      cases h
      obtain ⟨n, rfl⟩ : ∃ n : Nat, m = n := ⟨m.toNat, by omega⟩
      rw [show ((n : Int)).toNat = n by omega]
      exact wr_loop rd n (n, ([], [], [], [])) ⟨by dsimp only; omega, by simp only [small4, add4, List.nil_append]; exact ⟨suf_len _ _ _, suf_len _ _ _, suf_len _ _ _, suf_len _ _ _⟩⟩
  · cases h
noncomputable def wrL : FuncId → Loops := fun f => match f with
  | 110 => sums (fun n => match n with | 1 => some wrSum | _ => none)
  | _ => noLoops
theorem wrL_ok : ∀ f, loopsOk Tryz.prog (wrL f) := fun f => by
  unfold wrL
  split
  · intro n g hg
    simp only [sums] at hg
    split at hg
    · cases hg; exact wrSum_ok
    · cases hg
  · exact noLoops_ok
def wtxt (m : Nat) : List UInt8 := suf m 3 13 ++ 46 :: (suf m 2 13 ++ 46 :: (suf m 1 13 ++ 46 :: suf m 0 13))
theorem wr_join (m : Nat) : joinS (u4 (add4 ([], [], [], []) m)) ⟨⟨[46]⟩⟩ = bA (wtxt m) := by
  unfold joinS Lib.join u4 add4 bA wtxt
  simp [List.intercalate]
theorem wr_eval (m : Int) : evalFn Tryz.prog (orcS tabO wrL) noLoops 100 46 Tryz.f46 [.int .u64 m] [] (fun v _ => some v) =
    bif decide (4503599627370495 < m) then some (.tuple [.str ⟨#[]⟩, .int .i64 41]) else
      cond (codesB [(wrLp, wrLp), (wrA, wrA), (wrB, wrB)]) (bif pB (0 ≤ m ∧ m < 4503599627370496 ∧ [⟨#[]⟩, ⟨#[]⟩, ⟨#[]⟩, ⟨#[]⟩] = u4 ([], [], [], []) ∧ m = m) then
        bif decide (4 ≤ 140737488355328) && decide (joinLen (u4 (add4 ([], [], [], []) m.toNat)) ⟨⟨[46]⟩⟩ ≤ 140737488355328) then
          some (.tuple [.str (joinS (u4 (add4 ([], [], [], []) m.toNat)) ⟨⟨[46]⟩⟩), .int .i64 0]) else none else none) none := by kernel_rfl
def wrE (m : Int) : Int := bif decide (4503599627370495 < m) then 41 else 0
def wrV (m : Int) : ByteArray := bif decide (4503599627370495 < m) then ⟨#[]⟩ else bA (wtxt m.toNat)
theorem wtxt_len (m : Nat) : (wtxt m).length ≤ 55 := by
  have h3 := suf_len m 3 13; have h2 := suf_len m 2 13; have h1 := suf_len m 1 13; have h0 := suf_len m 0 13
  simp only [wtxt, List.length_append, List.length_cons]
  omega
theorem codesC3 {a b c : Code} : codesB [(a, a), (b, b), (c, c)] = true := by rw [codesB_iff]; intro x hx; simp at hx; rcases hx with rfl | rfl | rfl <;> rfl
theorem write_p {m : Int} (h0 : 0 ≤ m) : FnPure Tryz.prog 46 [.int .u64 m] (.tuple [.str (wrV m), .int .i64 (wrE m)]) := by
  refine fnPure_of_eval (N := 100) (orcS_ok tabO_ok wrL_ok) mixed Tryz.func46 (by kernel_rfl) noLoops_ok ?_ rfl rfl
  rw [wr_eval]
  unfold wrV wrE
  by_cases h : 4503599627370495 < m
  · rw [decide_eq_true h]; rfl
  · have hj : joinLen (u4 (add4 ([], [], [], []) m.toNat)) ⟨⟨[46]⟩⟩ ≤ 140737488355328 := by
      have : joinLen (u4 (add4 ([], [], [], []) m.toNat)) ⟨⟨[46]⟩⟩ = (joinS (u4 (add4 ([], [], [], []) m.toNat)) ⟨⟨[46]⟩⟩).data.toList.length := by unfold joinLen joinS; simp
      rw [this, wr_join]
      have := wtxt_len m.toNat
      show (wtxt m.toNat).length ≤ _
      omega
    rw [decide_eq_false h, codesC3, pB_iff.2 ⟨h0, by omega, rfl, rfl⟩, decide_eq_true hj, wr_join]
    rfl
end Go.Proofs.YtpalajfcffdhoaaGreatDoor.N4

/- Chapter 4, the reference: List and Write: their inner loops. -/
namespace Go.Proofs.YtpalajfcffdhoaaGreatDoor.N4
open Go Go.Eng
structure NR where
  has : Int → Int → Bool
  hasC : Int → Int → Bool
  sg : Int → ByteArray
  bit : Int → Int
  bitC : Int → Bool
def gHasN (N : NR) : List V → Option (Bool × V)
  | [.int .u64 m, .int .i64 c] => some (N.hasC m c, .bool (N.has m c))
  | _ => none
def gSignN (N : NR) : List V → Option (Bool × V)
  | [.int .i64 r] => some (true, .str (N.sg r))
  | _ => none
def gBitN (N : NR) : List V → Option (Bool × V)
  | [.int .u8 c] => some (N.bitC c, .int .u64 (N.bit c))
  | _ => none
def tabNR (N : NR) : PTab := addTab 49 (gHasN N) (addTab 70 (gSignN N) (addTab 93 (gBitN N) emptyTab))
noncomputable abbrev orcNR (N : NR) : Oracle := inl Tryz.prog ftab (tabNR N) plainL 100 never never orc0 20
def R0 : NR := ⟨hasB, fun m c => decide ((0 ≤ m ∧ m < 18446744073709551616) ∧ 0 ≤ c ∧ c ≤ 1000), sgB, fun c => ((2 ^ c.toNat : Nat) : Int), fun c => decide (0 ≤ c ∧ c ≤ 63)⟩
theorem tabNR_ok : PTabOk Tryz.prog (tabNR R0) := by
  refine addTab_ok ?_ (addTab_ok ?_ (addTab_ok ?_ emptyTab_ok))
  · intro args c v h hc
    unfold gHasN at h
    split at h
    · cases h
      have hc := of_decide_eq_true hc
      exact has_p hc.1 hc.2.1 hc.2.2
    · cases h
  · intro args c v h _
    unfold gSignN at h
    split at h
    · cases h; exact sign_p _
    · cases h
  · intro args c v h hc
    unfold gBitN at h
    split at h
    · cases h
      have hc := of_decide_eq_true hc
      exact bit_p hc.1 hc.2
    · cases h
theorem orcNR_ok : OracleOk Tryz.prog (orcNR R0) := inl_ok orc0_ok ftab_ok tabNR_ok plainL_ok mixed 20
noncomputable def rwLp : Code := loopOf 8 Tryz.f37
def rwT : Tm := ⟨mkS [(0, .int .u64), (4, .str), (5, .int .i64), (6, .int .i64)] 0 33, [], []⟩
def rwX : Tm := ⟨mkS [(0, .int .u64), (4, .str), (5, .int .i64)] 0 33, [], []⟩
end Go.Proofs.YtpalajfcffdhoaaGreatDoor.N4

/- Chapter 4, the reference: List and Write: what their inner loops come to. -/
namespace Go.Proofs.YtpalajfcffdhoaaGreatDoor.N4
open Go Go.Eng
def rIx (s r : Int) : Int := wr .i64 (wr .i64 (13 * s) + r)
theorem rw_round (N : NR) (rd : Option Nat) (m s r : Int) (out : ByteArray) : roundT Tryz.prog (orcNR N) noLoops 100 0 rd 37 rwLp rwT rwX [.i m, .s out, .i s, .i r] =
    bif decide (0 ≤ r) then bif N.hasC m (rIx s r) then bif N.has m (rIx s r) then bif decide (lenS out + lenS (N.sg r) ≤ 9223372036854775807) then some (.normal, [.i m, .s (catS out (N.sg r)), .i s, .i (wr .i64 (r - 1))], []) else none
      else some (.normal, [.i m, .s out, .i s, .i (wr .i64 (r - 1))], []) else none else some (.exit 2, [.i m, .s out, .i s], []) := by kernel_rfl
theorem rIx_eq {s n : Nat} (hs : s ≤ 3) (hn : n ≤ 12) : rIx (s : Int) (n : Int) = ((13 * s + n : Nat) : Int) := by
  unfold rIx
  rw [wrI64 (x := 13 * (s : Int)) (by omega) (by omega), wrI64 (by omega) (by omega)]; omega
theorem has0 {m : Nat} (hm : m < 18446744073709551616) {c : Nat} (hc : c ≤ 1000) : R0.hasC (m : Int) (c : Int) = true ∧ R0.has (m : Int) (c : Int) = m.testBit c := by
  have e1 : R0.hasC = fun m c => decide ((0 ≤ m ∧ m < 18446744073709551616) ∧ 0 ≤ c ∧ c ≤ 1000) := rfl
  have e2 : R0.has = hasB := rfl
  rw [e1, e2]
  constructor
  · dsimp only
    rw [decide_eq_true_eq]; omega
  · unfold hasB
    rw [Int.toNat_natCast, Int.toNat_natCast]
theorem sg_eq : ∀ {n : Nat}, n ≤ 12 → sgB (n : Int) = bA [rU.getD n 0]
  | 0, _ => rfl
  | 1, _ => rfl
  | 2, _ => rfl
  | 3, _ => rfl
  | 4, _ => rfl
  | 5, _ => rfl
  | 6, _ => rfl
  | 7, _ => rfl
  | 8, _ => rfl
  | 9, _ => rfl
  | 10, _ => rfl
  | 11, _ => rfl
  | 12, _ => rfl
  | n + 13, h => by omega
theorem rw_loop (rd : Option Nat) (m s : Nat) (hm : m < 4503599627370496) (hs : s ≤ 3) : ∀ x : Nat × List UInt8, (x.1 ≤ 13 ∧ x.2.length ≤ 1000 - x.1) →
    SimC Tryz.prog 0 rd (.loop rwLp) (rwT.at [.i (m : Int), .s (bA x.2), .i (s : Int), .i ((x.1 : Int) - 1)]) (.exit 2) (rwX.at [.i (m : Int), .s (bA (x.2 ++ suf m s x.1)), .i (s : Int)]) := by
  refine loop_of_rounds (C := orcNR R0) (L := noLoops) (N := 100) (me := 37) (T := rwT) (T' := rwX) orcNR_ok mixed noLoops_ok (by kernel_rfl) (by kernel_rfl) (X := Nat × List UInt8)
    (fun x => [.i (m : Int), .s (bA x.2), .i (s : Int), .i ((x.1 : Int) - 1)]) (fun x => x.1 ≤ 13 ∧ x.2.length ≤ 1000 - x.1) (fun x => x.1) (fun x => (.exit 2, [.i (m : Int), .s (bA (x.2 ++ suf m s x.1)), .i (s : Int)])) ?_
  rintro ⟨n, out⟩ ⟨hn, ho⟩
  dsimp only at hn ho ⊢
  have h := rw_round R0 rd (m : Int) (s : Int) ((n : Int) - 1) (bA out)
  cases n with
  | zero => exact ⟨_, _, _, h, codesE, .inr ⟨by simp, by simp [suf]⟩⟩
  | succ n =>
    obtain ⟨h1, h2⟩ := has0 (m := m) (by omega) (c := 13 * s + n) (by omega)
    rw [show (((n + 1 : Nat) : Int) - 1) = (n : Int) by omega] at h ⊢
    rw [rIx_eq hs (by omega), h1, h2, decide_eq_true (show 0 ≤ (n : Int) by omega), wrI64 (by omega) (by omega), show R0.sg = sgB from rfl, sg_eq (by omega)] at h
    cases hb : m.testBit (13 * s + n) with
    | true =>
      rw [hb, decide_eq_true (show lenS (bA out) + lenS (bA [rU.getD n 0]) ≤ 9223372036854775807 by show out.length + 1 ≤ _; omega)] at h
      refine ⟨_, _, _, h, codesE, .inl ⟨rfl, (n, out ++ [rU.getD n 0]), rfl, ⟨by dsimp only; omega, by dsimp only; rw [List.length_append, List.length_singleton]; omega⟩, by dsimp only; omega, ?_⟩⟩
      simp only [suf]
      rw [hb, if_pos rfl, List.append_assoc]; rfl
    | false =>
      rw [hb] at h
      refine ⟨_, _, _, h, codesE, .inl ⟨rfl, (n, out), rfl, ⟨by dsimp only; omega, by dsimp only; omega⟩, by dsimp only; omega, ?_⟩⟩
      simp only [suf]
      rw [hb, if_neg (by simp)]
def rlC (m s r : Int) (n : Nat) : Bool := decide (0 ≤ m ∧ m < 4503599627370496 ∧ 0 ≤ s ∧ s ≤ 3 ∧ r = 12 ∧ n ≤ 60)
def bytesL (s : ByteArray) : List UInt8 := s.data.toList
noncomputable def rwTree : List PV → Fin
  | [.i m, .s out, .i s, .i r] => .br (rlC m s r (lenS out)) (.leaf (.exit 2) (rwX.at [.i m, .s (bA (bytesL out ++ suf m.toNat s.toNat 13)), .i s])) .no
  | _ => .no
noncomputable def rwL : Loops := sums (fun n => match n with | 8 => some (lsumF 0 rwT rwLp rwTree) | _ => none)
theorem rwL_ok : loopsOk Tryz.prog rwL := by
  intro n g hg
  simp only [rwL, sums] at hg
  split at hg
  · cases hg
    refine lsumF_ok (by kernel_rfl) (fun rd ps e1 st1 hq => ?_)
    unfold rwTree at hq
    split at hq
    · rename_i m out s r
      simp only [Fin.pick] at hq
      cases hc : rlC m s r (lenS out) with
      | false => rw [hc] at hq; cases hq
      | true =>
        rw [hc, cond_true] at hq
        cases hq
        unfold rlC at hc
        rw [decide_eq_true_eq] at hc
        obtain ⟨h1, h2, h3, h4, rfl, h5⟩ := hc
        have := rw_loop rd m.toNat s.toNat (by omega) (by omega) (13, bytesL out) ⟨Nat.le_refl _, by dsimp only; have : (bytesL out).length ≤ 60 := h5; omega⟩
        dsimp only at this
        rw [show ((m.toNat : Nat) : Int) = m by omega, show ((s.toNat : Nat) : Int) = s by omega] at this
        exact this
    · cases hq
  · cases hg
end Go.Proofs.YtpalajfcffdhoaaGreatDoor.N4

/- Chapter 4, the reference: List and Write: their contracts. -/
namespace Go.Proofs.YtpalajfcffdhoaaGreatDoor.N4
open Go Go.Eng
theorem rlC_ok {m : Int} (h0 : 0 ≤ m) (h1 : m < 4503599627370496) {s : Int} (h2 : 0 ≤ s ∧ s ≤ 3) {n : Nat} (hn : n ≤ 60) : rlC m s 12 n = true := by
  unfold rlC
  rw [decide_eq_true_eq]; omega
def wA (m : Nat) : ByteArray := bA (bytesL ⟨#[]⟩ ++ suf m 3 13)
def wN (m s : Nat) (t : ByteArray) : ByteArray := bA (bytesL (catS t ⟨#[46]⟩) ++ suf m s 13)
theorem rwrite_eval (N : NR) (m : Int) : evalFn Tryz.prog (orcNR N) rwL 100 37 Tryz.f37 [.int .u64 m] [] (fun v _ => some v) =
    bif !decide (m < 4503599627370496) then some (.tuple [.str ⟨#[]⟩, .int .i64 41]) else cond (codesB [(rwLp, rwLp)]) (bif rlC m 3 12 (lenS ⟨#[]⟩) then bif decide (lenS (wA m.toNat) + 1 ≤ 9223372036854775807) then
      cond (codesB [(rwLp, rwLp)]) (bif rlC m 2 12 (lenS (catS (wA m.toNat) ⟨#[46]⟩)) then bif decide (lenS (wN m.toNat 2 (wA m.toNat)) + 1 ≤ 9223372036854775807) then
      cond (codesB [(rwLp, rwLp)]) (bif rlC m 1 12 (lenS (catS (wN m.toNat 2 (wA m.toNat)) ⟨#[46]⟩)) then bif decide (lenS (wN m.toNat 1 (wN m.toNat 2 (wA m.toNat))) + 1 ≤ 9223372036854775807) then
      cond (codesB [(rwLp, rwLp)]) (bif rlC m 0 12 (lenS (catS (wN m.toNat 1 (wN m.toNat 2 (wA m.toNat))) ⟨#[46]⟩)) then some (.tuple [.str (wN m.toNat 0 (wN m.toNat 1 (wN m.toNat 2 (wA m.toNat)))), .int .i64 0]) else none) none else none else none) none else none else none) none else none else none) none := by kernel_rfl
theorem rwrite_p {m : Int} (h0 : 0 ≤ m) : FnPure Tryz.prog 37 [.int .u64 m] (.tuple [.str (wrV m), .int .i64 (wrE m)]) := by
  refine fnPure_of_eval (N := 100) orcNR_ok mixed Tryz.func37 (by kernel_rfl) rwL_ok ?_ rfl rfl
  have cd : codesB [(rwLp, rwLp)] = true := by rw [codesB_iff]; intro x hx; simp at hx; rw [hx]
  rw [rwrite_eval, cd]
  unfold wrV wrE
  by_cases hm : m < 4503599627370496
  · have l3 := suf_len m.toNat 3 13
    have l2 := suf_len m.toNat 2 13
    have l1 := suf_len m.toNat 1 13
    have eA : wA m.toNat = bA (suf m.toNat 3 13) := rfl
    have eN : ∀ (s : Nat) (t : List UInt8), wN m.toNat s (bA t) = bA (t ++ 46 :: suf m.toNat s 13) := fun s t => by
      unfold wN
      congr 1
      show (t ++ [46]) ++ suf m.toNat s 13 = _
      simp
    have eC : ∀ t : List UInt8, lenS (catS (bA t) ⟨#[46]⟩) = t.length + 1 := fun t => by
      show (t ++ [46]).length = _
      simp
    have eL : ∀ t : List UInt8, lenS (bA t) = t.length := fun t => rfl
    rw [decide_eq_true hm, decide_eq_false (show ¬ 4503599627370495 < m by omega), eA, eN, eN, eN, eC, eC, eC, eL, eL, eL, rlC_ok h0 hm (by omega) (show lenS ⟨#[]⟩ ≤ 60 from by decide), rlC_ok h0 hm (by omega) (by omega),
      rlC_ok h0 hm (by omega) (by simp; omega), rlC_ok h0 hm (by omega) (by simp; omega), decide_eq_true (by omega), decide_eq_true (by simp; omega), decide_eq_true (by simp; omega)]
    simp only [Bool.not_true, cond_false, cond_true]
    unfold wtxt
    simp
  · rw [decide_eq_false hm, decide_eq_true (show 4503599627370495 < m by omega)]; rfl
end Go.Proofs.YtpalajfcffdhoaaGreatDoor.N4

/- Chapter 6: Text, and the reference's Write: formulas over names, contracts. -/
namespace Go.Proofs.YtpalajfcffdhoaaGreatDoor
open Go Go.Eng Go.Deal
structure EX where
  u4 : Int → Int → Int → Int → Bool
  pb : Int → Int → Int → Int → Bool
  wk : Int → Bool
  wv : Int → ByteArray
  we : Int → Int
section
variable (E : EX)
def xPa : List V → Option (Bool × V)
  | [.agg [.int .u64 a, .int .u64 b, .int .u64 c, .int .u64 d]] => some (E.u4 a b c d, .bool (E.pb a b c d))
  | _ => none
def xWr : List V → Option (Bool × V)
  | [.int .u64 m] => some (E.wk m, .tuple [.str (E.wv m), .int .i64 (E.we m)])
  | _ => none
def tabX6 : PTab := addTab 20 (xPa E) (addTab 21 (xPa E) (addTab 46 (xWr E) (addTab 37 (xWr E) emptyTab)))
noncomputable abbrev orcX6 : Oracle := N4.orcS (tabX6 E) plainL
def ctS (x y : ByteArray) (K : ByteArray → Option V) : Option V := bif decide (lenS x + lenS y ≤ 9223372036854775807) then K (catS x y) else none
def nS : ByteArray := ⟨#[78, 58]⟩
def spS : ByteArray := ⟨#[32]⟩
def wdS (t : ByteArray) (x : Int) (K : ByteArray → Option V) : Option V := bif E.wk x then ctS t spS fun t => ctS t (E.wv x) K else none
theorem rwr_eval (a b c d : Int) : evalFn Tryz.prog (orcX6 E) noLoops 100 9 Tryz.f9 [q4 a b c d] [] (fun v _ => some v) =
    bif E.u4 a b c d then bif !E.pb a b c d then some (.tuple [.str ⟨#[]⟩, .int .i64 60]) else
      bif E.wk a then ctS nS (E.wv a) fun t => wdS E t b fun t => wdS E t c fun t => wdS E t d fun t => some (.tuple [.str t, .int .i64 0]) else none else none := by kernel_rfl
theorem text_eval (a b c d : Int) : evalFn Tryz.prog (orcX6 E) noLoops 100 15 Tryz.f15 [q4 a b c d] [] (fun v _ => some v) =
    bif E.u4 a b c d then bif !E.pb a b c d then some (.tuple [.str ⟨#[]⟩, .int .i64 60]) else
      bif E.wk a then bif E.wk b then bif E.wk c then bif E.wk d then bif decide (4 ≤ 140737488355328) && decide (joinLen [E.wv a, E.wv b, E.wv c, E.wv d] spS ≤ 140737488355328) then
        ctS nS (joinS [E.wv a, E.wv b, E.wv c, E.wv d] spS) fun t => some (.tuple [.str t, .int .i64 0]) else none else none else none else none else none else none := by kernel_rfl
end
end Go.Proofs.YtpalajfcffdhoaaGreatDoor

/- Chapter 6: Text, and the reference's Write: their contracts. -/
namespace Go.Proofs.YtpalajfcffdhoaaGreatDoor
open Go Go.Eng Go.Deal
noncomputable def eX : EX := ⟨in4, parB, fun m => decide (0 ≤ m), N4.wrV, N4.wrE⟩
theorem tabX6_ok : PTabOk Tryz.prog (tabX6 eX) := by
  refine addTab_ok ?_ (addTab_ok ?_ (addTab_ok ?_ (addTab_ok ?_ emptyTab_ok)))
  · intro args c v h hc
    unfold xPa at h; split at h
    · cases h; exact par_p hc
    · cases h
  · intro args c v h hc
    unfold xPa at h; split at h
    · cases h; exact rpar_p hc
    · cases h
  · intro args c v h hc
    unfold xWr at h; split at h
    · cases h; exact N4.write_p (of_decide_eq_true hc)
    · cases h
  · intro args c v h hc
    unfold xWr at h; split at h
    · cases h; exact N4.rwrite_p (of_decide_eq_true hc)
    · cases h
theorem orcX6_ok : OracleOk Tryz.prog (orcX6 eX) := N4.orcS_ok tabX6_ok (fun _ => noLoops_ok)
def txL (a b c d : Nat) : List UInt8 := 78 :: 58 :: (N4.wtxt a ++ 32 :: (N4.wtxt b ++ 32 :: (N4.wtxt c ++ 32 :: N4.wtxt d)))
noncomputable def txI (a b c d : Int) : ByteArray := bif parB a b c d then N4.bA (txL a.toNat b.toNat c.toNat d.toNat) else ⟨#[]⟩
theorem eXu (a b c d : Int) : eX.u4 a b c d = in4 a b c d := rfl
theorem eXp (a b c d : Int) : eX.pb a b c d = parB a b c d := rfl
theorem eXk (a : Int) : eX.wk a = decide (0 ≤ a) := rfl
theorem eXv (a : Int) : eX.wv a = N4.wrV a := rfl
theorem wrV_n {a : Nat} (h : a < 2 ^ 52) : N4.wrV (a : Int) = N4.bA (N4.wtxt a) := by
  unfold N4.wrV
  rw [decide_eq_false (show ¬ 4503599627370495 < (a : Int) by omega), cond_false, Int.toNat_natCast]
theorem catS_bA (x y : List UInt8) : catS (N4.bA x) (N4.bA y) = N4.bA (x ++ y) := rfl
theorem lenS_bA (x : List UInt8) : lenS (N4.bA x) = x.length := rfl
theorem nS_is : nS = N4.bA [78, 58] := rfl
theorem spS_is : spS = N4.bA [32] := rfl
theorem ctS_is {x y : List UInt8} (h : x.length + y.length ≤ 1000) (K : ByteArray → Option V) : ctS (N4.bA x) (N4.bA y) K = K (N4.bA (x ++ y)) := by
  unfold ctS
  rw [lenS_bA, lenS_bA, decide_eq_true (show x.length + y.length ≤ 9223372036854775807 by omega), cond_true, catS_bA]
theorem wdS_is {x : List UInt8} {m : Nat} (hm : m < 2 ^ 52) (h : x.length ≤ 500) (K : ByteArray → Option V) : wdS eX (N4.bA x) (m : Int) K = K (N4.bA (x ++ 32 :: N4.wtxt m)) := by
  unfold wdS
  have hl := N4.wtxt_len m
  rw [eXk, decide_eq_true (Int.natCast_nonneg m), cond_true, spS_is, ctS_is (by simp; omega), eXv, wrV_n hm, ctS_is (by simp; omega), List.append_assoc]
  rfl
theorem join4 (x y z w : List UInt8) : joinS [N4.bA x, N4.bA y, N4.bA z, N4.bA w] spS = N4.bA (x ++ 32 :: (y ++ 32 :: (z ++ 32 :: w))) := by
  unfold joinS Lib.join spS N4.bA
  simp [List.intercalate]
theorem joinLen4 (x y z w : List UInt8) : joinLen [N4.bA x, N4.bA y, N4.bA z, N4.bA w] spS = x.length + y.length + z.length + w.length + 3 := by
  unfold joinLen Lib.join spS N4.bA
  simp [List.intercalate]; omega
theorem rwr_p {a b c d : Int} (h : in4 a b c d = true) : FnPure Tryz.prog 9 [q4 a b c d] (.tuple [.str (txI a b c d), .int .i64 (leI a b c d)]) := by
  have h4 := h
  obtain ⟨a, b, c, d, rfl, rfl, rfl, rfl, ha, hb, hc, hd⟩ := in4_nat h
  refine fnPure_of_eval (N := 100) orcX6_ok mixed Tryz.func9 (by kernel_rfl) noLoops_ok ?_ rfl rfl
  refine (rwr_eval eX _ _ _ _).trans ?_
  rw [eXu, h4, cond_true, eXp]
  unfold txI leI
  cases hp : parB (a : Int) b c d with
  | false => rfl
  | true =>
    have P := parB_iff.1 hp
    have l1 := N4.wtxt_len a; have l2 := N4.wtxt_len b; have l3 := N4.wtxt_len c
    rw [Bool.not_true, cond_false, cond_true, cond_true, eXk, decide_eq_true (Int.natCast_nonneg a), cond_true, eXv, wrV_n P.la, nS_is, ctS_is (by simp; omega), wdS_is P.lb (by simp; omega), wdS_is P.lc (by simp; omega), wdS_is P.ld (by simp; omega)]
    unfold txL
    simp
theorem text_p {a b c d : Int} (h : in4 a b c d = true) : FnPure Tryz.prog 15 [q4 a b c d] (.tuple [.str (txI a b c d), .int .i64 (leI a b c d)]) := by
  have h4 := h
  obtain ⟨a, b, c, d, rfl, rfl, rfl, rfl, ha, hb, hc, hd⟩ := in4_nat h
  refine fnPure_of_eval (N := 100) orcX6_ok mixed Tryz.func15 (by kernel_rfl) noLoops_ok ?_ rfl rfl
  refine (text_eval eX _ _ _ _).trans ?_
  rw [eXu, h4, cond_true, eXp]
  unfold txI leI
  cases hp : parB (a : Int) b c d with
  | false => rfl
  | true =>
    have P := parB_iff.1 hp
    have l1 := N4.wtxt_len a; have l2 := N4.wtxt_len b; have l3 := N4.wtxt_len c; have l4 := N4.wtxt_len d
    rw [Bool.not_true, cond_false, cond_true, cond_true, eXk, eXk, eXk, eXk, decide_eq_true (Int.natCast_nonneg a), decide_eq_true (Int.natCast_nonneg b), decide_eq_true (Int.natCast_nonneg c), decide_eq_true (Int.natCast_nonneg d), cond_true, cond_true, cond_true, cond_true, eXv, eXv, eXv, eXv, wrV_n P.la, wrV_n P.lb, wrV_n P.lc, wrV_n P.ld, join4, joinLen4,
      decide_eq_true (show 4 ≤ 140737488355328 by decide), decide_eq_true (show (N4.wtxt a).length + (N4.wtxt b).length + (N4.wtxt c).length + (N4.wtxt d).length + 3 ≤ 140737488355328 by omega), Bool.true_and, cond_true, nS_is, ctS_is (by simp; omega)]
    unfold txL
    simp
end Go.Proofs.YtpalajfcffdhoaaGreatDoor
