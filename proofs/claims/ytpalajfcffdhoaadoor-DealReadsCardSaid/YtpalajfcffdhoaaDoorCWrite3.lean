/- Texts merged: CWrite3, CRList, CSplit. -/
import Derived.Test.YtpalajfcffdhoaaDoorCWrite2
import Derived.Test.YtpalajfcffdhoaaDoorCBase
/- Chapter 4: Write's contract. -/
namespace Go.Proofs.YtpalajfcffdhoaaDoor.N4
open Go Go.Eng
noncomputable def wrTree : List PV → Fin
  | [.i r, .ss ps, .i m] => .br (pB (0 ≤ r ∧ r < 4503599627370496 ∧ ps = u4 ([], [], [], []) ∧ m = r)) (.leaf (.exit 0) (wrT.at [.i 0, .ss (u4 (add4 ([], [], [], []) r.toNat)), .i m])) .no
  | _ => .no
noncomputable def wrSum : LoopSum := lsumF 4 wrT wrLp wrTree
theorem wrSum_ok : LoopOk Tryd.prog wrSum := by
  refine lsumF_ok (by kernel_rfl) (fun rd ps e1 s1 h => ?_)
  unfold wrTree at h
  split at h
  · rename_i r ps m
    simp only [Fin.pick] at h
    cases hc : pB (0 ≤ r ∧ r < 4503599627370496 ∧ ps = u4 ([], [], [], []) ∧ m = r) with
    | false => rw [hc] at h; cases h
    | true =>
      rw [hc, cond_true] at h
      rw [pB_iff] at hc
      obtain ⟨h0, h1, rfl, rfl⟩ := hc
      cases h
      obtain ⟨n, rfl⟩ : ∃ n : Nat, m = n := ⟨m.toNat, by omega⟩
      rw [show ((n : Int)).toNat = n by omega]
      exact wr_loop rd n (n, ([], [], [], [])) ⟨by dsimp only; omega, by simp only [small4, add4, List.nil_append]; exact ⟨suf_len _ _ _, suf_len _ _ _, suf_len _ _ _, suf_len _ _ _⟩⟩
  · cases h
noncomputable def wrL : FuncId → Loops := fun f => match f with
  | 51 => sums (fun n => match n with | 1 => some wrSum | _ => none)
  | _ => noLoops
theorem wrL_ok : ∀ f, loopsOk Tryd.prog (wrL f) := fun f => by
  unfold wrL
  split
  · intro n g hg
    simp only [sums] at hg
    split at hg
    · cases hg; exact wrSum_ok
    · cases hg
  · exact noLoops_ok
/-- The text of a set. -/
def wtxt (m : Nat) : List UInt8 := suf m 3 13 ++ 46 :: (suf m 2 13 ++ 46 :: (suf m 1 13 ++ 46 :: suf m 0 13))
theorem wr_join (m : Nat) : joinS (u4 (add4 ([], [], [], []) m)) ⟨⟨[46]⟩⟩ = bA (wtxt m) := by
  unfold joinS Lib.join u4 add4 bA wtxt
  simp [List.intercalate]
theorem wr_eval (m : Int) : evalFn Tryd.prog (orcS tabO wrL) noLoops 100 12 Tryd.f12 [.int .u64 m] [] (fun v _ => some v) =
    bif decide (4503599627370495 < m) then some (.tuple [.str ⟨#[]⟩, .int .i64 41]) else
      cond (codesB [(wrLp, wrLp), (wrA, wrA), (wrB, wrB)]) (bif pB (0 ≤ m ∧ m < 4503599627370496 ∧ [⟨#[]⟩, ⟨#[]⟩, ⟨#[]⟩, ⟨#[]⟩] = u4 ([], [], [], []) ∧ m = m) then
        bif decide (4 ≤ 140737488355328) && decide (joinLen (u4 (add4 ([], [], [], []) m.toNat)) ⟨⟨[46]⟩⟩ ≤ 140737488355328) then
          some (.tuple [.str (joinS (u4 (add4 ([], [], [], []) m.toNat)) ⟨⟨[46]⟩⟩), .int .i64 0]) else none else none) none := by kernel_rfl
def wrE (m : Int) : Int := bif decide (4503599627370495 < m) then 41 else 0
def wrV (m : Int) : ByteArray := bif decide (4503599627370495 < m) then ⟨#[]⟩ else bA (wtxt m.toNat)
theorem wtxt_len (m : Nat) : (wtxt m).length ≤ 55 := by
  have h3 := suf_len m 3 13; have h2 := suf_len m 2 13; have h1 := suf_len m 1 13; have h0 := suf_len m 0 13
  simp only [wtxt, List.length_append, List.length_cons]
  omega
theorem codesC3 {a b c : Code} : codesB [(a, a), (b, b), (c, c)] = true := by rw [codesB_iff]; intro x hx; simp at hx; rcases hx with rfl | rfl | rfl <;> rfl
theorem write_p {m : Int} (h0 : 0 ≤ m) : FnPure Tryd.prog 12 [.int .u64 m] (.tuple [.str (wrV m), .int .i64 (wrE m)]) := by
  refine fnPure_of_eval (N := 100) (orcS_ok tabO_ok wrL_ok) mixed Tryd.func12 (by kernel_rfl) noLoops_ok ?_ rfl rfl
  rw [wr_eval]
  unfold wrV wrE
  by_cases h : 4503599627370495 < m
  · rw [decide_eq_true h]; rfl
  · have hj : joinLen (u4 (add4 ([], [], [], []) m.toNat)) ⟨⟨[46]⟩⟩ ≤ 140737488355328 := by
      have : joinLen (u4 (add4 ([], [], [], []) m.toNat)) ⟨⟨[46]⟩⟩ = (joinS (u4 (add4 ([], [], [], []) m.toNat)) ⟨⟨[46]⟩⟩).data.toList.length := by unfold joinLen joinS; simp
      rw [this, wr_join]
      have := wtxt_len m.toNat
      show (wtxt m.toNat).length ≤ _
      omega
    rw [decide_eq_false h, codesC3, pB_iff.2 ⟨h0, by omega, rfl, rfl⟩, decide_eq_true hj, wr_join]
    rfl
def gWrite : List V → Option (Bool × V)
  | [.int .u64 m] => some (decide (0 ≤ m), .tuple [.str (wrV m), .int .i64 (wrE m)])
  | _ => none
end Go.Proofs.YtpalajfcffdhoaaDoor.N4

/- Chapter 4, the reference: List and Write: their inner loops. -/
namespace Go.Proofs.YtpalajfcffdhoaaDoor.N4
open Go Go.Eng
structure NR where
  has : Int → Int → Bool
  hasC : Int → Int → Bool
  sg : Int → ByteArray
  bit : Int → Int
  bitC : Int → Bool
def gHasN (N : NR) : List V → Option (Bool × V)
  | [.int .u64 m, .int .i64 c] => some (N.hasC m c, .bool (N.has m c))
  | _ => none
def gSignN (N : NR) : List V → Option (Bool × V)
  | [.int .i64 r] => some (true, .str (N.sg r))
  | _ => none
def gBitN (N : NR) : List V → Option (Bool × V)
  | [.int .u8 c] => some (N.bitC c, .int .u64 (N.bit c))
  | _ => none
def tabNR (N : NR) : PTab := addTab 91 (gHasN N) (addTab 74 (gSignN N) (addTab 75 (gBitN N) emptyTab))
noncomputable abbrev orcNR (N : NR) : Oracle := inl Tryd.prog ftab (tabNR N) plainL 100 never never orc0 20
def R0 : NR := ⟨hasB, fun m c => decide ((0 ≤ m ∧ m < 18446744073709551616) ∧ 0 ≤ c ∧ c ≤ 1000), sgB, fun c => ((2 ^ c.toNat : Nat) : Int), fun c => decide (0 ≤ c ∧ c ≤ 63)⟩
theorem tabNR_ok : PTabOk Tryd.prog (tabNR R0) := by
  refine addTab_ok ?_ (addTab_ok ?_ (addTab_ok ?_ emptyTab_ok))
  · intro args c v h hc
    unfold gHasN at h
    split at h
    · cases h
      have hc := of_decide_eq_true hc
      exact has_p hc.1 hc.2.1 hc.2.2
    · cases h
  · intro args c v h _
    unfold gSignN at h
    split at h
    · cases h; exact sign_p _
    · cases h
  · intro args c v h hc
    unfold gBitN at h
    split at h
    · cases h
      have hc := of_decide_eq_true hc
      exact bit_p hc.1 hc.2
    · cases h
theorem orcNR_ok : OracleOk Tryd.prog (orcNR R0) := inl_ok orc0_ok ftab_ok tabNR_ok plainL_ok mixed 20
def rwT : Tm := ⟨mkS [(0, .int .u64), (4, .str), (5, .int .i64), (6, .int .i64)] 0 33, [], []⟩
def rwX : Tm := ⟨mkS [(0, .int .u64), (4, .str), (5, .int .i64)] 0 33, [], []⟩
def rIx (s r : Int) : Int := wr .i64 (wr .i64 (13 * s) + r)
theorem rIx_eq {s n : Nat} (hs : s ≤ 3) (hn : n ≤ 12) : rIx (s : Int) (n : Int) = ((13 * s + n : Nat) : Int) := by
  unfold rIx
  rw [wrI64 (x := 13 * (s : Int)) (by omega) (by omega), wrI64 (by omega) (by omega)]; omega
theorem sg_eq : ∀ {n : Nat}, n ≤ 12 → sgB (n : Int) = bA [rU.getD n 0]
  | 0, _ => rfl
  | 1, _ => rfl
  | 2, _ => rfl
  | 3, _ => rfl
  | 4, _ => rfl
  | 5, _ => rfl
  | 6, _ => rfl
  | 7, _ => rfl
  | 8, _ => rfl
  | 9, _ => rfl
  | 10, _ => rfl
  | 11, _ => rfl
  | 12, _ => rfl
  | n + 13, h => by omega
theorem or_add : ∀ (c m : Nat), m.testBit c = false → m ||| 2 ^ c = m + 2 ^ c
  | 0, m, h => by
    rw [Nat.testBit_zero, decide_eq_false_iff_not] at h
    have h1 : (m ||| 1) / 2 = m / 2 := by rw [Nat.or_div_two]; simp
    have h2 : (m ||| 1).testBit 0 = true := by rw [Nat.testBit_or, show (1 : Nat).testBit 0 = true from rfl, Bool.or_true]
    rw [Nat.testBit_zero, decide_eq_true_eq] at h2
    show m ||| 1 = m + 1
    generalize m ||| 1 = w at h1 h2 ⊢
    omega
  | c + 1, m, h => by
    have ih := or_add c (m / 2) (by rw [← h, Nat.testBit_succ])
    have e : (2 : Nat) ^ (c + 1) = 2 * 2 ^ c := by rw [Nat.pow_succ]; omega
    have h1 : (m ||| 2 ^ (c + 1)) / 2 = m / 2 + 2 ^ c := by rw [Nat.or_div_two, ← ih, e, Nat.mul_div_cancel_left _ (by omega)]
    have h2 : (m ||| 2 ^ (c + 1)).testBit 0 = m.testBit 0 := by rw [Nat.testBit_or, Nat.testBit_two_pow]; simp
    rw [Nat.testBit_zero, Nat.testBit_zero, Bool.eq_iff_iff, decide_eq_true_eq, decide_eq_true_eq] at h2
    generalize hq : (2 : Nat) ^ (c + 1) = q at *
    generalize hw : m ||| q = w at *
    generalize 2 ^ c = p at *
    omega
end Go.Proofs.YtpalajfcffdhoaaDoor.N4

/- Chapter 4: a string cut at its points: one round. -/
namespace Go.Proofs.YtpalajfcffdhoaaDoor.N4
open Go Go.Eng
theorem codes0 : codesOk [] := fun x h => by cases h
def idxI (s : ByteArray) (c : Int) : Int := Lib.indexByte s.data.toList c.toNat.toUInt8
def gIdx : List V → Option (Bool × V)
  | [.str s, .int .u8 c] => some (true, .int .i64 (idxI s c))
  | _ => none
def cntI (s : ByteArray) (c : UInt8) : Int := Lib.countByte s.data.toList c
def gCount : List V → Option (Bool × V)
  | [.str s, .str ⟨⟨[c]⟩⟩] => some (true, .int .i64 (cntI s c))
  | _ => none
def gIdx1 : List V → Option (Bool × V)
  | [.str s, .str ⟨⟨[c]⟩⟩] => some (true, .int .i64 (idxI s c.toNat))
  | _ => none
def tabI : PTab := addTab 36 gCount (addTab 58 gIdx1 (addTab 37 gIdx tabO))
theorem tabI_ok : PTabOk Tryd.prog tabI := by
  refine addTab_ok ?_ (addTab_ok ?_ (addTab_ok ?_ tabO_ok))
  · intro args c v h _
    unfold gCount at h
    split at h
    · cases h
      exact pure_of_same (.of Tryd.func36 (by kernel_rfl)) rfl rfl fun w => Tryd.strings_Count_one _ _ w
    · cases h
  · intro args c v h _
    unfold gIdx1 at h
    split at h
    · rename_i s c
      cases h
      have e : idxI s (c.toNat : Int) = Lib.indexByte s.data.toList c := by unfold idxI; simp
      rw [e]
      exact pure_of_same (.of Tryd.func58 (by kernel_rfl)) rfl rfl fun w => Tryd.strings_Index_one _ _ w
    · cases h
  · intro args c v h _
    unfold gIdx at h
    split at h
    · cases h
      exact pure_of_same (.of Tryd.func37 (by kernel_rfl)) rfl rfl fun w => Tryd.strings_IndexByte _ _ w
    · cases h
noncomputable def spLp : Code := loopOf 11 Tryd.f35
def spT : Tm := ⟨mkS [(0, .str), (1, .str), (2, .lit .i64 0), (3, .int .i64), (9, .gs 1), (10, .int .i64)] 0 66, [.own 37 .strs, .grow true 9 1 .strs], []⟩
def spE : List (Code × Code) := []
noncomputable def spR (n i : Int) (k : Int) (s : ByteArray) (ps ss : List ByteArray) : RT := bif decide (i < n) then bif decide (k < 0) then some (.exit 0, [.s s, .s ⟨⟨[46]⟩⟩, .i n, .i i, .ss ps, .ss ss], []) else
    bif decide (0 ≤ (0 : Int) ∧ 0 ≤ wr .i64 (k + 0) ∧ wr .i64 (k + 0) ≤ Int.ofNat s.data.toList.length) then bif decide (0 ≤ i ∧ i < Int.ofNat ss.length) then bif decide (i.toNat < ss.length) then
      bif decide (0 ≤ wr .i64 (k + 1) ∧ wr .i64 (k + 1) ≤ Int.ofNat s.data.toList.length ∧ Int.ofNat s.data.toList.length ≤ Int.ofNat s.data.toList.length) then
        some (.normal, [.s (extS s (wr .i64 (k + 1)).toNat (Int.ofNat s.data.toList.length).toNat), .s ⟨⟨[46]⟩⟩, .i n, .i (wr .i64 (i + 1)), .ss ps, .ss (ss.set i.toNat (extS s (0 : Int).toNat (wr .i64 (k + 0)).toNat))], [])
      else none else none else none else none
  else some (.exit 0, [.s s, .s ⟨⟨[46]⟩⟩, .i n, .i i, .ss ps, .ss ss], [])
theorem sp_round (rd : Option Nat) (s : ByteArray) (n i : Int) (ps ss : List ByteArray) : roundT Tryd.prog (orcS tabI plainL) noLoops 100 1 rd 35 spLp spT spT [.s s, .s ⟨⟨[46]⟩⟩, .i n, .i i, .ss ps, .ss ss] = spR n i (idxI s 46) s ps ss := by kernel_rfl
end Go.Proofs.YtpalajfcffdhoaaDoor.N4
