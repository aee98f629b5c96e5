/- Texts merged: Tx1, Tx2. -/
import Derived.Test.YtpalajfcffdhoaaDoorSp4
/- Chapter 6: deal.Text's contract. -/
namespace Go.Proofs.YtpalajfcffdhoaaDoor
open Go Go.Eng Go.Deal
structure EX where
  u4 : Int → Int → Int → Int → Bool
  pb : Int → Int → Int → Int → Bool
  wk : Int → Bool
  wv : Int → ByteArray
  we : Int → Int
section
variable (E : EX)
def xPa : List V → Option (Bool × V)
  | [.agg [.int .u64 a, .int .u64 b, .int .u64 c, .int .u64 d]] => some (E.u4 a b c d, .bool (E.pb a b c d))
  | _ => none
def xWr : List V → Option (Bool × V)
  | [.int .u64 m] => some (E.wk m, .tuple [.str (E.wv m), .int .i64 (E.we m)])
  | _ => none
def tabX6 : PTab := addTab 8 (xPa E) (addTab 12 (xWr E) N4.tabI)
noncomputable abbrev orcX6 : Oracle := N4.orcS (tabX6 E) plainL
def ccS (x y : ByteArray) (K : ByteArray → Option V) : Option V := bif decide (lenS x + lenS y ≤ 9223372036854775807) then K (catS x y) else none
def nmS : ByteArray := ⟨#[78, 58]⟩
def spS : ByteArray := ⟨#[32]⟩
theorem text_eval (a b c d : Int) : evalFn Tryd.prog (orcX6 E) noLoops 100 6 Tryd.f6 [q4 a b c d] [] (fun v _ => some v) =
    bif E.u4 a b c d then bif !E.pb a b c d then some (.tuple [.str ⟨#[]⟩, .int .i64 60]) else
      bif E.wk a then bif E.wk b then bif E.wk c then bif E.wk d then bif decide (4 ≤ 140737488355328) && decide (joinLen [E.wv a, E.wv b, E.wv c, E.wv d] spS ≤ 140737488355328) then
        ccS nmS (joinS [E.wv a, E.wv b, E.wv c, E.wv d] spS) fun t => some (.tuple [.str t, .int .i64 0]) else none else none else none else none else none else none := by kernel_rfl
end
noncomputable def eX : EX := ⟨in4, parB, fun m => decide (0 ≤ m), N4.wrV, N4.wrE⟩
theorem tabX6_ok : PTabOk Tryd.prog (tabX6 eX) := by
  refine addTab_ok ?_ (addTab_ok ?_ N4.tabI_ok)
  · intro args c v h hc
    unfold xPa at h; split at h
    · cases h; exact par_p hc
    · cases h
  · intro args c v h hc
    unfold xWr at h; split at h
    · cases h; exact N4.write_p (of_decide_eq_true hc)
    · cases h
theorem orcX6_ok : OracleOk Tryd.prog (orcX6 eX) := N4.orcS_ok tabX6_ok (fun _ => noLoops_ok)
/-- The text of a partial deal. -/
def txL (a b c d : Nat) : List UInt8 := 78 :: 58 :: (N4.wtxt a ++ 32 :: (N4.wtxt b ++ 32 :: (N4.wtxt c ++ 32 :: N4.wtxt d)))
noncomputable def txI (a b c d : Int) : ByteArray := bif parB a b c d then N4.bA (txL a.toNat b.toNat c.toNat d.toNat) else ⟨#[]⟩
theorem eXu (a b c d : Int) : eX.u4 a b c d = in4 a b c d := rfl
theorem eXp (a b c d : Int) : eX.pb a b c d = parB a b c d := rfl
theorem eXk (a : Int) : eX.wk a = decide (0 ≤ a) := rfl
theorem eXv (a : Int) : eX.wv a = N4.wrV a := rfl
theorem wrV_n {a : Nat} (h : a < 2 ^ 52) : N4.wrV (a : Int) = N4.bA (N4.wtxt a) := by
  unfold N4.wrV
  rw [decide_eq_false (show ¬ 4503599627370495 < (a : Int) by omega), cond_false, Int.toNat_natCast]
theorem catS_bA (x y : List UInt8) : catS (N4.bA x) (N4.bA y) = N4.bA (x ++ y) := rfl
theorem lenS_bA (x : List UInt8) : lenS (N4.bA x) = x.length := rfl
theorem nmS_is : nmS = N4.bA [78, 58] := rfl
theorem spS_is : spS = N4.bA [32] := rfl
theorem ccS_is {x y : List UInt8} (h : x.length + y.length ≤ 1000) (K : ByteArray → Option V) : ccS (N4.bA x) (N4.bA y) K = K (N4.bA (x ++ y)) := by
  unfold ccS
  rw [lenS_bA, lenS_bA, decide_eq_true (show x.length + y.length ≤ 9223372036854775807 by omega), cond_true, catS_bA]
theorem join4 (x y z w : List UInt8) : joinS [N4.bA x, N4.bA y, N4.bA z, N4.bA w] spS = N4.bA (x ++ 32 :: (y ++ 32 :: (z ++ 32 :: w))) := by
  unfold joinS Lib.join spS N4.bA
  simp [List.intercalate]
theorem joinLen4 (x y z w : List UInt8) : joinLen [N4.bA x, N4.bA y, N4.bA z, N4.bA w] spS = x.length + y.length + z.length + w.length + 3 := by
  unfold joinLen Lib.join spS N4.bA
  simp [List.intercalate]; omega
theorem text_p {a b c d : Int} (h : in4 a b c d = true) : FnPure Tryd.prog 6 [q4 a b c d] (.tuple [.str (txI a b c d), .int .i64 (leI a b c d)]) := by
  have h4 := h
  obtain ⟨a, b, c, d, rfl, rfl, rfl, rfl, ha, hb, hc, hd⟩ := in4_nat h
  refine fnPure_of_eval (N := 100) orcX6_ok mixed Tryd.func6 (by kernel_rfl) noLoops_ok ?_ rfl rfl
  refine (text_eval eX _ _ _ _).trans ?_
  rw [eXu, h4, cond_true, eXp]
  unfold txI leI
  cases hp : parB (a : Int) b c d with
  | false => rfl
  | true =>
    have P := parB_iff.1 hp
    have l1 := N4.wtxt_len a; have l2 := N4.wtxt_len b; have l3 := N4.wtxt_len c; have l4 := N4.wtxt_len d
    rw [Bool.not_true, cond_false, cond_true, cond_true, eXk, eXk, eXk, eXk, decide_eq_true (Int.natCast_nonneg a), decide_eq_true (Int.natCast_nonneg b), decide_eq_true (Int.natCast_nonneg c), decide_eq_true (Int.natCast_nonneg d), cond_true, cond_true, cond_true, cond_true, eXv, eXv, eXv, eXv, wrV_n P.la, wrV_n P.lb, wrV_n P.lc, wrV_n P.ld, join4, joinLen4,
      decide_eq_true (show 4 ≤ 140737488355328 by decide), decide_eq_true (show (N4.wtxt a).length + (N4.wtxt b).length + (N4.wtxt c).length + (N4.wtxt d).length + 3 ≤ 140737488355328 by omega), Bool.true_and, cond_true, nmS_is, ccS_is (by simp; omega)]
    unfold txL
    simp
end Go.Proofs.YtpalajfcffdhoaaDoor

/- Chapter 6: texts of partial deals, plainly: Read and Text are the opposite of one another. -/
namespace Go.Proofs.YtpalajfcffdhoaaDoor
open Go Go.Eng Go.Deal
theorem rU_no : ∀ n, n < 13 → (N4.rU.getD n 0 == 32) = false := by decide
theorem suf_no32 (r s : Nat) : ∀ n, n ≤ 13 → (N4.suf r s n).count 32 = 0
  | 0, _ => rfl
  | n + 1, h => by
    simp only [N4.suf]
    have ih := suf_no32 r s n (by omega)
    split
    · rw [List.count_cons, ih, rU_no n (by omega)]; rfl
    · exact ih
theorem wtxt_no32 (m : Nat) : (N4.wtxt m).count 32 = 0 := by
  unfold N4.wtxt
  simp only [List.count_append, List.count_cons, suf_no32 m _ 13 (by decide)]
  rfl
theorem suf_cnt (m s : Nat) : ∀ n, (N4.suf m s n).length + cnt m (13 * s) = cnt m (13 * s + n)
  | 0 => by simp [N4.suf]
  | n + 1 => by
    have ih := suf_cnt m s n
    have e : cnt m (13 * s + n + 1) = if m.testBit (13 * s + n) then cnt m (13 * s + n) + 1 else cnt m (13 * s + n) := rfl
    simp only [N4.suf]
    rw [← Nat.add_assoc, e]
    split
    · rw [List.length_cons]; omega
    · exact ih
theorem wtxt_cnt (m : Nat) : (N4.wtxt m).length = cnt m 52 + 3 := by
  have h3 := suf_cnt m 3 13; have h2 := suf_cnt m 2 13; have h1 := suf_cnt m 1 13; have h0 := suf_cnt m 0 13
  have e : cnt m (13 * 0) = 0 := rfl
  simp only [Nat.reduceMul, Nat.reduceAdd] at h3 h2 h1 h0 e
  simp only [N4.wtxt, List.length_append, List.length_cons]
  omega
theorem part_cnt {a b c d : Nat} (P : PartD a b c d) : cnt a 52 + cnt b 52 + cnt c 52 + cnt d 52 ≤ 52 := by
  have h := cnt_le (a ||| b ||| c ||| d) 52
  rw [cnt_or (Dis.symm (dis_or.2 ⟨dis_or.2 ⟨P.ad.symm, P.bd.symm⟩, P.cd'.symm⟩)), cnt_or (Dis.symm (dis_or.2 ⟨P.ac.symm, P.bc.symm⟩)), cnt_or P.ab] at h
  exact h
theorem ctS_no : ∀ {p q : List UInt8}, p.count 32 = 0 → ctS (p ++ 32 :: q) = p ∧ rsS (p ++ 32 :: q) = q
  | [], q, _ => ⟨rfl, rfl⟩
  | b :: p, q, h => by
    rw [List.count_cons] at h
    have hb : (b == 32) = false := by
      cases hb : (b == 32) with
      | false => rfl
      | true => rw [hb] at h; simp at h
    obtain ⟨h1, h2⟩ := ctS_no (p := p) (q := q) (by omega)
    simp only [List.cons_append, ctS, rsS, hb, Bool.false_eq_true, if_false, h1, h2]
    exact ⟨trivial, trivial⟩
theorem txL_len {a b c d : Nat} (P : PartD a b c d) : (txL a b c d).length ≤ 69 := by
  have h := part_cnt P
  unfold txL
  simp only [List.length_cons, List.length_append, wtxt_cnt]
  omega
theorem read_text {a b c d : Nat} (P : PartD a b c d) : readN (txL a b c d) = some (a, b, c, d) := by
  unfold readN
  have e : (txL a b c d).drop 2 = N4.wtxt a ++ 32 :: (N4.wtxt b ++ 32 :: (N4.wtxt c ++ 32 :: N4.wtxt d)) := rfl
  rw [e, if_pos ⟨rfl, txL_len P, by simp only [List.count_append, List.count_cons, wtxt_no32]; rfl⟩, (ctS_no (wtxt_no32 a)).1, (ctS_no (wtxt_no32 a)).2, (ctS_no (wtxt_no32 b)).1, (ctS_no (wtxt_no32 b)).2, (ctS_no (wtxt_no32 c)).1, (ctS_no (wtxt_no32 c)).2]
  unfold pK
  rw [N4.parse_back P.la]
  dsimp only
  rw [N4.parse_back P.lb]
  dsimp only
  rw [N4.parse_back P.lc]
  dsimp only
  rw [N4.parse_back P.ld]
  dsimp only
  rw [if_pos (parB_iff.2 P)]
theorem pK_some {w : List UInt8} {α : Type} {K : Nat → Option α} {x : α} (h : pK w K = some x) : ∃ m, N4.parseN w = some m ∧ K m = some x := by
  unfold pK at h
  cases hp : N4.parseN w with
  | none => rw [hp] at h; cases h
  | some m => rw [hp] at h; exact ⟨m, rfl, h⟩
theorem cpI_is {l : List UInt8} (h : cpI l = true) : l = 78 :: 58 :: l.drop 2 := by
  unfold cpI at h
  rw [beqBs_eq] at h
  have h2 := eq_of_beq h
  have h3 := List.take_append_drop 2 l
  rw [h2] at h3
  exact h3.symm
theorem read_only {l : List UInt8} {a b c d : Nat} (h : readN l = some (a, b, c, d)) : l = txL a b c d ∧ PartD a b c d := by
  unfold readN at h
  split at h
  · rename_i hn
    obtain ⟨h1, h2, h3⟩ := hn
    have hl := cpI_is h1
    generalize l.drop 2 = r at h h3 hl
    obtain ⟨x1, _, x3⟩ := ctS_eq (l := r) (by omega)
    obtain ⟨y1, _, y3⟩ := ctS_eq (l := rsS r) (by omega)
    obtain ⟨z1, _, z3⟩ := ctS_eq (l := rsS (rsS r)) (by omega)
    obtain ⟨a', p0, h⟩ := pK_some h
    obtain ⟨b', p1, h⟩ := pK_some h
    obtain ⟨c', p2, h⟩ := pK_some h
    obtain ⟨d', p3, h⟩ := pK_some h
    split at h
    · rename_i hp
      cases h
      refine ⟨?_, parB_iff.1 hp⟩
      unfold txL
      rw [← (N4.parse_only p0).1, ← (N4.parse_only p1).1, ← (N4.parse_only p2).1, ← (N4.parse_only p3).1, ← z1, ← y1, ← x1]
      exact hl
    · cases h
  · cases h
end Go.Proofs.YtpalajfcffdhoaaDoor
