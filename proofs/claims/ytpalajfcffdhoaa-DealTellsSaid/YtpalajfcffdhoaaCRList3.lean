/- Texts merged: CRList3, E11, E12, E13, SFrame, FrameN. -/
import Derived.Test.YtpalajfcffdhoaaCWrite3
import Derived.Test.YtpalajfcffdhoaaEng4
import Derived.Test.YtpalajfcffdhoaaDlQ
import Derived.Test.YtpalajfcffdhoaaRows
import Derived.Test.YtpalajfcffdhoaaPar
/- Chapter 4, the reference: List and Write: their contracts. -/
namespace Go.Proofs.Ytpalajfcffdhoaa.N4
open Go Go.Eng
theorem rlC_ok {m : Int} (h0 : 0 ≤ m) (h1 : m < 4503599627370496) {s : Int} (h2 : 0 ≤ s ∧ s ≤ 3) {n : Nat} (hn : n ≤ 60) : rlC m s 12 n = true := by
  unfold rlC
  rw [decide_eq_true_eq]; omega
/-! ### Write -/
def wA (m : Nat) : ByteArray := bA (bytesL ⟨#[]⟩ ++ suf m 3 13)
def wN (m s : Nat) (t : ByteArray) : ByteArray := bA (bytesL (catS t ⟨#[46]⟩) ++ suf m s 13)
theorem rwrite_eval (N : NR) (m : Int) : evalFn Try.prog (orcNR N) rwL 100 69 Try.f69 [.int .u64 m] [] (fun v _ => some v) =
    bif !decide (m < 4503599627370496) then some (.tuple [.str ⟨#[]⟩, .int .i64 41]) else cond (codesB [(rwLp, rwLp)]) (bif rlC m 3 12 (lenS ⟨#[]⟩) then bif decide (lenS (wA m.toNat) + 1 ≤ 9223372036854775807) then
      cond (codesB [(rwLp, rwLp)]) (bif rlC m 2 12 (lenS (catS (wA m.toNat) ⟨#[46]⟩)) then bif decide (lenS (wN m.toNat 2 (wA m.toNat)) + 1 ≤ 9223372036854775807) then
      cond (codesB [(rwLp, rwLp)]) (bif rlC m 1 12 (lenS (catS (wN m.toNat 2 (wA m.toNat)) ⟨#[46]⟩)) then bif decide (lenS (wN m.toNat 1 (wN m.toNat 2 (wA m.toNat))) + 1 ≤ 9223372036854775807) then
      cond (codesB [(rwLp, rwLp)]) (bif rlC m 0 12 (lenS (catS (wN m.toNat 1 (wN m.toNat 2 (wA m.toNat))) ⟨#[46]⟩)) then some (.tuple [.str (wN m.toNat 0 (wN m.toNat 1 (wN m.toNat 2 (wA m.toNat)))), .int .i64 0]) else none) none else none else none) none else none else none) none else none else none) none := by kernel_rfl
theorem rwrite_p {m : Int} (h0 : 0 ≤ m) : FnPure Try.prog 69 [.int .u64 m] (.tuple [.str (wrV m), .int .i64 (wrE m)]) := by
  refine fnPure_of_eval (N := 100) orcNR_ok mixed Try.func69 (by kernel_rfl) rwL_ok ?_ rfl rfl
  have cd : codesB [(rwLp, rwLp)] = true := by rw [codesB_iff]; intro x hx; simp at hx; rw [hx]
  rw [rwrite_eval, cd]
  unfold wrV wrE
  by_cases hm : m < 4503599627370496
  · have l3 := suf_len m.toNat 3 13
    have l2 := suf_len m.toNat 2 13
    have l1 := suf_len m.toNat 1 13
    have eA : wA m.toNat = bA (suf m.toNat 3 13) := rfl
    have eN : ∀ (s : Nat) (t : List UInt8), wN m.toNat s (bA t) = bA (t ++ 46 :: suf m.toNat s 13) := fun s t => by
      unfold wN
      congr 1
      show (t ++ [46]) ++ suf m.toNat s 13 = _
      simp
    have eC : ∀ t : List UInt8, lenS (catS (bA t) ⟨#[46]⟩) = t.length + 1 := fun t => by
      show (t ++ [46]).length = _
      simp
    have eL : ∀ t : List UInt8, lenS (bA t) = t.length := fun t => rfl
    rw [decide_eq_true hm, decide_eq_false (show ¬ 4503599627370495 < m by omega), eA, eN, eN, eN, eC, eC, eC, eL, eL, eL, rlC_ok h0 hm (by omega) (show lenS ⟨#[]⟩ ≤ 60 from by decide), rlC_ok h0 hm (by omega) (by omega),
      rlC_ok h0 hm (by omega) (by simp; omega), rlC_ok h0 hm (by omega) (by simp; omega), decide_eq_true (by omega), decide_eq_true (by simp; omega), decide_eq_true (by simp; omega)]
    simp only [Bool.not_true, cond_false, cond_true]
    unfold wtxt
    simp
  · rw [decide_eq_false hm, decide_eq_true (show 4503599627370495 < m by omega)]; rfl
end Go.Proofs.Ytpalajfcffdhoaa.N4

/- Chapter 6: Text, and the reference's Write: formulas over names, contracts. -/
namespace Go.Proofs.Ytpalajfcffdhoaa
open Go Go.Eng Go.Deal
structure EX where
  u4 : Int → Int → Int → Int → Bool
  pb : Int → Int → Int → Int → Bool
  wk : Int → Bool
  wv : Int → ByteArray
  we : Int → Int
section
variable (E : EX)
def xPa : List V → Option (Bool × V)
  | [.agg [.int .u64 a, .int .u64 b, .int .u64 c, .int .u64 d]] => some (E.u4 a b c d, .bool (E.pb a b c d))
  | _ => none
def xWr : List V → Option (Bool × V)
  | [.int .u64 m] => some (E.wk m, .tuple [.str (E.wv m), .int .i64 (E.we m)])
  | _ => none
def tabX6 : PTab := addTab 14 (xPa E) (addTab 46 (xPa E) (addTab 51 (xWr E) (addTab 69 (xWr E) emptyTab)))
noncomputable abbrev orcX6 : Oracle := N4.orcS (tabX6 E) plainL
def ctS (x y : ByteArray) (K : ByteArray → Option V) : Option V := bif decide (lenS x + lenS y ≤ 9223372036854775807) then K (catS x y) else none
def nS : ByteArray := ⟨#[78, 58]⟩
def spS : ByteArray := ⟨#[32]⟩
def wdS (t : ByteArray) (x : Int) (K : ByteArray → Option V) : Option V := bif E.wk x then ctS t spS fun t => ctS t (E.wv x) K else none
theorem rwr_eval (a b c d : Int) : evalFn Try.prog (orcX6 E) noLoops 100 43 Try.f43 [q4 a b c d] [] (fun v _ => some v) =
    bif E.u4 a b c d then bif !E.pb a b c d then some (.tuple [.str ⟨#[]⟩, .int .i64 60]) else
      bif E.wk a then ctS nS (E.wv a) fun t => wdS E t b fun t => wdS E t c fun t => wdS E t d fun t => some (.tuple [.str t, .int .i64 0]) else none else none := by kernel_rfl
theorem text_eval (a b c d : Int) : evalFn Try.prog (orcX6 E) noLoops 100 25 Try.f25 [q4 a b c d] [] (fun v _ => some v) =
    bif E.u4 a b c d then bif !E.pb a b c d then some (.tuple [.str ⟨#[]⟩, .int .i64 60]) else
      bif E.wk a then bif E.wk b then bif E.wk c then bif E.wk d then bif decide (4 ≤ 140737488355328) && decide (joinLen [E.wv a, E.wv b, E.wv c, E.wv d] spS ≤ 140737488355328) then
        ctS nS (joinS [E.wv a, E.wv b, E.wv c, E.wv d] spS) fun t => some (.tuple [.str t, .int .i64 0]) else none else none else none else none else none else none := by kernel_rfl
end
end Go.Proofs.Ytpalajfcffdhoaa

/- Chapter 6: Text, and the reference's Write: their contracts. -/
namespace Go.Proofs.Ytpalajfcffdhoaa
open Go Go.Eng Go.Deal
noncomputable def eX : EX := ⟨in4, parB, fun m => decide (0 ≤ m), N4.wrV, N4.wrE⟩
theorem tabX6_ok : PTabOk Try.prog (tabX6 eX) := by
  refine addTab_ok ?_ (addTab_ok ?_ (addTab_ok ?_ (addTab_ok ?_ emptyTab_ok)))
  · intro args c v h hc
    unfold xPa at h; split at h
    · cases h; exact par_p hc
    · cases h
  · intro args c v h hc
    unfold xPa at h; split at h
    · cases h; exact rpar_p hc
    · cases h
  · intro args c v h hc
    unfold xWr at h; split at h
    · cases h; exact N4.write_p (of_decide_eq_true hc)
    · cases h
  · intro args c v h hc
    unfold xWr at h; split at h
    · cases h; exact N4.rwrite_p (of_decide_eq_true hc)
    · cases h
theorem orcX6_ok : OracleOk Try.prog (orcX6 eX) := N4.orcS_ok tabX6_ok (fun _ => noLoops_ok)
/-- The text of a partial deal. -/
def txL (a b c d : Nat) : List UInt8 := 78 :: 58 :: (N4.wtxt a ++ 32 :: (N4.wtxt b ++ 32 :: (N4.wtxt c ++ 32 :: N4.wtxt d)))
noncomputable def txI (a b c d : Int) : ByteArray := bif parB a b c d then N4.bA (txL a.toNat b.toNat c.toNat d.toNat) else ⟨#[]⟩
theorem eXu (a b c d : Int) : eX.u4 a b c d = in4 a b c d := rfl
theorem eXp (a b c d : Int) : eX.pb a b c d = parB a b c d := rfl
theorem eXk (a : Int) : eX.wk a = decide (0 ≤ a) := rfl
theorem eXv (a : Int) : eX.wv a = N4.wrV a := rfl
theorem wrV_n {a : Nat} (h : a < 2 ^ 52) : N4.wrV (a : Int) = N4.bA (N4.wtxt a) := by
  unfold N4.wrV
  rw [decide_eq_false (show ¬ 4503599627370495 < (a : Int) by omega), cond_false, Int.toNat_natCast]
theorem catS_bA (x y : List UInt8) : catS (N4.bA x) (N4.bA y) = N4.bA (x ++ y) := rfl
theorem lenS_bA (x : List UInt8) : lenS (N4.bA x) = x.length := rfl
theorem nS_is : nS = N4.bA [78, 58] := rfl
theorem spS_is : spS = N4.bA [32] := rfl
theorem ctS_is {x y : List UInt8} (h : x.length + y.length ≤ 1000) (K : ByteArray → Option V) : ctS (N4.bA x) (N4.bA y) K = K (N4.bA (x ++ y)) := by
  unfold ctS
  rw [lenS_bA, lenS_bA, decide_eq_true (show x.length + y.length ≤ 9223372036854775807 by omega), cond_true, catS_bA]
theorem wdS_is {x : List UInt8} {m : Nat} (hm : m < 2 ^ 52) (h : x.length ≤ 500) (K : ByteArray → Option V) : wdS eX (N4.bA x) (m : Int) K = K (N4.bA (x ++ 32 :: N4.wtxt m)) := by
  unfold wdS
  have hl := N4.wtxt_len m
  rw [eXk, decide_eq_true (Int.natCast_nonneg m), cond_true, spS_is, ctS_is (by simp; omega), eXv, wrV_n hm, ctS_is (by simp; omega), List.append_assoc]
  rfl
theorem join4 (x y z w : List UInt8) : joinS [N4.bA x, N4.bA y, N4.bA z, N4.bA w] spS = N4.bA (x ++ 32 :: (y ++ 32 :: (z ++ 32 :: w))) := by
  unfold joinS Lib.join spS N4.bA
  simp [List.intercalate]
theorem joinLen4 (x y z w : List UInt8) : joinLen [N4.bA x, N4.bA y, N4.bA z, N4.bA w] spS = x.length + y.length + z.length + w.length + 3 := by
  unfold joinLen Lib.join spS N4.bA
  simp [List.intercalate]; omega
theorem rwr_p {a b c d : Int} (h : in4 a b c d = true) : FnPure Try.prog 43 [q4 a b c d] (.tuple [.str (txI a b c d), .int .i64 (leI a b c d)]) := by
  have h4 := h
  obtain ⟨a, b, c, d, rfl, rfl, rfl, rfl, ha, hb, hc, hd⟩ := in4_nat h
  refine fnPure_of_eval (N := 100) orcX6_ok mixed Try.func43 (by kernel_rfl) noLoops_ok ?_ rfl rfl
  refine (rwr_eval eX _ _ _ _).trans ?_
  rw [eXu, h4, cond_true, eXp]
  unfold txI leI
  cases hp : parB (a : Int) b c d with
  | false => rfl
  | true =>
    have P := parB_iff.1 hp
    have l1 := N4.wtxt_len a; have l2 := N4.wtxt_len b; have l3 := N4.wtxt_len c
    rw [Bool.not_true, cond_false, cond_true, cond_true, eXk, decide_eq_true (Int.natCast_nonneg a), cond_true, eXv, wrV_n P.la, nS_is, ctS_is (by simp; omega), wdS_is P.lb (by simp; omega), wdS_is P.lc (by simp; omega), wdS_is P.ld (by simp; omega)]
    unfold txL
    simp
theorem text_p {a b c d : Int} (h : in4 a b c d = true) : FnPure Try.prog 25 [q4 a b c d] (.tuple [.str (txI a b c d), .int .i64 (leI a b c d)]) := by
  have h4 := h
  obtain ⟨a, b, c, d, rfl, rfl, rfl, rfl, ha, hb, hc, hd⟩ := in4_nat h
  refine fnPure_of_eval (N := 100) orcX6_ok mixed Try.func25 (by kernel_rfl) noLoops_ok ?_ rfl rfl
  refine (text_eval eX _ _ _ _).trans ?_
  rw [eXu, h4, cond_true, eXp]
  unfold txI leI
  cases hp : parB (a : Int) b c d with
  | false => rfl
  | true =>
    have P := parB_iff.1 hp
    have l1 := N4.wtxt_len a; have l2 := N4.wtxt_len b; have l3 := N4.wtxt_len c; have l4 := N4.wtxt_len d
    rw [Bool.not_true, cond_false, cond_true, cond_true, eXk, eXk, eXk, eXk, decide_eq_true (Int.natCast_nonneg a), decide_eq_true (Int.natCast_nonneg b), decide_eq_true (Int.natCast_nonneg c), decide_eq_true (Int.natCast_nonneg d), cond_true, cond_true, cond_true, cond_true, eXv, eXv, eXv, eXv, wrV_n P.la, wrV_n P.lb, wrV_n P.lc, wrV_n P.ld, join4, joinLen4,
      decide_eq_true (show 4 ≤ 140737488355328 by decide), decide_eq_true (show (N4.wtxt a).length + (N4.wtxt b).length + (N4.wtxt c).length + (N4.wtxt d).length + 3 ≤ 140737488355328 by omega), Bool.true_and, cond_true, nS_is, ctS_is (by simp; omega)]
    unfold txL
    simp
end Go.Proofs.Ytpalajfcffdhoaa

/- Chapter 6: the law DealTells: its formula. -/
namespace Go.Proofs.Ytpalajfcffdhoaa
open Go Go.Eng Go.Deal
structure DT where
  d : D7
  tx : Int → Int → Int → Int → ByteArray
section
variable (D : DT)
def hTx : List V → Option (Bool × V)
  | [.agg [.int .u64 a, .int .u64 b, .int .u64 c, .int .u64 d]] => some (D.d.u a b c d, .tuple [.str (D.tx a b c d), .int .i64 (D.d.le a b c d)])
  | _ => none
def hOwR : List V → Option (Bool × V)
  | [.agg [.int .u64 a, .int .u64 b, .int .u64 c, .int .u64 d], .int .i64 k] => some (D.d.u a b c d && decide (0 ≤ k ∧ k ≤ 1000), .tuple [.int .u8 (D.d.oi a b c d k), .bool (D.d.ob a b c d k)])
  | _ => none
def tabT : PTab := addTab 41 (hLef D.d) (addTab 42 (hWay D.d) (addTab 43 (hTx D) (addTab 25 (hTx D) (addTab 44 (hOwR D) (addTab 45 (hRig D.d) (addTab 46 (hPar D.d) (addTab 47 (hTur D.d) (tab7 D.d))))))))
noncomputable abbrev orcT : Oracle := inl Try.prog ftab (tabT D) plainL 100 never dom7 (hOrcP nrN (hTab7 D.d)) 20
theorem bqB_r (x : Bool) : (bif x then x else !x) = true := by cases x <;> rfl
theorem tells_eval (a b c d k n : Int) : evalFn Try.prog (orcT D) noLoops 100 5 Try.f5 [q4 a b c d, .int .u8 k, .int .i64 n] [] (fun v _ => some v) =
    bif D.d.u a b c d then bif D.d.u a b c d then bif D.d.u a b c d then bif D.d.u a b c d then bif D.d.u a b c d then bif D.d.u a b c d then
    bif D.d.u a b c d && decide (0 ≤ k) then bif D.d.u a b c d && decide (0 ≤ wr .i64 k ∧ wr .i64 k ≤ 1000) then bif D.d.u a b c d then bif D.d.u a b c d then
    bif bif D.d.rg a b c d then D.d.rg a b c d else !D.d.rg a b c d then bif D.d.u a b c d then bif D.d.u a b c d then
    bif bif D.d.pb a b c d then D.d.pb a b c d else !D.d.pb a b c d then
    bif decide (D.d.lf a b c d = D.d.lf a b c d) then bif decide (D.d.le a b c d = D.d.le a b c d) then
    bif decide (D.d.n.w0 (D.d.wy a b c d) = D.d.n.w0 (D.d.wy a b c d)) && (decide (D.d.n.w1 (D.d.wy a b c d) = D.d.n.w1 (D.d.wy a b c d)) && (decide (D.d.n.w2 (D.d.wy a b c d) = D.d.n.w2 (D.d.wy a b c d)) && (decide (D.d.n.w3 (D.d.wy a b c d) = D.d.n.w3 (D.d.wy a b c d)) && true))) then
    bif decide (D.d.le a b c d = D.d.le a b c d) then bif beqBs (D.tx a b c d).data.toList (D.tx a b c d).data.toList then bif decide (D.d.le a b c d = D.d.le a b c d) then
    bif decide (D.d.oi a b c d k = D.d.oi a b c d (wr .i64 k)) then bif bif D.d.ob a b c d k then D.d.ob a b c d (wr .i64 k) else !D.d.ob a b c d (wr .i64 k) then
    bif decide (D.d.t0 n a b c d = D.d.t0 n a b c d) && (decide (D.d.t1 n a b c d = D.d.t1 n a b c d) && (decide (D.d.t2 n a b c d = D.d.t2 n a b c d) && (decide (D.d.t3 n a b c d = D.d.t3 n a b c d) && true))) then some (.bool true)
    else flsV else flsV else flsV else flsV else flsV else flsV else flsV else flsV else flsV else flsV else none else none else flsV else none else none else none else none else none else none else none else none else none else none := by kernel_rfl
theorem beqBs_r : ∀ l : List UInt8, beqBs l l = true
  | [] => rfl
  | x :: r => by simp [beqBs, beqBs_r r]
end
noncomputable def dT : DT := ⟨d7, txI⟩
theorem dTu (a b c d : Int) : dT.d.u a b c d = in4 a b c d := rfl
theorem tabT_ok : PTabOk Try.prog (tabT dT) := by
  refine addTab_ok ?_ (addTab_ok ?_ (addTab_ok ?_ (addTab_ok ?_ (addTab_ok ?_ (addTab_ok ?_ (addTab_ok ?_ (addTab_ok ?_ tab7_ok)))))))
  · intro args c v h hc
    unfold hLef at h; split at h
    · cases h; exact rleft_p hc
    · cases h
  · intro args c v h hc
    unfold hWay at h; split at h
    · cases h; exact rways_p hc
    · cases h
  · intro args c v h hc
    unfold hTx at h; split at h
    · cases h; exact rwr_p hc
    · cases h
  · intro args c v h hc
    unfold hTx at h; split at h
    · cases h; exact text_p hc
    · cases h
  · intro args c v h hc
    unfold hOwR at h; split at h
    · cases h; rw [Bool.and_eq_true, decide_eq_true_eq] at hc; exact rowner_p hc.1 hc.2
    · cases h
  · intro args c v h hc
    unfold hRig at h; split at h
    · cases h; exact rright_p hc
    · cases h
  · intro args c v h hc
    unfold hPar at h; split at h
    · cases h; exact rpar_p hc
    · cases h
  · intro args c v h hc
    unfold hTur at h; split at h
    · cases h; exact rturn_p _ _ _ _ _
    · cases h
theorem orcT_ok : OracleOk Try.prog (orcT dT) := inl_ok (hOrcP_ok hTab7_ok) ftab_ok tabT_ok plainL_ok mixed 20
theorem tells_true {a b c d k : Int} (n : Int) (h : in4 a b c d = true) (h0 : 0 ≤ k) (h1 : k < 256) : evalFn Try.prog (orcT dT) noLoops 100 5 Try.f5 [q4 a b c d, .int .u8 k, .int .i64 n] [] (fun v _ => some v) = some (.bool true) := by
  have w : wr .i64 k = k := wr64 (by omega) (by omega)
  have e := tells_eval dT a b c d k n
  rw [w, dTu, h] at e
  rw [decide_eq_true h0, decide_eq_true (show 0 ≤ k ∧ k ≤ 1000 by omega), bqB_r, bqB_r, bqB_r, beqBs_r] at e
  simp only at e
  exact e
end Go.Proofs.Ytpalajfcffdhoaa

/- What a row asks behind a call that leaves all that was there as it was: the engine's Frame. -/

/- Chapter 6: the frame of a law over numbers and deals. -/
namespace Go.Proofs.Ytpalajfcffdhoaa
open Go Go.Eng Go.ChangeShapes Go.WideShapes Go.ChangeAt Go.RowKit Go.WideMaps
theorem ownN : ownKnob Try.prog.godebug = none := by kernel_rfl
theorem u8_rg {a : Int} (w : (Lit.int .u8 a).wf = true) : 0 ≤ a ∧ a < 256 := by
  simp only [Lit.wf, IntKind.min, IntKind.max, IntKind.signed, IntKind.bits, Bool.and_eq_true] at w
  simp at w
  omega
theorem in64_of {a : Int} (w : (Lit.int .u64 a).wf = true) : in64 a = true := by
  simp only [Lit.wf, IntKind.min, IntKind.max, IntKind.signed, IntKind.bits, Bool.and_eq_true] at w
  simp at w
  exact in64_iff.2 ⟨by omega, by omega⟩
theorem in4_of {a b c d : Int} (ha : (Lit.int .u64 a).wf = true) (hb : (Lit.int .u64 b).wf = true) (hc : (Lit.int .u64 c).wf = true) (hd : (Lit.int .u64 d).wf = true) : in4 a b c d = true := by
  unfold in4
  rw [in64_of ha, in64_of hb, in64_of hc, in64_of hd]; rfl
end Go.Proofs.Ytpalajfcffdhoaa
