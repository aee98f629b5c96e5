/- Texts merged: Tx3, Tx4, Rr1. -/
import Derived.Test.YtpalajfcffdhoaaDoorTx1
import Derived.Test.YtpalajfcffdhoaaDoorDlQ
/- Chapter 6: the law DealTexts: its formula. -/
namespace Go.Proofs.YtpalajfcffdhoaaDoor
open Go Go.Eng Go.Deal
structure DQ where
  a : Int
  b : Int
  c : Int
  d : Int
structure D8 where
  ok : List Int → Bool
  m0 : List Int → Int
  m1 : List Int → Int
  m2 : List Int → Int
  m3 : List Int → Int
  u : Int → Int → Int → Int → Bool
  pb : Int → Int → Int → Int → Bool
  tx : Int → Int → Int → Int → ByteArray
  le : Int → Int → Int → Int → Int
  rd : ByteArray → DQ
  re : ByteArray → Int
section
variable (D : D8)
def hPar : List V → Option (Bool × V)
  | [.agg [.int .u64 a, .int .u64 b, .int .u64 c, .int .u64 d]] => some (D.u a b c d, .bool (D.pb a b c d))
  | _ => none
def hTxt : List V → Option (Bool × V)
  | [.agg [.int .u64 a, .int .u64 b, .int .u64 c, .int .u64 d]] => some (D.u a b c d, .tuple [.str (D.tx a b c d), .int .i64 (D.le a b c d)])
  | _ => none
def hRea : List V → Option (Bool × V)
  | [.str s] => some (true, .tuple [q4 (D.rd s).a (D.rd s).b (D.rd s).c (D.rd s).d, .int .i64 (D.re s)])
  | _ => none
def hAwa : List V → Option (Bool × V)
  | [] => some (true, .bool true)
  | _ => none
def tab8 : PTab := addTab 8 (hPar D) (addTab 6 (hTxt D) (addTab 7 (hRea D) (addTab 9 hAwa emptyTab)))
def gDl : List V → List Blk → Option (Bool × V × List Blk)
  | [.gs 0], [.rs _ 1 (.ints .u8 ls)] => some (D.ok ls, q4 (D.m0 ls) (D.m1 ls) (D.m2 ls) (D.m3 ls), [])
  | _, _ => none
def hTab8 : HTab := addH 27 (gDl D) (hTabN n6)
def dom8 : FuncId → Bool := fun f => Nat.beq f 63 || Nat.beq f 27
noncomputable abbrev orc8 : Oracle := inl Tryd.prog ftab (tab8 D) plainL 100 never dom8 (hOrcP nrN (hTab8 D)) 20
def eqQ (p q : DQ) : Bool := decide (p.a = q.a) && (decide (p.b = q.b) && (decide (p.c = q.c) && (decide (p.d = q.d) && true)))
def D8.U (q : DQ) : Bool := D.u q.a q.b q.c q.d
def D8.Pb (q : DQ) : Bool := D.pb q.a q.b q.c q.d
def D8.Le (q : DQ) : Int := D.le q.a q.b q.c q.d
def D8.Tx (q : DQ) : ByteArray := D.tx q.a q.b q.c q.d
def D8.P (ls : List Int) (w : Int) : DQ := ⟨anI (D.m0 ls) w, anI (D.m1 ls) w, anI (D.m2 ls) w, anI (D.m3 ls) w⟩
def truV : Option V := some (.bool true)
def txs2 (s : ByteArray) (R : DQ) : Option V := bif decide (D.re s = 0) then bif D.U R then bif decide (D.Le R = 0) then bif strEq (D.Tx R) s then bif D.U R then bif D.Pb R then truV else flsV else none else flsV else flsV else none else truV
def txs1 (s : ByteArray) (P Q : DQ) : Option V := bif D.U P then bif D.U Q then bif !decide (D.Le P = 0) then flsV else bif !decide (D.Le Q = 0) then flsV else bif !decide (D.re (D.Tx P) = 0) then flsV else bif !eqQ (D.rd (D.Tx P)) P then flsV else
  bif !eqB (strEq (D.Tx P) (D.Tx Q)) (eqQ P Q) then flsV else txs2 D s (D.rd s) else none else none
theorem texts_eval (nn : Bool) (ls : List Int) (a b : Int) (s : ByteArray) : evalFn Tryd.prog (orc8 D) noLoops 100 3 Tryd.f3 [.gs 0, .int .u64 a, .int .u64 b, .str s] [.rs nn 1 (.ints .u8 ls)] (fun v _ => some v) =
    bif D.ok ls then bif D.ok ls then txs1 D s (D.P ls a) (D.P ls b) else none else none := by cases nn <;> kernel_rfl
end
end Go.Proofs.YtpalajfcffdhoaaDoor

/- Chapter 6: the law DealTexts answers true. -/
namespace Go.Proofs.YtpalajfcffdhoaaDoor
open Go Go.Eng Go.Deal
noncomputable def okB (ls : List Int) : Bool := pB (okV ls)
def DQ.n (a b c d : Nat) : DQ := ⟨a, b, c, d⟩
def qOf : Option (Nat × Nat × Nat × Nat) → DQ
  | some (a, b, c, d) => DQ.n a b c d
  | none => ⟨0, 0, 0, 0⟩
def eOf : Option (Nat × Nat × Nat × Nat) → Int
  | some _ => 0
  | none => 61
noncomputable def rdQ (s : ByteArray) : DQ := qOf (readN s.data.toList)
noncomputable def reI (s : ByteArray) : Int := eOf (readN s.data.toList)
theorem resR_is (r : Option (Nat × Nat × Nat × Nat)) : resR r = .tuple [q4 (qOf r).a (qOf r).b (qOf r).c (qOf r).d, .int .i64 (eOf r)] := by
  cases r with
  | none => rfl
  | some p => obtain ⟨a, b, c, d⟩ := p; rfl
noncomputable def d8 : D8 := ⟨okB, m0, m1, m2, m3, in4, parB, txI, leI, rdQ, reI⟩
theorem tab8_ok : PTabOk Tryd.prog (tab8 d8) := by
  refine addTab_ok ?_ (addTab_ok ?_ (addTab_ok ?_ (addTab_ok ?_ emptyTab_ok)))
  · intro args c v h hc
    unfold hPar at h; split at h
    · cases h; exact par_p hc
    · cases h
  · intro args c v h hc
    unfold hTxt at h; split at h
    · cases h; exact text_p hc
    · cases h
  · intro args c v h hc
    unfold hRea at h; split at h
    · rename_i s
      cases h
      have e := read_p s
      rw [resR_is] at e
      exact e
    · cases h
  · intro args c v h hc
    unfold hAwa at h; split at h
    · cases h; exact awake_p
    · cases h
theorem hTab8_ok : HTabOk Tryd.prog (hTab8 d8) := by
  refine addH_ok ?_ hTabN_ok
  intro args h c v nb hq hc
  unfold gDl at hq
  split at hq
  · cases hq
    exact ⟨.of Tryd.func27 (by kernel_rfl), by rw [List.append_nil]; exact dl_fn _ (pB_iff.1 hc)⟩
  · cases hq
theorem orc8_ok : OracleOk Tryd.prog (orc8 d8) := inl_ok (hOrcP_ok hTab8_ok) ftab_ok tab8_ok plainL_ok mixed 20
theorem eqQ_iff {p q : DQ} : eqQ p q = true ↔ p = q := by
  obtain ⟨_, _, _, _⟩ := p; obtain ⟨_, _, _, _⟩ := q
  unfold eqQ
  simp [Bool.and_eq_true]
theorem torn {ls : List Int} {w : Int} (hw : 0 ≤ w ∧ w < 18446744073709551616) : ∃ a b c d : Nat, d8.P ls w = DQ.n a b c d ∧ PartD a b c d := by
  have R := made_right ls
  obtain ⟨w, rfl⟩ : ∃ x : Nat, w = x := ⟨w.toNat, by omega⟩
  refine ⟨_, _, _, _, ?_, R.toPartD.sub (nd_sub (hnd ls 0) w) (nd_sub (hnd ls 1) w) (nd_sub (hnd ls 2) w) (nd_sub (hnd ls 3) w)⟩
  unfold D8.P DQ.n
  rw [show d8.m0 = m0 from rfl, show d8.m1 = m1 from rfl, show d8.m2 = m2 from rfl, show d8.m3 = m3 from rfl]
  unfold m0 m1 m2 m3
  rw [anI_n (lt64 R.la) (by omega), anI_n (lt64 R.lb) (by omega), anI_n (lt64 R.lc) (by omega), anI_n (lt64 R.ld) (by omega)]
theorem d8_u : d8.u = in4 := rfl
theorem d8_U (q : DQ) : d8.U q = in4 q.a q.b q.c q.d := by unfold D8.U; rw [d8_u]
theorem d8_pb : d8.pb = parB := rfl
theorem U_n {a b c d : Nat} (h : PartD a b c d) : d8.U (DQ.n a b c d) = true := by
  rw [d8_U]
  exact in4_lt h.la h.lb h.lc h.ld
theorem Pb_n {a b c d : Nat} (h : PartD a b c d) : d8.Pb (DQ.n a b c d) = true := by unfold D8.Pb; rw [d8_pb]; exact parB_iff.2 h
theorem Le_n {a b c d : Nat} (h : PartD a b c d) : d8.Le (DQ.n a b c d) = 0 := by
  show leI (a : Int) (b : Int) (c : Int) (d : Int) = 0
  unfold leI
  rw [parB_iff.2 h]; rfl
theorem Tx_n {a b c d : Nat} (h : PartD a b c d) : d8.Tx (DQ.n a b c d) = N4.bA (txL a b c d) := by
  show txI (a : Int) (b : Int) (c : Int) (d : Int) = _
  unfold txI
  rw [parB_iff.2 h]; rfl
theorem rd_n {a b c d : Nat} (h : PartD a b c d) : d8.rd (N4.bA (txL a b c d)) = DQ.n a b c d ∧ d8.re (N4.bA (txL a b c d)) = 0 := by
  have e := read_text h
  refine ⟨?_, ?_⟩
  · show qOf (readN (N4.bA (txL a b c d)).data.toList) = _
    rw [show (N4.bA (txL a b c d)).data.toList = txL a b c d from rfl, e]; rfl
  · show eOf (readN (N4.bA (txL a b c d)).data.toList) = _
    rw [show (N4.bA (txL a b c d)).data.toList = txL a b c d from rfl, e]; rfl
theorem txs2_true (s : ByteArray) : txs2 d8 s (d8.rd s) = truV := by
  unfold txs2
  cases hr : readN s.data.toList with
  | none =>
    have e : d8.re s = 61 := by show eOf (readN s.data.toList) = 61; rw [hr]; rfl
    rw [e, decide_eq_false (by omega)]; rfl
  | some p =>
    obtain ⟨a, b, c, d⟩ := p
    obtain ⟨h1, h2⟩ := read_only hr
    have e : d8.re s = 0 := by show eOf (readN s.data.toList) = 0; rw [hr]; rfl
    have q : d8.rd s = DQ.n a b c d := by show qOf (readN s.data.toList) = _; rw [hr]; rfl
    have hs : s = N4.bA (txL a b c d) := by rw [← h1]; rfl
    rw [e, q, U_n h2, Le_n h2, Pb_n h2, Tx_n h2, ← hs, strEq_iff.2 rfl]
    rfl
theorem texts_true (nn : Bool) {ls : List Int} (hv : okV ls) {a b : Int} (ha : 0 ≤ a ∧ a < 18446744073709551616) (hb : 0 ≤ b ∧ b < 18446744073709551616) (s : ByteArray) :
    evalFn Tryd.prog (orc8 d8) noLoops 100 3 Tryd.f3 [.gs 0, .int .u64 a, .int .u64 b, .str s] [.rs nn 1 (.ints .u8 ls)] (fun v _ => some v) = some (.bool true) := by
  refine (texts_eval d8 nn ls a b s).trans ?_
  obtain ⟨p0, p1, p2, p3, hP, hp⟩ := torn (ls := ls) ha
  obtain ⟨q0, q1, q2, q3, hQ, hq⟩ := torn (ls := ls) hb
  rw [show d8.ok ls = true from pB_iff.2 hv, cond_true, cond_true, hP, hQ]
  unfold txs1
  have h3 : eqB (strEq (N4.bA (txL p0 p1 p2 p3)) (N4.bA (txL q0 q1 q2 q3))) (eqQ (DQ.n p0 p1 p2 p3) (DQ.n q0 q1 q2 q3)) = true := by
    rw [← eqB_eq, beq_iff_eq, Bool.eq_iff_iff, strEq_iff, eqQ_iff]
    constructor
    · intro h
      have := congrArg d8.rd h
      rw [(rd_n hp).1, (rd_n hq).1] at this
      exact this
    · intro h
      unfold DQ.n at h
      injection h with h0 h1 h2 h3
      rw [show p0 = q0 by omega, show p1 = q1 by omega, show p2 = q2 by omega, show p3 = q3 by omega]
  rw [U_n hp, U_n hq, Le_n hp, Le_n hq, Tx_n hp, Tx_n hq, (rd_n hp).1, (rd_n hp).2, eqQ_iff.2 rfl, h3, txs2_true]
  rfl
end Go.Proofs.YtpalajfcffdhoaaDoor

/- Chapter 6: the reference's Read: a round of its loop, at each literal seat. -/
namespace Go.Proofs.YtpalajfcffdhoaaDoor
open Go Go.Eng Go.Deal
noncomputable def rrLp : Code := loopOf 7 Tryd.f26
def rrT : Tm := ⟨mkS [(0, .str), (2, .ptr 0 0), (3, .lit .i64 0), (4, .ptr 1 0), (5, .int .i64), (6, .int .i64), (7, .int .i64)] 0 66, [.own 24 z64, .own 24 u64t], []⟩
def rrX : Tm := ⟨mkS [(2, .ptr 0 0), (3, .int .i64), (4, .ptr 1 0), (5, .int .i64)] 0 66, [.own 24 z64, .own 24 u64t], []⟩
section
variable (E : ES)
def tabR : PTab := addTab 49 (sPa E) (addTab 50 (sPb E) N4.tabI)
noncomputable abbrev orcR : Oracle := N4.orcS (tabR E) plainL
def rrPs (s : ByteArray) (k fr i : Int) (q : DQ) : List PV := [.s s, .i k, .i fr, .i i, .i q.a, .i q.b, .i q.c, .i q.d]
def rrX61 (k : Int) (q : DQ) : RT := some (.ret, [.i 61, .i k, .i q.a, .i q.b, .i q.c, .i q.d], [])
def rrP (s : ByteArray) (k fr i : Int) (q : DQ) (K : Int → RT) : RT := bif decide (0 ≤ fr ∧ fr ≤ i ∧ i ≤ Int.ofNat s.data.toList.length) then bif E.pk (extS s fr.toNat i.toNat) then
  bif !decide (E.pe (extS s fr.toNat i.toNat) = 0) then rrX61 k q else K (E.pv (extS s fr.toNat i.toNat)) else none else none
def rrR (s : ByteArray) (k fr i : Int) (q : DQ) (K : Int → RT) : RT := bif decide (i ≤ Int.ofNat s.data.toList.length) then
    bif decide (i < Int.ofNat s.data.toList.length) then N4.chAt s i fun b => bif !decide ((b.toNat : Int) = 32) then some (.normal, rrPs s k fr (wr .i64 (i + 1)) q, []) else rrP E s k fr i q K
    else rrP E s k fr i q K
  else some (.exit 0, [.i 0, .i k, .i q.a, .i q.b, .i q.c, .i q.d], [])
theorem rr_0 (rd : Option Nat) (s : ByteArray) (fr i : Int) (q : DQ) : roundT Tryd.prog (orcR E) noLoops 100 0 rd 26 rrLp rrT rrX (rrPs s 0 fr i q) = rrR E s 0 fr i q fun v => some (.normal, rrPs s 1 (wr .i64 (i + 1)) (wr .i64 (i + 1)) ⟨v, q.b, q.c, q.d⟩, []) := by kernel_rfl
theorem rr_1 (rd : Option Nat) (s : ByteArray) (fr i : Int) (q : DQ) : roundT Tryd.prog (orcR E) noLoops 100 0 rd 26 rrLp rrT rrX (rrPs s 1 fr i q) = rrR E s 1 fr i q fun v => some (.normal, rrPs s 2 (wr .i64 (i + 1)) (wr .i64 (i + 1)) ⟨q.a, v, q.c, q.d⟩, []) := by kernel_rfl
theorem rr_2 (rd : Option Nat) (s : ByteArray) (fr i : Int) (q : DQ) : roundT Tryd.prog (orcR E) noLoops 100 0 rd 26 rrLp rrT rrX (rrPs s 2 fr i q) = rrR E s 2 fr i q fun v => some (.normal, rrPs s 3 (wr .i64 (i + 1)) (wr .i64 (i + 1)) ⟨q.a, q.b, v, q.d⟩, []) := by kernel_rfl
theorem rr_3 (rd : Option Nat) (s : ByteArray) (fr i : Int) (q : DQ) : roundT Tryd.prog (orcR E) noLoops 100 0 rd 26 rrLp rrT rrX (rrPs s 3 fr i q) = rrR E s 3 fr i q fun v => some (.normal, rrPs s 4 (wr .i64 (i + 1)) (wr .i64 (i + 1)) ⟨q.a, q.b, q.c, v⟩, []) := by kernel_rfl
theorem rr_4 (rd : Option Nat) (s : ByteArray) (fr i : Int) (q : DQ) : roundT Tryd.prog (orcR E) noLoops 100 0 rd 26 rrLp rrT rrX (rrPs s 4 fr i q) = rrR E s 4 fr i q fun _ => rrX61 4 q := by kernel_rfl
noncomputable def rrTr (C : ByteArray → Int → Int → Int → DQ → Bool) (OK : ByteArray → Bool) (EE SE SK : ByteArray → Int) (QE QK : ByteArray → DQ) : List PV → Fin
  | [.s s, .i k, .i fr, .i i, .i a, .i b, .i c, .i d] => .br (C s k fr i ⟨a, b, c, d⟩) (.br (OK s) (.leaf (.exit 0) (rrX.at [.i 0, .i (SK s), .i (QK s).a, .i (QK s).b, .i (QK s).c, .i (QK s).d])) (.leaf .ret (rrX.at [.i (EE s), .i (SE s), .i (QE s).a, .i (QE s).b, .i (QE s).c, .i (QE s).d]))) .no
  | _ => .no
noncomputable def rrL (C : ByteArray → Int → Int → Int → DQ → Bool) (OK : ByteArray → Bool) (EE SE SK : ByteArray → Int) (QE QK : ByteArray → DQ) : Loops := sums (fun n => match n with | 7 => some (lsumF 0 rrT rrLp (rrTr C OK EE SE SK QE QK)) | _ => none)
def rrF (q : DQ) : Option V := bif E.u4 q.a q.b q.c q.d then bif !E.pb q.a q.b q.c q.d then e61 else some (.tuple [q4 q.a q.b q.c q.d, .int .i64 0]) else none
theorem rread_eval (C : ByteArray → Int → Int → Int → DQ → Bool) (OK : ByteArray → Bool) (EE SE SK : ByteArray → Int) (QE QK : ByteArray → DQ) (s : ByteArray) : evalFn Tryd.prog (orcR E) (rrL C OK EE SE SK QE QK) 100 26 Tryd.f26 [.str s] [] (fun v _ => some v) =
    bif decide (Int.ofNat s.data.toList.length < 2) then e61 else bif decide (0 ≤ (0 : Int) ∧ (0 : Int) ≤ 2 ∧ 2 ≤ Int.ofNat s.data.toList.length) then bif !strEq (extS s 0 2) ⟨⟨[78, 58]⟩⟩ then e61 else
      cond (codesB [(rrLp, rrLp)]) (bif C s 0 2 2 ⟨0, 0, 0, 0⟩ then bif OK s then bif !decide (SK s = 4) then e61 else rrF E (QK s) else some (.tuple [q4 0 0 0 0, .int .i64 (EE s)]) else none) none else none := by kernel_rfl
end
end Go.Proofs.YtpalajfcffdhoaaDoor
