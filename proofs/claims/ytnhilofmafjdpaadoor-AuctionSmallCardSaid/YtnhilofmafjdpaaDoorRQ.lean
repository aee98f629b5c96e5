/- Texts merged: RQ, RQ2. -/
import Derived.Test.YtnhilofmafjdpaaDoorRT5
import Derived.Test.YtnhilofmafjdpaaDoorQp
/- Chapter 9: the reference's Read: what it calls, templates. -/
namespace Go.Proofs.YtnhilofmafjdpaaDoor
open Go Go.Eng
theorem rread8_eval (s : ByteArray) : evalFn Tryd.prog (orcE emptyTab plainL) noLoops 100 73 Tryd.f73 [.str s] [] (fun v _ => some v) = rdGo textsL 0 s := by kernel_rfl
theorem rread8_p (s : ByteArray) : FnPure Tryd.prog 73 [.str s] (.tuple [.int .u8 (rdC s), .int .i64 (rdE s)]) :=
  fnPure_of_eval (orcE_ok emptyTab_ok plainL_ok) mixed Tryd.func73 (by kernel_rfl) noLoops_ok (by rw [rread8_eval, rdGo_eq]; rfl) rfl rfl
def gRd8 (RC RE : ByteArray → Int) : List V → Option (Bool × V)
  | [.str s] => some (true, .tuple [.int .u8 (RC s), .int .i64 (RE s)])
  | _ => none
def tabR8 (RC RE : ByteArray → Int) : PTab := addTab 73 (gRd8 RC RE) emptyTab
theorem tabR8_ok : PTabOk Tryd.prog (tabR8 rdC rdE) := by
  refine addTab_ok ?_ emptyTab_ok
  intro args c v h _
  unfold gRd8 at h
  split at h
  · cases h; exact rread8_p _
  · cases h
/-- What the reference's Read is made of. -/
structure QR where
  KR : Int → List Int → Bool
  BE : Int → List Int → Int
  BV : Int → List Int → List ByteArray
  RC : ByteArray → Int
  RE : ByteArray → Int
def qR : QR := ⟨kR, fun d l => tblE (fol d l), fun d l => tblV (fol d l) d l, rdC, rdE⟩
def gQ44 (Q : QR) : List V → List Blk → Option (Bool × V × List Blk)
  | [.int .u8 d, .gs 0], [.rs _ 1 (.ints .u8 xs)] => some (Q.KR d xs, .tuple [.gs 1, .int .i64 (Q.BE d xs)], [.grow false 9 1 (.strs (Q.BV d xs))])
  | _, _ => none
def hTabR4 (Q : QR) : HTab := addH 44 (gQ44 Q) emptyH
theorem hTabR4_ok : HTabOk Tryd.prog (hTabR4 qR) := by
  refine addH_ok ?_ emptyH_ok
  intro args h c v nb hq hc
  unfold gQ44 at hq
  split at hq
  · cases hq; exact ⟨.of Tryd.func44 (by kernel_rfl), rtable_fn _ hc⟩
  · cases hq
def glNo : FuncId → List Nat := fun _ => []
def is44 : FuncId → Bool := fun f => Nat.beq f 44
noncomputable abbrev orcR4 (Q : QR) (LL : FuncId → Loops) : Oracle := inl Tryd.prog ftab (tabR8 Q.RC Q.RE) LL 100 never is44 (hOrcN glNo nrB (hTabR4 Q)) 20
theorem orcR4_ok {LL : FuncId → Loops} (hL : ∀ f, loopsOk Tryd.prog (LL f)) : OracleOk Tryd.prog (orcR4 qR LL) := inl_ok (hOrcN_ok hTabR4_ok) ftab_ok tabR8_ok hL mixed 20
noncomputable def w1Lp : Code := loopOf 5 Tryd.f54
noncomputable def w2Lp : Code := loopOf 12 Tryd.f54
noncomputable def w3Lp : Code := loopOf 25 Tryd.f54
def w1T (nn : Bool) : Tm := ⟨mkS [(0, .gs 0), (2, .int .u8), (3, .nil), (4, .int .i64), (5, .int .u8), (6, .gs 1), (7, .bool), (8, .int .i64)] 0 116, [.rs nn 1 strsT, .grow false 5 1 u8s], []⟩
def w1X (nn : Bool) : Tm := ⟨mkS [(0, .gs 0), (2, .int .u8), (3, .nil), (4, .int .i64), (5, .int .u8), (6, .gs 1)] 0 116, [.rs nn 1 strsT, .grow false 5 1 u8s], []⟩
def w2T (nn : Bool) : Tm := ⟨mkS [(0, .gs 0), (2, .int .u8), (3, .nil), (4, .int .i64), (5, .int .u8), (6, .gs 1), (7, .bool), (8, .int .i64), (9, .str), (10, .str), (11, .int .i64)] 0 116, [.rs nn 1 strsT, .grow false 5 1 u8s], []⟩
def w2X (nn : Bool) : Tm := ⟨mkS [(0, .gs 0), (2, .int .u8), (3, .nil), (4, .int .i64), (5, .int .u8), (6, .gs 1), (7, .bool), (8, .int .i64), (10, .str)] 0 116, [.rs nn 1 strsT, .grow false 5 1 u8s], []⟩
def w3T (nn : Bool) : Tm := ⟨mkS [(0, .gs 0), (2, .int .u8), (3, .nil), (4, .int .i64), (5, .int .u8), (6, .gs 1), (14, .gs 2), (16, .int .i64)] 0 116, [.rs nn 1 strsT, .grow false 5 1 u8s, .grow false 9 1 strsT], []⟩
def w3X (nn : Bool) : Tm := ⟨mkS [(2, .int .u8), (3, .nil), (4, .int .i64), (5, .int .u8), (6, .gs 1)] 0 116, [.rs nn 1 strsT, .grow false 5 1 u8s], []⟩
end Go.Proofs.YtnhilofmafjdpaaDoor

/- Chapter 9: the reference's Read: the loop over a cell's bytes. -/
namespace Go.Proofs.YtnhilofmafjdpaaDoor
open Go Go.Eng
noncomputable def chAt {α : Type} (s : ByteArray) (i : Int) (K : UInt8 → Option α) : Option α := bif decide (0 ≤ i) then (match s.data.toList[i.toNat]? with | some c => K c | none => none) else none
theorem chAt_at {α : Type} {s : ByteArray} {i : Nat} (h : i < s.data.toList.length) {K : UInt8 → Option α} : chAt s (i : Int) K = K s.data.toList[i] := by
  unfold chAt
  rw [decide_eq_true (show (0 : Int) ≤ (i : Int) by omega), show (i : Int).toNat = i from rfl, List.getElem?_eq_getElem h]; rfl
theorem w2_round (Q : QR) (nn : Bool) (rd : Option Nat) (v e d i k : Int) (en : Bool) (ln w : ByteArray) (tb : List ByteArray) (l : List Int) : roundT Tryd.prog (orcR4 Q plainL) noLoops 100 1 rd 54 w2Lp (w2T nn) (w2X nn) [.i v, .i e, .i d, .b en, .i i, .s ln, .s w, .i k, .ss tb, .l l] =
    bif decide (k < wr .i64 (wr .i64 (5 * i.tmod 4) + 5)) then chAt ln k (fun c => bif !decide ((c.toNat : Int) = 32) then chAt ln k (fun c => bif decide (lenS w + 1 ≤ 9223372036854775807) then
      some (.normal, [.i v, .i e, .i d, .b en, .i i, .s ln, .s ⟨(w.data.toList ++ (bytesOf [(c.toNat : Int)]).data.toList).toArray⟩, .i (wr .i64 (k + 1)), .ss tb, .l l], []) else none)
      else some (.exit 2, [.i v, .i e, .i d, .b en, .i i, .s w, .ss tb, .l l], [])) else some (.exit 2, [.i v, .i e, .i d, .b en, .i i, .s w, .ss tb, .l l], []) := by cases nn <;> kernel_rfl
def snS (w : ByteArray) (l : List UInt8) : ByteArray := ⟨(w.data.toList ++ l).toArray⟩
theorem snS_snS (w : ByteArray) (a b : List UInt8) : snS (snS w a) b = snS w (a ++ b) := by unfold snS; simp
theorem snS_nil (w : ByteArray) : snS w [] = w := by unfold snS; simp
theorem bytesOf_one (c : UInt8) : (bytesOf [(c.toNat : Int)]).data.toList = [c] := by
  unfold bytesOf
  simp
theorem w2_loop (nn : Bool) (rd : Option Nat) (v e d : Int) (i : Nat) (en : Bool) (ln : ByteArray) (tb : List ByteArray) (l : List Int) (hi : i ≤ 1000000000) (hln : ln.data.toList.length = 20) : ∀ x : Nat × ByteArray, (5 * (i % 4) ≤ x.1 ∧ x.1 ≤ 5 * (i % 4) + 5 ∧ lenS x.2 ≤ x.1) →
    SimC Tryd.prog 1 rd (.loop w2Lp) ((w2T nn).at [.i v, .i e, .i d, .b en, .i (i : Int), .s ln, .s x.2, .i (x.1 : Int), .ss tb, .l l]) (.exit 2) ((w2X nn).at [.i v, .i e, .i d, .b en, .i (i : Int), .s (snS x.2 (wdL ((ln.data.toList.drop x.1).take (5 * (i % 4) + 5 - x.1)))), .ss tb, .l l]) := by
  refine loop_of_rounds (C := orcR4 qR plainL) (L := noLoops) (N := 100) (me := 54) (T := w2T nn) (T' := w2X nn) (orcR4_ok plainL_ok) mixed noLoops_ok (by cases nn <;> kernel_rfl) (by cases nn <;> kernel_rfl) (X := Nat × ByteArray)
    (fun x => [.i v, .i e, .i d, .b en, .i (i : Int), .s ln, .s x.2, .i (x.1 : Int), .ss tb, .l l]) (fun x => 5 * (i % 4) ≤ x.1 ∧ x.1 ≤ 5 * (i % 4) + 5 ∧ lenS x.2 ≤ x.1) (fun x => 5 * (i % 4) + 5 - x.1)
    (fun x => (.exit 2, [.i v, .i e, .i d, .b en, .i (i : Int), .s (snS x.2 (wdL ((ln.data.toList.drop x.1).take (5 * (i % 4) + 5 - x.1)))), .ss tb, .l l])) ?_
  rintro ⟨k, w⟩ ⟨h1, h2, h3⟩
  dsimp only at h1 h2 h3 ⊢
  have h := w2_round qR nn rd v e d (i : Int) (k : Int) en ln w tb l
  have ht : (i : Int).tmod 4 = ((i % 4 : Nat) : Int) := by rw [Int.tmod_eq_emod_of_nonneg (by omega)]; omega
  rw [ht, wr64 (n := 5 * ((i % 4 : Nat) : Int)) (by omega) (by omega), wr64 (n := 5 * ((i % 4 : Nat) : Int) + 5) (by omega) (by omega)] at h
  rcases Nat.lt_or_ge k (5 * (i % 4) + 5) with hlt | hge
  · have hk : k < ln.data.toList.length := by omega
    rw [decide_eq_true (show (k : Int) < 5 * ((i % 4 : Nat) : Int) + 5 by omega), cond_true, chAt_at hk, chAt_at hk, decide_eq_true (show lenS w + 1 ≤ 9223372036854775807 by omega), wr64 (n := (k : Int) + 1) (by omega) (by omega), bytesOf_one] at h
    rw [List.drop_eq_getElem_cons hk, show 5 * (i % 4) + 5 - k = (5 * (i % 4) + 5 - (k + 1)) + 1 by omega, List.take_succ_cons]
    unfold wdL
    rw [List.takeWhile_cons]
    by_cases hc : ln.data.toList[k] = 32
    · rw [hc] at h
      rw [hc]
      refine ⟨_, _, _, h, codes0, .inr ⟨by simp, ?_⟩⟩
      rw [show ((32 : UInt8) != 32) = false from rfl]
      simp only [Bool.false_eq_true, if_false, snS_nil]
    · have hb : (ln.data.toList[k] != 32) = true := by simpa using hc
      have hn : decide (((ln.data.toList[k]).toNat : Int) = 32) = false := by
        refine decide_eq_false fun e2 => hc ?_
        have e3 : (ln.data.toList[k]).toNat = 32 := by omega
        exact UInt8.toNat_inj.1 e3
      rw [hn] at h
      rw [hb, if_pos rfl]
      refine ⟨_, _, _, h, codes0, .inl ⟨rfl, (k + 1, snS w [ln.data.toList[k]]), rfl, ⟨by simp only; omega, by simp only; omega, ?_⟩, by simp only; omega, ?_⟩⟩
      · unfold lenS snS at *
        simp only [List.length_append, List.length_singleton]; omega
      · dsimp only
        rw [snS_snS]; rfl
  · rw [decide_eq_false (show ¬ (k : Int) < 5 * ((i % 4 : Nat) : Int) + 5 by omega), cond_false] at h
    refine ⟨_, _, _, h, codes0, .inr ⟨by simp, ?_⟩⟩
    rw [show 5 * (i % 4) + 5 - k = 0 by omega, List.take_zero]
    unfold wdL
    simp only [List.takeWhile_nil, snS_nil]
end Go.Proofs.YtnhilofmafjdpaaDoor
