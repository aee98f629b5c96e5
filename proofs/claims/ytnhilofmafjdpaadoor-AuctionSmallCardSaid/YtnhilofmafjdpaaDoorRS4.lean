/- Texts merged: RS4, Tel. -/
import Derived.Test.YtnhilofmafjdpaaDoorRW
/- Chapter 9: the law AuctionReads. -/
namespace Go.Proofs.YtnhilofmafjdpaaDoor
open Go Go.Eng
noncomputable def gRds (C : List ByteArray → Bool) : List V → List Blk → Option (Bool × V × List Blk)
  | [.gs 1], [.glob 0 (.strs l), .rs _ 1 (.strs tb)] => some (pB (l = textsL) && C tb, .bool true, [])
  | _, _ => none
def rdsC (tb : List ByteArray) : Bool := decide (tb.length ≤ 100000)
noncomputable def hTab9 (C : List ByteArray → Bool) (N : NA) : HTab := addH 28 (gRds C) (hTabA N)
def dom9 : FuncId → Bool := fun f => Nat.beq f 28 || domA f
def gl9 : FuncId → List Nat := fun f => bif Nat.beq f 28 || (Nat.beq f 20 || Nat.beq f 13) then [0] else []
def nr9 : FuncId → Option Row := fun f => bif Nat.beq f 28 then some (.strs []) else some (.ints .u8 [])
theorem hTab9_ok : HTabOk Tryd.prog (hTab9 rdsC nA) := by
  refine addH_ok ?_ hTabA_ok
  intro args h c v nb hq hc
  unfold gRds at hq
  split at hq
  · cases hq
    simp only [Bool.and_eq_true, pB_iff, rdsC, decide_eq_true_eq] at hc
    obtain ⟨rfl, h1⟩ := hc
    exact ⟨.of Tryd.func28 (by kernel_rfl), by rw [List.append_nil]; exact reads_fn _ h1⟩
  · cases hq
noncomputable abbrev orc9 (C : List ByteArray → Bool) (N : NA) (T : PTab) (LL : FuncId → Loops) : Oracle := inl Tryd.prog ftab T LL 100 never dom9 (hOrcN gl9 nr9 (hTab9 C N)) 20
theorem orc9_ok {T : PTab} (hT : PTabOk Tryd.prog T) {LL : FuncId → Loops} (hL : ∀ f, loopsOk Tryd.prog (LL f)) : OracleOk Tryd.prog (orc9 rdsC nA T LL) := inl_ok (hOrcN_ok hTab9_ok) ftab_ok hT hL mixed 20
noncomputable def z1Lp : Code := loopOf 4 Tryd.f9
def z1T (nn : Bool) : Tm := ⟨mkS [(0, .gs 1), (2, .bool), (9, .gs 1), (10, .int .i64), (11, .int .i64)] 0 25, [.glob 0 strsT, .rs nn 1 strsT], []⟩
def z1X (nn : Bool) : Tm := ⟨mkS [(0, .gs 1), (2, .bool)] 0 25, [.glob 0 strsT, .rs nn 1 strsT], []⟩
theorem z1_round (C : List ByteArray → Bool) (N : NA) (nn : Bool) (rd : Option Nat) (b : Bool) (n i : Int) (tl tb : List ByteArray) : roundT Tryd.prog (orc9 C N emptyTab plainL) noLoops 100 2 rd 9 z1Lp (z1T nn) (z1X nn) [.b b, .i n, .i i, .ss tl, .ss tb] =
    bif decide (i < n) then atS tb i (fun s => bif decide (60 < Int.ofNat (lenS s)) then bif pB (tl = textsL) then some (.ret, [.b true, .ss tl, .ss tb], []) else none else some (.normal, [.b b, .i n, .i (wr .i64 (i + 1)), .ss tl, .ss tb], [])) else some (.exit 0, [.b b, .ss tl, .ss tb], []) := by cases nn <;> kernel_rfl
def lgS (tb : List ByteArray) : Bool := tb.any fun s => decide (60 < lenS s)
def z1Fin (b : Bool) (tl tb : List ByteArray) (q : Bool) : XE × List PV := if q = true then (.ret, [.b true, .ss tl, .ss tb]) else (.exit 0, [.b b, .ss tl, .ss tb])
theorem z1_loop (nn : Bool) (rd : Option Nat) (b : Bool) (tb : List ByteArray) (hl : tb.length ≤ 1000000) : ∀ i : Nat, i ≤ tb.length →
    SimC Tryd.prog 2 rd (.loop z1Lp) ((z1T nn).at [.b b, .i (tb.length : Int), .i (i : Int), .ss textsL, .ss tb]) (z1Fin b textsL tb (lgS (tb.drop i))).1 ((z1X nn).at (z1Fin b textsL tb (lgS (tb.drop i))).2) := by
  refine loop_of_rounds (C := orc9 rdsC nA emptyTab plainL) (L := noLoops) (N := 100) (me := 9) (T := z1T nn) (T' := z1X nn) (orc9_ok emptyTab_ok plainL_ok) mixed noLoops_ok (by cases nn <;> kernel_rfl) (by cases nn <;> kernel_rfl) (X := Nat)
    (fun i => [.b b, .i (tb.length : Int), .i (i : Int), .ss textsL, .ss tb]) (fun i => i ≤ tb.length) (fun i => tb.length - i) (fun i => z1Fin b textsL tb (lgS (tb.drop i))) ?_
  intro i hi
  have h := z1_round rdsC nA nn rd b (tb.length : Int) (i : Int) textsL tb
  rcases Nat.lt_or_ge i tb.length with hlt | hge
  · rw [decide_eq_true (show (i : Int) < (tb.length : Int) by omega), cond_true, atS_at hlt, wr64 (by omega) (by omega), pB_iff.2 rfl] at h
    have e : lgS (tb.drop i) = (decide (60 < lenS tb[i]) || lgS (tb.drop (i + 1))) := by rw [List.drop_eq_getElem_cons hlt]; rfl
    rw [e]
    by_cases hb : 60 < lenS tb[i]
    · rw [decide_eq_true (show 60 < Int.ofNat (lenS tb[i]) by show 60 < (lenS tb[i] : Int); omega)] at h
      rw [decide_eq_true hb]
      exact ⟨_, _, _, h, codes0, .inr ⟨by simp, rfl⟩⟩
    · rw [decide_eq_false (show ¬ 60 < Int.ofNat (lenS tb[i]) from fun e2 => hb (by have : 60 < (lenS tb[i] : Int) := e2; omega))] at h
      rw [decide_eq_false hb]
      exact ⟨_, _, _, h, codes0, .inl ⟨rfl, i + 1, rfl, by omega, by omega, by rw [Bool.false_or]⟩⟩
  · rw [decide_eq_false (show ¬ (i : Int) < (tb.length : Int) by omega), cond_false] at h
    refine ⟨_, _, _, h, codes0, .inr ⟨by simp, ?_⟩⟩
    rw [List.drop_eq_nil_of_le (by omega)]; rfl
noncomputable def z1Tree (LG : List ByteArray → Bool) (nn : Bool) : List PV → Fin
  | [.b b, .i n, .i i, .ss tl, .ss tb] => .br (decide (i = 0 ∧ n = Int.ofNat tb.length ∧ tb.length ≤ 1000000) && pB (tl = textsL)) (.br (LG tb) (.leaf .ret ((z1X nn).at [.b true, .ss tl, .ss tb])) (.leaf (.exit 0) ((z1X nn).at [.b b, .ss tl, .ss tb]))) .no
  | _ => .no
noncomputable def z1L (LG : List ByteArray → Bool) (nn : Bool) : Loops := sums (fun n => match n with | 4 => some (lsumF 2 (z1T nn) z1Lp (z1Tree LG nn)) | _ => none)
theorem z1L_ok (nn : Bool) : loopsOk Tryd.prog (z1L lgS nn) := by
  intro n g hg
  simp only [z1L, sums] at hg
  split at hg
  · cases hg
    refine lsumF_ok (by cases nn <;> kernel_rfl) (fun rd ps e1 st1 hq => ?_)
    unfold z1Tree at hq
    split at hq
    · rename_i b n i tl tb
      simp only [Fin.pick] at hq
      cases hc : (decide (i = 0 ∧ n = Int.ofNat tb.length ∧ tb.length ≤ 1000000) && pB (tl = textsL)) with
      | false => rw [hc] at hq; cases hq
      | true =>
        rw [hc, cond_true] at hq
        simp only [Bool.and_eq_true, decide_eq_true_eq, pB_iff] at hc
        obtain ⟨⟨rfl, rfl, h1⟩, rfl⟩ := hc
        have h := z1_loop nn rd b tb h1 0 (Nat.zero_le _)
        rw [List.drop_zero] at h
        unfold z1Fin at h
        cases hb : lgS tb with
        | true => rw [hb] at h hq; cases hq; exact h
        | false => rw [hb] at h hq; cases hq; exact h
    · cases hq
  · cases hg
theorem reads9_eval (C : List ByteArray → Bool) (N : NA) (LG : List ByteArray → Bool) (nn : Bool) (tb : List ByteArray) : evalFn Tryd.prog (orc9 C N emptyTab plainL) (z1L LG nn) 100 9 Tryd.f9 [.gs 1] (gH ++ [.rs nn 1 (.strs tb)]) (fun v _ => some v) =
    bif decide (110 < Int.ofNat tb.length) then bif pB (textsL = textsL) then some (.bool true) else none else cond (codesB [(z1Lp, z1Lp)]) (bif decide ((0 : Int) = 0 ∧ Int.ofNat tb.length = Int.ofNat tb.length ∧ tb.length ≤ 1000000) && pB (textsL = textsL) then bif LG tb then some (.bool true) else
      bif pB (textsL = textsL) && C tb then bif pB (textsL = textsL) then some (.bool true) else none else none else none) none := by cases nn <;> kernel_rfl
theorem auctionReads_true (nn : Bool) (tb : List ByteArray) : evalFn Tryd.prog (orc9 rdsC nA emptyTab plainL) (z1L lgS nn) 100 9 Tryd.f9 [.gs 1] (gH ++ [.rs nn 1 (.strs tb)]) (fun v _ => some v) = some (.bool true) := by
  rw [reads9_eval, pB_iff.2 rfl, lpCd]
  by_cases h : 110 < tb.length
  · rw [decide_eq_true (show 110 < Int.ofNat tb.length by show 110 < (tb.length : Int); omega)]; rfl
  · rw [decide_eq_false (show ¬ 110 < Int.ofNat tb.length from fun e => by have : 110 < (tb.length : Int) := e; omega), decide_eq_true (show (0 : Int) = 0 ∧ Int.ofNat tb.length = Int.ofNat tb.length ∧ tb.length ≤ 1000000 from ⟨rfl, rfl, by omega⟩), show rdsC tb = true from decide_eq_true (by omega)]
    cases lgS tb <;> rfl
end Go.Proofs.YtnhilofmafjdpaaDoor

/- Chapter 9: the law tells: its formula. -/
namespace Go.Proofs.YtnhilofmafjdpaaDoor
open Go Go.Eng
noncomputable def lentE (MB : Int → Int → Int) : Nat → Int → List Int → (List Int → Option V) → Option V
  | 0, _, l, Z => Z l
  | n + 1, i, l, Z => bif decide ((l ++ [MB 1 i]).length * 2 ≤ 70368744177664) then lentE MB n (wr .i64 (i + 1)) (l ++ [MB 1 i]) Z else none
noncomputable def fT : Option V := some (.bool false)
/-- What is compared; own: what the program was given. -/
noncomputable def cmpE (T : TN) (d : Int) (xs own : List Int) (Z : Option V) : Option V :=
  bif !decide (T.K.N.A d own = T.K.N.A d xs) then fT else bif !(eqB (T.K.N.OB d own) (T.K.N.OB d xs)) then fT else bif !decide (T.K.N.TV d own = T.K.N.TV d xs) then fT else bif T.K.KL (T.K.N.GV d own) then bif !T.K.EQ (T.K.N.GV d own) (T.K.N.GV d xs) then fT else
  bif !(decide (T.K.N.CL d own = T.K.N.CL d xs) && (decide (T.K.N.CD d own = T.K.N.CD d xs) && (decide (T.K.N.CR d own = T.K.N.CR d xs) && (decide (T.K.N.CS d own = T.K.N.CS d xs) && true)))) then fT else
  bif !decide (T.K.N.LI own = T.K.N.LI xs) then fT else bif !(eqB (T.K.N.LB own) (T.K.N.LB xs)) then fT else bif T.K.KB (T.K.N.BV d own) then bif !T.K.ES (T.K.N.BV d own) (T.K.N.BV d xs) then fT else
  bif !decide (T.K.N.E d own = T.K.N.E d xs) then fT else bif !decide (T.K.N.OE d own = T.K.N.OE d xs) then fT else bif !decide (T.K.N.TE d own = T.K.N.TE d xs) then fT else bif !decide (T.K.N.GE d own = T.K.N.GE d xs) then fT else
  bif !decide (T.K.N.CE d own = T.K.N.CE d xs) then fT else bif !decide (T.K.N.BE d own = T.K.N.BE d xs) then fT else Z else none else none
noncomputable def telZ (T : TN) (d : Int) (xs ws own : List Int) (q : Nat) : Option V :=
  bif decide (0 + q ≤ ws.length) then bif T.K.N.K d own then bif T.KR d xs then bif decide (0 + q ≤ ws.length) then bif T.K.N.K d own then bif T.KR d xs then bif decide (0 + q ≤ ws.length) then bif T.K.N.K d own then bif T.KR d xs then
  bif decide (0 + q ≤ ws.length) then bif T.K.N.K d own then bif T.KR d xs then bif decide (0 + q ≤ ws.length) then bif T.K.N.K d own then bif T.KR d xs then bif decide (0 + q ≤ ws.length) then bif T.K.N.KS own then bif T.K.N.KS xs then
  bif decide (0 + q ≤ ws.length) then bif pB (textsL = textsL) && (T.K.N.K d own && T.K.N.KT own) then bif T.KR d xs then cmpE T d xs own
    (bif decide (0 + q ≤ ws.length) then bif T.K.N.K d own then bif decide ((T.K.N.GV d own).length ≤ 70368744177664) then bif T.K.KL (T.K.N.GV d own) then bif T.K.EQ (T.K.N.GV d own) (T.K.N.GV d xs) then
      bif T.KP ws xs && decide (q = xs.length) then some (.bool true) else none else fT else none else none else none else none)
  else none else none else none else none else none else none else none else none else none else none else none else none else none else none else none else none else none else none else none else none else none
noncomputable def telE (T : TN) (MB : Int → Int → Int) (d : Int) (xs : List Int) : Option V :=
  bif decide (0 ≤ (0 : Int) ∧ 0 ≤ wr .i64 (Int.ofNat xs.length + 12) ∧ wr .i64 (Int.ofNat xs.length + 12) * 2 ≤ 140737488355328) then bif decide (xs.length * 2 ≤ 70368744177664) then
  lentE MB 12 0 xs (fun ws => bif decide (0 ≤ (0 : Int) ∧ 0 ≤ Int.ofNat xs.length ∧ Int.ofNat xs.length ≤ Int.ofNat ws.length) then telZ T d xs ws (List.take ((Int.ofNat xs.length).toNat - 0) (List.drop 0 ws)) ((Int.ofNat xs.length).toNat - 0) else none) else none else none
theorem tells_eval (T : TN) (MB : Int → Int → Int) (nn : Bool) (d : Int) (xs : List Int) : evalFn Tryd.prog (orcTl T (tabMb MB) plainL) noLoops 100 16 Tryd.f16 [.int .u8 d, .gs 1] (gH ++ [.rs nn 1 (.ints .u8 xs)]) (fun v _ => some v) = telE T MB d xs := by cases nn <;> kernel_rfl
end Go.Proofs.YtnhilofmafjdpaaDoor
