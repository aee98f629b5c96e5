/- Texts merged: Ri2, Ri3, Ch. -/
import Derived.Test.YtojlmpcbplepcaaGreatCrs
/- Chapter 10: Right: its loop as a whole. -/
namespace Go.Proofs.YtojlmpcbplepcaaGreat
open Go Go.Eng
def crsP : List PV → Option (CD × List PV)
  | .i d :: .i p0 :: .i p1 :: .i p2 :: .i p3 :: .i a0 :: .i a1 :: .i a2 :: .i a3 :: .i h :: .i f0 :: .i f1 :: .i f2 :: .i f3 :: r => some (⟨d, ⟨p0, p1, p2, p3⟩, ⟨a0, a1, a2, a3⟩, h, ⟨f0, f1, f2, f3⟩⟩, r)
  | _ => none
theorem crsP_ok {l : List PV} {s : CD} {r : List PV} (h : crsP l = some (s, r)) : l = s.pv r := by
  unfold crsP at h
  split at h
  · cases h; rfl
  · cases h
structure NR where
  RB : Int → List Int → List Int → Bool
  RM : Int → List Int → List Int → Nat
  OK : List Int → Bool
def nR : NR := ⟨fun d xs ac => (rtF d xs ac xs 0 0).1, fun d xs ac => (rtF d xs ac xs 0 0).2, okL⟩
noncomputable def riTree (N : NR) (n1 n2 : Bool) : List PV → Fin
  | .b r :: .i m :: .i n :: .i i :: .l xs :: .l ac :: ps => match crsP ps with
    | some (s, []) => .br (decide (r = false ∧ m = 0 ∧ n = Int.ofNat xs.length ∧ i = 0) && N.OK xs) (.br (N.RB s.d xs ac) (.leaf (.exit 2) ((riX n1 n2).at (riOut false (N.RM s.d xs ac) xs ac s))) (.leaf .ret ((riX n1 n2).at (riOut false (N.RM s.d xs ac) xs ac s)))) .no
    | _ => .no
  | _ => .no
noncomputable def riL (N : NR) (n1 n2 : Bool) : Loops := sums (fun n => match n with | 11 => some (lsumF 2 (riT n1 n2) riLp (riTree N n1 n2)) | _ => none)
theorem riL_ok (n1 n2 : Bool) : loopsOk Tryz.prog (riL nR n1 n2) := by
  intro n g hg
  simp only [riL, sums] at hg
  split at hg
  · cases hg
    refine lsumF_ok (by cases n1 <;> cases n2 <;> kernel_rfl) (fun rd ps e1 st1 hq => ?_)
    unfold riTree at hq
    split at hq
    · rename_i r m n i xs ac ps
      split at hq
      · rename_i s hs
        rw [crsP_ok hs]
        simp only [Fin.pick] at hq
        cases hc : decide (r = false ∧ m = 0 ∧ n = Int.ofNat xs.length ∧ i = 0) && nR.OK xs with
        | false => rw [hc] at hq; cases hq
        | true =>
          rw [hc, cond_true] at hq
          simp only [Bool.and_eq_true, decide_eq_true_eq] at hc
          obtain ⟨⟨rfl, rfl, rfl, rfl⟩, h1⟩ := hc
          have := ri_loop n1 n2 rd xs ac s h1 (0, 0) ⟨Nat.zero_le _, Nat.le_refl _⟩
          rw [List.drop_zero] at this
          unfold riFin at this
          cases hr : nR.RB s.d xs ac with
          | true => rw [hr] at hq; rw [show (rtF s.d xs ac xs 0 0).1 = true from hr] at this; cases hq; exact this
          | false => rw [hr] at hq; rw [show (rtF s.d xs ac xs 0 0).1 = false from hr] at this; cases hq; exact this
      · cases hq
    · cases hq
  · cases hg
end Go.Proofs.YtojlmpcbplepcaaGreat

/- Chapter 10: Right's contract; whose turn it is. -/
namespace Go.Proofs.YtojlmpcbplepcaaGreat
open Go Go.Eng
theorem fn_crs {f : FuncId} {args : List V} {v : V} {nb : List Blk} {n1 n2 : Bool} {xs ac : List Int} (h : FnOK Tryz.prog f args (crsH false false xs ac) v (crsH false false xs ac ++ nb)) : FnOK Tryz.prog f args (crsH n1 n2 xs ac) v (crsH n1 n2 xs ac ++ nb) := FnOK.hard rfl h
theorem plain_crs {f : FuncId} {args : List V} {v : V} {n1 n2 : Bool} {xs ac : List Int} (h : FnOK Tryz.prog f args (crsH false false xs ac) v (crsH false false xs ac)) : FnOK Tryz.prog f args (crsH n1 n2 xs ac) v (crsH n1 n2 xs ac) := by
  have := fn_crs (nb := []) (n1 := n1) (n2 := n2) (by rw [List.append_nil]; exact h)
  rw [List.append_nil] at this; exact this
def seatB (p a f : Int) : List Bool := [decide (p < -1), decide (100 < p), decide (38 < a), decide (15 < f)]
noncomputable def fVs : List Bool → Option V → Option V
  | [], X => X
  | c :: r, X => bif c then some (.bool false) else fVs r X
def headL (s : CD) (xs : List Int) : List Bool := [decide (3 < s.d), decide (400 < Int.ofNat xs.length), decide (38 < s.h)] ++ (seatB s.p.a s.a.a s.f.a ++ (seatB s.p.b s.a.b s.f.b ++ (seatB s.p.c s.a.c s.f.c ++ seatB s.p.d s.a.d s.f.d)))
theorem right_eval10 (N : NJ) (R : NR) (xs ac : List Int) (s : CD) : evalFn Tryz.prog (orcJ N emptyTab plainL) (riL R false false) 100 24 Tryz.f24 [.agg (s.vs (.gs 0) (.gs 1))] (crsH false false xs ac) (fun v _ => some v) =
    fVs (headL s xs) (cond (codesB [(riLp, riLp)]) (bif decide (false = false ∧ (0 : Int) = 0 ∧ Int.ofNat xs.length = Int.ofNat xs.length ∧ (0 : Int) = 0) && R.OK xs then
      bif R.RB s.d xs ac then bif decide ((R.RM s.d xs ac : Int) = Int.ofNat ac.length) then bif decide (s.h = 0) then some (.bool true) else bif N.OK xs then some (.bool (!N.OV s.d xs)) else none else some (.bool false) else some (.bool false) else none) none) := by kernel_rfl
theorem fVs_is : ∀ (l : List Bool) (b : Bool), fVs l (some (.bool b)) = some (.bool (!l.any id && b))
  | [], b => by simp [fVs]
  | c :: r, b => by
    unfold fVs
    rw [fVs_is r b]
    cases c <;> simp
def rgtI (s : CD) (xs ac : List Int) : Bool := !(headL s xs).any id && ((rtF s.d xs ac xs 0 0).1 && (decide ((rtF s.d xs ac xs 0 0).2 = ac.length) && (decide (s.h = 0) || !ovI s.d xs)))
theorem riCd : codesB [(riLp, riLp)] = true := by rw [codesB_iff]; intro x hx; simp at hx; rw [hx]
theorem right17_fn (n1 n2 : Bool) {s : CD} {xs ac : List Int} (h : okL xs = true) : FnOK Tryz.prog 24 [.agg (s.vs (.gs 0) (.gs 1))] (crsH n1 n2 xs ac) (.bool (rgtI s xs ac)) (crsH n1 n2 xs ac) := by
  have key := right_eval10 nJ nR xs ac s
  rw [riCd, decide_eq_true (show false = false ∧ (0 : Int) = 0 ∧ Int.ofNat xs.length = Int.ofNat xs.length ∧ (0 : Int) = 0 from ⟨rfl, rfl, rfl, rfl⟩), show nR.OK xs = true from h, show nJ.OK xs = true from h] at key
  have e : (cond true (bif true && true then bif nR.RB s.d xs ac then bif decide ((nR.RM s.d xs ac : Int) = Int.ofNat ac.length) then bif decide (s.h = 0) then some (V.bool true) else bif true then some (.bool (!nJ.OV s.d xs)) else none else some (.bool false) else some (.bool false) else none) none) =
      some (.bool ((rtF s.d xs ac xs 0 0).1 && (decide ((rtF s.d xs ac xs 0 0).2 = ac.length) && (decide (s.h = 0) || !ovI s.d xs)))) := by
    show (bif (rtF s.d xs ac xs 0 0).1 then bif decide (((rtF s.d xs ac xs 0 0).2 : Int) = Int.ofNat ac.length) then bif decide (s.h = 0) then some (V.bool true) else some (.bool (!ovI s.d xs)) else some (.bool false) else some (.bool false)) = _
    have hd : decide (((rtF s.d xs ac xs 0 0).2 : Int) = Int.ofNat ac.length) = decide ((rtF s.d xs ac xs 0 0).2 = ac.length) := by
      have : Int.ofNat ac.length = (ac.length : Int) := rfl
      rw [this]
      by_cases hq : (rtF s.d xs ac xs 0 0).2 = ac.length
      · rw [decide_eq_true hq, decide_eq_true (by omega)]
      · rw [decide_eq_false hq, decide_eq_false (by omega)]
    rw [hd]
    cases (rtF s.d xs ac xs 0 0).1 <;> cases decide ((rtF s.d xs ac xs 0 0).2 = ac.length) <;> cases decide (s.h = 0) <;> rfl
  rw [e, fVs_is] at key
  obtain ⟨v1, h1, hk1, hok⟩ := evalFn_ok (orcJ_ok emptyTab_ok plainL_ok) mixed Tryz.func24 (riL_ok false false) key
  cases hk1
  exact plain_crs (hok.plain rfl crs_ro)
theorem turn_eval10 (MK : Int → Int → Int) (xs ac : List Int) (s : CD) : evalFn Tryz.prog (orcJ nJ (addTab 67 (iMaker MK) emptyTab) plainL) noLoops 100 55 Tryz.f55 [.agg (s.vs (.gs 0) (.gs 1))] (crsH false false xs ac) (fun v _ => some v) = some (.int .u8 (MK s.d (Int.ofNat xs.length))) := by kernel_rfl
def trnI (s : CD) (xs : List Int) : Int := mkI s.d (Int.ofNat xs.length)
theorem tabM_ok : PTabOk Tryz.prog (addTab 67 (iMaker mkI) emptyTab) := by
  refine addTab_ok ?_ emptyTab_ok
  intro args c v h _
  unfold iMaker at h
  split at h
  · cases h; exact maker_p _ _
  · cases h
theorem turn37_fn (n1 n2 : Bool) (s : CD) (xs ac : List Int) : FnOK Tryz.prog 55 [.agg (s.vs (.gs 0) (.gs 1))] (crsH n1 n2 xs ac) (.int .u8 (trnI s xs)) (crsH n1 n2 xs ac) := by
  obtain ⟨v1, h1, hk1, hok⟩ := evalFn_ok (orcJ_ok tabM_ok plainL_ok) mixed Tryz.func55 noLoops_ok (turn_eval10 mkI xs ac s)
  cases hk1
  exact plain_crs (hok.plain rfl crs_ro)
end Go.Proofs.YtojlmpcbplepcaaGreat

/- Chapter 10: Bid, Cheapest. -/
namespace Go.Proofs.YtojlmpcbplepcaaGreat
open Go Go.Eng
def badB (l d : Int) : Bool := bif decide (l < 1) then true else bif decide (7 < l) then true else decide (5 ≤ d)
def bidV (l d : Int) : Int := bif badB l d then 0 else wr .u8 (wr .u8 (3 + wr .u8 (5 * wr .u8 (l - 1))) + d)
def bidE (l d : Int) : Int := bif badB l d then 2 else 0
theorem bid_eval (l d : Int) : evalP emptyTab 103 Tryz.f103 [.int .u8 l, .int .u8 d] = bif decide (l < 1) then some (.tuple [.int .u8 0, .int .i64 2]) else bif decide (7 < l) then some (.tuple [.int .u8 0, .int .i64 2]) else
    bif decide (5 ≤ d) then some (.tuple [.int .u8 0, .int .i64 2]) else some (.tuple [.int .u8 (wr .u8 (wr .u8 (3 + wr .u8 (5 * wr .u8 (l - 1))) + d)), .int .i64 0]) := by kernel_rfl
theorem bid_pure (l d : Int) : FnPure Tryz.prog 103 [.int .u8 l, .int .u8 d] (.tuple [.int .u8 (bidV l d), .int .i64 (bidE l d)]) := by
  refine pure_at emptyTab_ok Tryz.func103 (by kernel_rfl) ?_ rfl rfl
  rw [bid_eval]
  unfold bidV bidE badB
  cases decide (l < 1) <;> cases decide (7 < l) <;> cases decide (5 ≤ d) <;> rfl
def gBid : List V → Option (Bool × V)
  | [.int .u8 l, .int .u8 d] => some (true, .tuple [.int .u8 (bidV l d), .int .i64 (bidE l d)])
  | _ => none
def tabBid : PTab := addTab 103 gBid (addTab 57 gRight emptyTab)
theorem tabBid_ok : PTabOk Tryz.prog tabBid := by
  refine addTab_ok ?_ (addTab_ok ?_ emptyTab_ok)
  · intro args c v h _
    unfold gBid at h
    split at h
    · cases h; exact bid_pure _ _
    · cases h
  · intro args c v h _
    unfold gRight at h
    split at h
    · cases h; exact right_p _
    · cases h
def chV (c d : Int) : Int := bif !decide (c ≤ 37) then 0 else bif decide (5 ≤ d) then 0 else bif decide (c < bidV 1 d) then bidV 1 d else bif decide (c < bidV 2 d) then bidV 2 d else bif decide (c < bidV 3 d) then bidV 3 d else bif decide (c < bidV 4 d) then bidV 4 d else bif decide (c < bidV 5 d) then bidV 5 d else bif decide (c < bidV 6 d) then bidV 6 d else bif decide (c < bidV 7 d) then bidV 7 d else 0
def chE (c d : Int) : Int := bif !decide (c ≤ 37) then 80 else bif decide (5 ≤ d) then 2 else bif decide (c < bidV 1 d) then 0 else bif decide (c < bidV 2 d) then 0 else bif decide (c < bidV 3 d) then 0 else bif decide (c < bidV 4 d) then 0 else bif decide (c < bidV 5 d) then 0 else bif decide (c < bidV 6 d) then 0 else bif decide (c < bidV 7 d) then 0 else 6
theorem ch_eval (c d : Int) : evalP tabBid 97 Tryz.f97 [.int .u8 c, .int .u8 d] = bif !decide (c ≤ 37) then some (.tuple [.int .u8 0, .int .i64 80]) else bif decide (5 ≤ d) then some (.tuple [.int .u8 0, .int .i64 2]) else bif decide (c < bidV 1 d) then some (.tuple [.int .u8 (bidV 1 d), .int .i64 0]) else bif decide (c < bidV 2 d) then some (.tuple [.int .u8 (bidV 2 d), .int .i64 0]) else bif decide (c < bidV 3 d) then some (.tuple [.int .u8 (bidV 3 d), .int .i64 0]) else bif decide (c < bidV 4 d) then some (.tuple [.int .u8 (bidV 4 d), .int .i64 0]) else bif decide (c < bidV 5 d) then some (.tuple [.int .u8 (bidV 5 d), .int .i64 0]) else bif decide (c < bidV 6 d) then some (.tuple [.int .u8 (bidV 6 d), .int .i64 0]) else bif decide (c < bidV 7 d) then some (.tuple [.int .u8 (bidV 7 d), .int .i64 0]) else some (.tuple [.int .u8 0, .int .i64 6]) := by kernel_rfl
theorem ch_pure (c d : Int) : FnPure Tryz.prog 97 [.int .u8 c, .int .u8 d] (.tuple [.int .u8 (chV c d), .int .i64 (chE c d)]) := by
  refine pure_at tabBid_ok Tryz.func97 (by kernel_rfl) ?_ rfl rfl
  rw [ch_eval]
  unfold chV chE
  cases decide (c ≤ 37) with
  | false => rfl
  | true => cases decide (5 ≤ d) with
    | true => rfl
    | false => cases decide (c < bidV 1 d) with
    | true => rfl
    | false => cases decide (c < bidV 2 d) with
    | true => rfl
    | false => cases decide (c < bidV 3 d) with
    | true => rfl
    | false => cases decide (c < bidV 4 d) with
    | true => rfl
    | false => cases decide (c < bidV 5 d) with
    | true => rfl
    | false => cases decide (c < bidV 6 d) with
    | true => rfl
    | false => cases decide (c < bidV 7 d) with
    | true => rfl
    | false => rfl
end Go.Proofs.YtojlmpcbplepcaaGreat
