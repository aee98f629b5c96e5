/- Chapter 10: mends, legal: the contracts that they use as names. -/
import Derived.Test.YtojlmpcbplepcaaCh
namespace Go.Proofs.Ytojlmpcbplepcaa
open Go Go.Eng
/-- Last and Cheapest as names. -/
structure NM where
  LI : List Int → Int
  LB : List Int → Bool
  CV : Int → Int → Int
  CE : Int → Int → Int
  KS : List Int → Bool
def nM : NM := ⟨lastI, hasB, chV, chE, smallL⟩
def mLast (N : NM) : List V → List Blk → Option (Bool × V × List Blk)
  | [.gs 0], [.rs _ 1 (.ints .u8 xs)] => some (N.KS xs, .tuple [.int .i64 (N.LI xs), .bool (N.LB xs)], [])
  | _, _ => none
def hTabM (N : NM) (T : HTab) : HTab := addH 54 (mLast N) T
theorem hTabM_ok {T : HTab} (hT : HTabOk Try.prog T) : HTabOk Try.prog (hTabM nM T) := by
  refine addH_ok ?_ hT
  intro args h c v nb hq hc
  unfold mLast at hq
  split at hq
  · cases hq; exact ⟨.of Try.func54 (by kernel_rfl), by rw [List.append_nil]; exact last_fn _ hc⟩
  · cases hq
def mCh (N : NM) : List V → Option (Bool × V)
  | [.int .u8 c, .int .u8 d] => some (true, .tuple [.int .u8 (N.CV c d), .int .i64 (N.CE c d)])
  | _ => none
def tabMn (N : NM) : PTab := addTab 70 (mCh N) (addTab 55 gPartsP emptyTab)
theorem tabMn_ok : PTabOk Try.prog (tabMn nM) := by
  refine addTab_ok ?_ (addTab_ok ?_ emptyTab_ok)
  · intro args c v h _
    unfold mCh at h
    split at h
    · cases h; exact ch_pure _ _
    · cases h
  · intro args c v h _
    unfold gPartsP at h
    split at h
    · cases h; rw [← ptV_is]; exact parts_p _
    · cases h
def domM : FuncId → Bool := fun f => Nat.beq f 54
noncomputable abbrev orcMn (N : NM) (T : PTab) (LL : FuncId → Loops) : Oracle := inl Try.prog ftab T LL 100 never domM (hOrcX nrC (hTabM N emptyH)) 20
theorem orcMn_ok {T : PTab} (hT : PTabOk Try.prog T) {LL : FuncId → Loops} (hL : ∀ f, loopsOk Try.prog (LL f)) : OracleOk Try.prog (orcMn nM T LL) := inl_ok (hOrcX_ok (hTabM_ok emptyH_ok)) ftab_ok hT hL mixed 20
noncomputable def mnE (N : NM) (h x c : Int) : Option V := bif decide (N.CE c (dnZ (wr .u8 (h - 1))) = 0) then some (.bool (decide (x = N.CV c (dnZ (wr .u8 (h - 1)))))) else some (.bool false)
theorem mends_eval (N : NM) (xs ac : List Int) (s : CD) (x : Int) : evalFn Try.prog (orcMn N (tabMn N) plainL) noLoops 100 51 Try.f51 [.agg (s.vs (.gs 0) (.gs 1)), .int .u8 x] (crsH false false xs ac) (fun v _ => some v) =
    bif !isBid (wr .u8 (s.h - 1)) then some (.bool false) else bif N.KS xs then bif N.LB xs then bif decide (0 ≤ N.LI xs ∧ N.LI xs < Int.ofNat xs.length) then atN xs (N.LI xs).toNat fun c => mnE N s.h x c else none else mnE N s.h x 0 else none := by kernel_rfl
/-- The last bid, 0 if there is none. -/
def lbI (xs : List Int) : Int := bif hasB xs then xs.getD (lastI xs).toNat 0 else 0
def mnI (h : Int) (xs : List Int) (x : Int) : Bool := isBid (wr .u8 (h - 1)) && (decide (chE (lbI xs) (dnZ (wr .u8 (h - 1))) = 0) && decide (x = chV (lbI xs) (dnZ (wr .u8 (h - 1)))))
theorem mends51_fn (n1 n2 : Bool) {s : CD} {xs ac : List Int} (x : Int) (h : okL xs = true) : FnOK Try.prog 51 [.agg (s.vs (.gs 0) (.gs 1)), .int .u8 x] (crsH n1 n2 xs ac) (.bool (mnI s.h xs x)) (crsH n1 n2 xs ac) := by
  obtain ⟨hl, hu⟩ := okL_iff.1 h
  have key := mends_eval nM xs ac s x
  have hr := lastI_range xs
  have e : (bif !isBid (wr .u8 (s.h - 1)) then some (V.bool false) else bif nM.KS xs then bif nM.LB xs then bif decide (0 ≤ nM.LI xs ∧ nM.LI xs < Int.ofNat xs.length) then atN xs (nM.LI xs).toNat fun c => mnE nM s.h x c else none else mnE nM s.h x 0 else none) = some (.bool (mnI s.h xs x)) := by
    have q : ∀ c, c = lbI xs → mnE nM s.h x c = some (.bool (decide (chE (lbI xs) (dnZ (wr .u8 (s.h - 1))) = 0) && decide (x = chV (lbI xs) (dnZ (wr .u8 (s.h - 1)))))) := by
      rintro c rfl
      unfold mnE
      show (bif decide (chE _ _ = 0) then some (V.bool (decide (x = chV _ _))) else _) = _
      cases decide (chE (lbI xs) (dnZ (wr .u8 (s.h - 1))) = 0) <;> rfl
    unfold mnI
    cases isBid (wr .u8 (s.h - 1)) with
    | false => rfl
    | true =>
      rw [show nM.KS xs = true from decide_eq_true (show xs.length ≤ 9223372036854775806 by omega), show nM.LB xs = hasB xs from rfl, show nM.LI xs = lastI xs from rfl]
      cases hb : hasB xs with
      | false =>
        have := q 0 (by unfold lbI; rw [hb]; rfl)
        rw [Bool.not_true, cond_false, cond_true, cond_false, Bool.true_and, this]
      | true =>
        have h2 := hr.2.2.1 hb
        rw [decide_eq_true (show 0 ≤ lastI xs ∧ lastI xs < Int.ofNat xs.length from ⟨hr.1, h2⟩), cond_true, cond_true, cond_true, atN_get (by omega)]
        have := q (xs.getD (lastI xs).toNat 0) (by unfold lbI; rw [hb]; rfl)
        rw [Bool.not_true, cond_false, Bool.true_and, this]
  rw [e] at key
  obtain ⟨v1, h1, hk1, hok⟩ := evalFn_ok (orcMn_ok tabMn_ok plainL_ok) mixed Try.func51 noLoops_ok key
  cases hk1
  exact plain_crs (hok.plain rfl crs_ro)
/-! ### legal: the turn a number -/
def jTurn (N : NJ) (TR : CD → List Int → Int) (t : Int) : List V → List Blk → Option (Bool × V × List Blk)
  | [.agg l], [.rs _ 1 (.ints .u8 xs), .rs _ 1 (.ints .i64 _)] => match ofCrs l with
    | some (s, .gs 0, .gs 1) => some (N.OK xs && decide (TR s xs = t), .int .u8 t, [])
    | _ => none
  | _, _ => none
theorem jTurn_ok {t : Int} {args : List V} {h : List Blk} {c : Bool} {v : V} {nb : List Blk} (hq : jTurn nJ trnI t args h = some (c, v, nb)) (hc : c = true) : Enterable Try.prog 37 ∧ FnOK Try.prog 37 args h v (h ++ nb) := by
  unfold jTurn at hq
  split at hq
  · split at hq
    · rename_i s hs
      cases hq
      simp only [Bool.and_eq_true, decide_eq_true_eq] at hc
      obtain ⟨_, rfl⟩ := hc
      rw [ofCrs_ok hs, List.append_nil]
      exact ⟨.of Try.func37 (by kernel_rfl), turn37_fn _ _ _ _ _⟩
    · cases hq
  · cases hq
def hTabL (N : NJ) (TR : CD → List Int → Int) (t : Int) (T : HTab) : HTab := addH 37 (jTurn N TR t) (hTabJ N T)
theorem hTabL_ok {t : Int} {T : HTab} (hT : HTabOk Try.prog T) : HTabOk Try.prog (hTabL nJ trnI t T) := addH_ok (fun _ _ _ _ _ hq hc => jTurn_ok hq hc) (hTabJ_ok hT)
def domL : FuncId → Bool := fun f => Nat.beq f 37 || domJ f
noncomputable abbrev orcL (N : NJ) (TR : CD → List Int → Int) (t : Int) (T : PTab) (LL : FuncId → Loops) : Oracle := inl Try.prog ftab T LL 100 never domL (hOrcX nrC (hTabL N TR t emptyH)) 20
theorem orcL_ok {t : Int} {T : PTab} (hT : PTabOk Try.prog T) {LL : FuncId → Loops} (hL : ∀ f, loopsOk Try.prog (LL f)) : OracleOk Try.prog (orcL nJ trnI t T LL) := inl_ok (hOrcX_ok (hTabL_ok emptyH_ok)) ftab_ok hT hL mixed 20
noncomputable def lg3 (s : CD) (x : Int) : Option V := bif decide (0 < s.h) then bif !decide (x = 1) then some (.bool (!decide (x = 2))) else some (.bool false) else some (.bool true)
noncomputable def lg2 (N : NJ) (s : CD) (a : Int) (xs : List Int) (x : Int) : Option V := bif decide (0 < a) then bif N.OK xs then bif N.PS xs then bif N.OK xs && N.BY (wr .u8 (a - 1)) then bif N.FR s.d xs (wr .u8 (a - 1)) then some (.bool (decide (x = wr .u8 (a - 1)))) else lg3 s x else none else lg3 s x else none else lg3 s x
noncomputable def lgE (N : NJ) (TR : CD → List Int → Int) (k : Nat) (xs : List Int) (s : CD) (x : Int) : Option V := bif N.OK xs && decide (TR s xs = (k : Int)) then bif N.OK xs && N.BY x then bif !N.FR s.d xs x then some (.bool false) else
  bif !decide (s.p.at k = 0) then some (.bool (decide (x = 0))) else lg2 N s (s.a.at k) xs x else none else none
theorem legal_eval10 (N : NJ) (TR : CD → List Int → Int) (xs ac : List Int) (s : CD) (x : Int) : ∀ k : Nat, k < 4 → evalFn Try.prog (orcL N TR (k : Int) emptyTab plainL) noLoops 100 38 Try.f38 [.agg (s.vs (.gs 0) (.gs 1)), .int .u8 x] (crsH false false xs ac) (fun v _ => some v) = lgE N TR k xs s x
  | 0, _ => by kernel_rfl
  | 1, _ => by kernel_rfl
  | 2, _ => by kernel_rfl
  | 3, _ => by kernel_rfl
  | n + 4, h => absurd h (by omega)
/-- What a seat may call by its demands. -/
def demI (s : CD) (p a : Int) (xs : List Int) (x : Int) : Bool := bif !decide (p = 0) then decide (x = 0) else bif decide (0 < a) && (psI xs && frI s.d xs (wr .u8 (a - 1))) then decide (x = wr .u8 (a - 1)) else bif decide (0 < s.h) then !decide (x = 1) && !decide (x = 2) else true
def tN (s : CD) (xs : List Int) : Nat := (trnI s xs).toNat
def lgI (s : CD) (xs : List Int) (x : Int) : Bool := frI s.d xs x && demI s (s.p.at (tN s xs)) (s.a.at (tN s xs)) xs x
theorem tN_lt (s : CD) (xs : List Int) (h : okL xs = true) (hd : 0 ≤ s.d ∧ s.d < 256) : trnI s xs = (tN s xs : Int) ∧ tN s xs < 4 := by
  have hl := (okL_iff.1 h).1
  have h1 : Int.ofNat xs.length = (xs.length : Int) := rfl
  unfold tN trnI mkI
  rw [h1, wr64 (n := s.d) (by omega) (by omega), wr64 (by omega) (by omega), Int.tmod_eq_emod_of_nonneg (by omega), wr_u8_id (by omega)]
  omega
theorem legal38_fn (n1 n2 : Bool) {s : CD} {xs ac : List Int} {x : Int} (h : okL xs = true) (hd : 0 ≤ s.d ∧ s.d < 256) (hx : byB x = true) : FnOK Try.prog 38 [.agg (s.vs (.gs 0) (.gs 1)), .int .u8 x] (crsH n1 n2 xs ac) (.bool (lgI s xs x)) (crsH n1 n2 xs ac) := by
  obtain ⟨ht, hk⟩ := tN_lt s xs h hd
  have key := legal_eval10 nJ trnI xs ac s x (tN s xs) hk
  have e : lgE nJ trnI (tN s xs) xs s x = some (.bool (lgI s xs x)) := by
    unfold lgE
    rw [decide_eq_true ht, show nJ.OK xs = true from h, show nJ.BY x = true from hx]
    unfold lgI demI
    show (bif !frI s.d xs x then some (V.bool false) else bif !decide (s.p.at (tN s xs) = 0) then some (.bool (decide (x = 0))) else lg2 nJ s (s.a.at (tN s xs)) xs x) = _
    generalize s.a.at (tN s xs) = a
    have hb : nJ.BY (wr .u8 (a - 1)) = true := decide_eq_true (by show 0 ≤ _ % 256 ∧ _ % 256 < 256; omega)
    unfold lg2 lg3
    rw [show nJ.OK xs = true from h, hb]
    show (bif !frI s.d xs x then some (V.bool false) else bif !decide (s.p.at (tN s xs) = 0) then some (.bool (decide (x = 0))) else bif decide (0 < a) then bif psI xs then bif frI s.d xs (wr .u8 (a - 1)) then some (V.bool (decide (x = wr .u8 (a - 1)))) else (bif decide (0 < s.h) then bif !decide (x = 1) then some (.bool (!decide (x = 2))) else some (.bool false) else some (.bool true)) else (bif decide (0 < s.h) then bif !decide (x = 1) then some (.bool (!decide (x = 2))) else some (.bool false) else some (.bool true)) else (bif decide (0 < s.h) then bif !decide (x = 1) then some (.bool (!decide (x = 2))) else some (.bool false) else some (.bool true))) = _
    cases frI s.d xs x <;> cases decide (s.p.at (tN s xs) = 0) <;> cases decide (0 < a) <;> cases psI xs <;> cases frI s.d xs (wr .u8 (a - 1)) <;> cases decide (0 < s.h) <;> cases decide (x = 1) <;> rfl
  rw [e] at key
  obtain ⟨v1, h1, hk1, hok⟩ := evalFn_ok (orcL_ok emptyTab_ok plainL_ok) mixed Try.func38 noLoops_ok key
  cases hk1
  exact plain_crs (hok.plain rfl crs_ro)
end Go.Proofs.Ytojlmpcbplepcaa
