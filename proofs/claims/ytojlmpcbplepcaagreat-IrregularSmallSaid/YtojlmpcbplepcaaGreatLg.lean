/- Texts merged: Lg, Dp, Cc. -/
import Derived.Test.YtojlmpcbplepcaaGreatRi2
/- Chapter 10: mends, legal: the contracts that they use as names. -/
namespace Go.Proofs.YtojlmpcbplepcaaGreat
open Go Go.Eng
structure NM where
  LI : List Int → Int
  LB : List Int → Bool
  CV : Int → Int → Int
  CE : Int → Int → Int
  KS : List Int → Bool
def nM : NM := ⟨lastI, hasB, chV, chE, smallL⟩
def mLast (N : NM) : List V → List Blk → Option (Bool × V × List Blk)
  | [.gs 0], [.rs _ 1 (.ints .u8 xs)] => some (N.KS xs, .tuple [.int .i64 (N.LI xs), .bool (N.LB xs)], [])
  | _, _ => none
def hTabM (N : NM) (T : HTab) : HTab := addH 65 (mLast N) T
theorem hTabM_ok {T : HTab} (hT : HTabOk Tryz.prog T) : HTabOk Tryz.prog (hTabM nM T) := by
  refine addH_ok ?_ hT
  intro args h c v nb hq hc
  unfold mLast at hq
  split at hq
  · cases hq; exact ⟨.of Tryz.func65 (by kernel_rfl), by rw [List.append_nil]; exact last_fn _ hc⟩
  · cases hq
def mCh (N : NM) : List V → Option (Bool × V)
  | [.int .u8 c, .int .u8 d] => some (true, .tuple [.int .u8 (N.CV c d), .int .i64 (N.CE c d)])
  | _ => none
def tabMn (N : NM) : PTab := addTab 97 (mCh N) (addTab 66 gPartsP emptyTab)
theorem tabMn_ok : PTabOk Tryz.prog (tabMn nM) := by
  refine addTab_ok ?_ (addTab_ok ?_ emptyTab_ok)
  · intro args c v h _
    unfold mCh at h
    split at h
    · cases h; exact ch_pure _ _
    · cases h
  · intro args c v h _
    unfold gPartsP at h
    split at h
    · cases h; rw [← ptV_is]; exact parts_p _
    · cases h
def domM : FuncId → Bool := fun f => Nat.beq f 65
noncomputable abbrev orcMn (N : NM) (T : PTab) (LL : FuncId → Loops) : Oracle := inl Tryz.prog ftab T LL 100 never domM (hOrcX nrC (hTabM N emptyH)) 20
theorem orcMn_ok {T : PTab} (hT : PTabOk Tryz.prog T) {LL : FuncId → Loops} (hL : ∀ f, loopsOk Tryz.prog (LL f)) : OracleOk Tryz.prog (orcMn nM T LL) := inl_ok (hOrcX_ok (hTabM_ok emptyH_ok)) ftab_ok hT hL mixed 20
noncomputable def mnE (N : NM) (h x c : Int) : Option V := bif decide (N.CE c (dnZ (wr .u8 (h - 1))) = 0) then some (.bool (decide (x = N.CV c (dnZ (wr .u8 (h - 1)))))) else some (.bool false)
theorem mends_eval (N : NM) (xs ac : List Int) (s : CD) (x : Int) : evalFn Tryz.prog (orcMn N (tabMn N) plainL) noLoops 100 75 Tryz.f75 [.agg (s.vs (.gs 0) (.gs 1)), .int .u8 x] (crsH false false xs ac) (fun v _ => some v) =
    bif !isBid (wr .u8 (s.h - 1)) then some (.bool false) else bif N.KS xs then bif N.LB xs then bif decide (0 ≤ N.LI xs ∧ N.LI xs < Int.ofNat xs.length) then atN xs (N.LI xs).toNat fun c => mnE N s.h x c else none else mnE N s.h x 0 else none := by kernel_rfl
def lbI (xs : List Int) : Int := bif hasB xs then xs.getD (lastI xs).toNat 0 else 0
def mnI (h : Int) (xs : List Int) (x : Int) : Bool := isBid (wr .u8 (h - 1)) && (decide (chE (lbI xs) (dnZ (wr .u8 (h - 1))) = 0) && decide (x = chV (lbI xs) (dnZ (wr .u8 (h - 1)))))
theorem mends51_fn (n1 n2 : Bool) {s : CD} {xs ac : List Int} (x : Int) (h : okL xs = true) : FnOK Tryz.prog 75 [.agg (s.vs (.gs 0) (.gs 1)), .int .u8 x] (crsH n1 n2 xs ac) (.bool (mnI s.h xs x)) (crsH n1 n2 xs ac) := by
  obtain ⟨hl, hu⟩ := okL_iff.1 h
  have key := mends_eval nM xs ac s x
  have hr := lastI_range xs
  have e : (bif !isBid (wr .u8 (s.h - 1)) then some (V.bool false) else bif nM.KS xs then bif nM.LB xs then bif decide (0 ≤ nM.LI xs ∧ nM.LI xs < Int.ofNat xs.length) then atN xs (nM.LI xs).toNat fun c => mnE nM s.h x c else none else mnE nM s.h x 0 else none) = some (.bool (mnI s.h xs x)) := by
    have q : ∀ c, c = lbI xs → mnE nM s.h x c = some (.bool (decide (chE (lbI xs) (dnZ (wr .u8 (s.h - 1))) = 0) && decide (x = chV (lbI xs) (dnZ (wr .u8 (s.h - 1)))))) := by
      rintro c rfl
      unfold mnE
      show (bif decide (chE _ _ = 0) then some (V.bool (decide (x = chV _ _))) else _) = _
      cases decide (chE (lbI xs) (dnZ (wr .u8 (s.h - 1))) = 0) <;> rfl
    unfold mnI
    cases isBid (wr .u8 (s.h - 1)) with
    | false => rfl
    | true =>
      rw [show nM.KS xs = true from decide_eq_true (show xs.length ≤ 9223372036854775806 by omega), show nM.LB xs = hasB xs from rfl, show nM.LI xs = lastI xs from rfl]
      cases hb : hasB xs with
      | false =>
        have := q 0 (by unfold lbI; rw [hb]; rfl)
        rw [Bool.not_true, cond_false, cond_true, cond_false, Bool.true_and, this]
      | true =>
        have h2 := hr.2.2.1 hb
        rw [decide_eq_true (show 0 ≤ lastI xs ∧ lastI xs < Int.ofNat xs.length from ⟨hr.1, h2⟩), cond_true, cond_true, cond_true, atN_get (by omega)]
        have := q (xs.getD (lastI xs).toNat 0) (by unfold lbI; rw [hb]; rfl)
        rw [Bool.not_true, cond_false, Bool.true_and, this]
  rw [e] at key
  obtain ⟨v1, h1, hk1, hok⟩ := evalFn_ok (orcMn_ok tabMn_ok plainL_ok) mixed Tryz.func75 noLoops_ok key
  cases hk1
  exact plain_crs (hok.plain rfl crs_ro)
def jTurn (N : NJ) (TR : CD → List Int → Int) (t : Int) : List V → List Blk → Option (Bool × V × List Blk)
  | [.agg l], [.rs _ 1 (.ints .u8 xs), .rs _ 1 (.ints .i64 _)] => match ofCrs l with
    | some (s, .gs 0, .gs 1) => some (N.OK xs && decide (TR s xs = t), .int .u8 t, [])
    | _ => none
  | _, _ => none
theorem jTurn_ok {t : Int} {args : List V} {h : List Blk} {c : Bool} {v : V} {nb : List Blk} (hq : jTurn nJ trnI t args h = some (c, v, nb)) (hc : c = true) : Enterable Tryz.prog 55 ∧ FnOK Tryz.prog 55 args h v (h ++ nb) := by
  unfold jTurn at hq
  split at hq
  · split at hq
    · rename_i s hs
      cases hq
      simp only [Bool.and_eq_true, decide_eq_true_eq] at hc
      obtain ⟨_, rfl⟩ := hc
      rw [ofCrs_ok hs, List.append_nil]
      exact ⟨.of Tryz.func55 (by kernel_rfl), turn37_fn _ _ _ _ _⟩
    · cases hq
  · cases hq
def hTabL (N : NJ) (TR : CD → List Int → Int) (t : Int) (T : HTab) : HTab := addH 55 (jTurn N TR t) (hTabJ N T)
theorem hTabL_ok {t : Int} {T : HTab} (hT : HTabOk Tryz.prog T) : HTabOk Tryz.prog (hTabL nJ trnI t T) := addH_ok (fun _ _ _ _ _ hq hc => jTurn_ok hq hc) (hTabJ_ok hT)
def domL : FuncId → Bool := fun f => Nat.beq f 55 || domJ f
noncomputable abbrev orcL (N : NJ) (TR : CD → List Int → Int) (t : Int) (T : PTab) (LL : FuncId → Loops) : Oracle := inl Tryz.prog ftab T LL 100 never domL (hOrcX nrC (hTabL N TR t emptyH)) 20
theorem orcL_ok {t : Int} {T : PTab} (hT : PTabOk Tryz.prog T) {LL : FuncId → Loops} (hL : ∀ f, loopsOk Tryz.prog (LL f)) : OracleOk Tryz.prog (orcL nJ trnI t T LL) := inl_ok (hOrcX_ok (hTabL_ok emptyH_ok)) ftab_ok hT hL mixed 20
noncomputable def lg3 (s : CD) (x : Int) : Option V := bif decide (0 < s.h) then bif !decide (x = 1) then some (.bool (!decide (x = 2))) else some (.bool false) else some (.bool true)
noncomputable def lg2 (N : NJ) (s : CD) (a : Int) (xs : List Int) (x : Int) : Option V := bif decide (0 < a) then bif N.OK xs then bif N.PS xs then bif N.OK xs && N.BY (wr .u8 (a - 1)) then bif N.FR s.d xs (wr .u8 (a - 1)) then some (.bool (decide (x = wr .u8 (a - 1)))) else lg3 s x else none else lg3 s x else none else lg3 s x
noncomputable def lgE (N : NJ) (TR : CD → List Int → Int) (k : Nat) (xs : List Int) (s : CD) (x : Int) : Option V := bif N.OK xs && decide (TR s xs = (k : Int)) then bif N.OK xs && N.BY x then bif !N.FR s.d xs x then some (.bool false) else
  bif !decide (s.p.at k = 0) then some (.bool (decide (x = 0))) else lg2 N s (s.a.at k) xs x else none else none
theorem legal_eval10 (N : NJ) (TR : CD → List Int → Int) (xs ac : List Int) (s : CD) (x : Int) : ∀ k : Nat, k < 4 → evalFn Tryz.prog (orcL N TR (k : Int) emptyTab plainL) noLoops 100 58 Tryz.f58 [.agg (s.vs (.gs 0) (.gs 1)), .int .u8 x] (crsH false false xs ac) (fun v _ => some v) = lgE N TR k xs s x
  | 0, _ => by kernel_rfl
  | 1, _ => by kernel_rfl
  | 2, _ => by kernel_rfl
  | 3, _ => by kernel_rfl
  | n + 4, h => absurd h (by omega)
def demI (s : CD) (p a : Int) (xs : List Int) (x : Int) : Bool := bif !decide (p = 0) then decide (x = 0) else bif decide (0 < a) && (psI xs && frI s.d xs (wr .u8 (a - 1))) then decide (x = wr .u8 (a - 1)) else bif decide (0 < s.h) then !decide (x = 1) && !decide (x = 2) else true
def tN (s : CD) (xs : List Int) : Nat := (trnI s xs).toNat
def lgI (s : CD) (xs : List Int) (x : Int) : Bool := frI s.d xs x && demI s (s.p.at (tN s xs)) (s.a.at (tN s xs)) xs x
theorem tN_lt (s : CD) (xs : List Int) (h : okL xs = true) (hd : 0 ≤ s.d ∧ s.d < 256) : trnI s xs = (tN s xs : Int) ∧ tN s xs < 4 := by
  have hl := (okL_iff.1 h).1
  have h1 : Int.ofNat xs.length = (xs.length : Int) := rfl
  unfold tN trnI mkI
  rw [h1, wr64 (n := s.d) (by omega) (by omega), wr64 (by omega) (by omega), Int.tmod_eq_emod_of_nonneg (by omega), wr_u8_id (by omega)]
  omega
theorem legal38_fn (n1 n2 : Bool) {s : CD} {xs ac : List Int} {x : Int} (h : okL xs = true) (hd : 0 ≤ s.d ∧ s.d < 256) (hx : byB x = true) : FnOK Tryz.prog 58 [.agg (s.vs (.gs 0) (.gs 1)), .int .u8 x] (crsH n1 n2 xs ac) (.bool (lgI s xs x)) (crsH n1 n2 xs ac) := by
  obtain ⟨ht, hk⟩ := tN_lt s xs h hd
  have key := legal_eval10 nJ trnI xs ac s x (tN s xs) hk
  have e : lgE nJ trnI (tN s xs) xs s x = some (.bool (lgI s xs x)) := by
    unfold lgE
    rw [decide_eq_true ht, show nJ.OK xs = true from h, show nJ.BY x = true from hx]
    unfold lgI demI
    show (bif !frI s.d xs x then some (V.bool false) else bif !decide (s.p.at (tN s xs) = 0) then some (.bool (decide (x = 0))) else lg2 nJ s (s.a.at (tN s xs)) xs x) = _
    generalize s.a.at (tN s xs) = a
    have hb : nJ.BY (wr .u8 (a - 1)) = true := decide_eq_true (by show 0 ≤ _ % 256 ∧ _ % 256 < 256; omega)
    unfold lg2 lg3
    rw [show nJ.OK xs = true from h, hb]
    show (bif !frI s.d xs x then some (V.bool false) else bif !decide (s.p.at (tN s xs) = 0) then some (.bool (decide (x = 0))) else bif decide (0 < a) then bif psI xs then bif frI s.d xs (wr .u8 (a - 1)) then some (V.bool (decide (x = wr .u8 (a - 1)))) else (bif decide (0 < s.h) then bif !decide (x = 1) then some (.bool (!decide (x = 2))) else some (.bool false) else some (.bool true)) else (bif decide (0 < s.h) then bif !decide (x = 1) then some (.bool (!decide (x = 2))) else some (.bool false) else some (.bool true)) else (bif decide (0 < s.h) then bif !decide (x = 1) then some (.bool (!decide (x = 2))) else some (.bool false) else some (.bool true))) = _
    cases frI s.d xs x <;> cases decide (s.p.at (tN s xs) = 0) <;> cases decide (0 < a) <;> cases psI xs <;> cases frI s.d xs (wr .u8 (a - 1)) <;> cases decide (0 < s.h) <;> cases decide (x = 1) <;> rfl
  rw [e] at key
  obtain ⟨v1, h1, hk1, hok⟩ := evalFn_ok (orcL_ok emptyTab_ok plainL_ok) mixed Tryz.func58 noLoops_ok key
  cases hk1
  exact plain_crs (hok.plain rfl crs_ro)
end Go.Proofs.YtojlmpcbplepcaaGreat

/- Chapter 10: copies of lists. -/
namespace Go.Proofs.YtojlmpcbplepcaaGreat
open Go Go.Eng
theorem copied67_eval (xs : List Int) : evalFn Tryz.prog (orcE emptyTab plainL) noLoops 100 93 Tryz.f93 [.gs 0] [.rs false 1 (.ints .u8 xs)] lastK = bif decide (xs.length * 2 ≤ 70368744177664) then some (false, 5, 1, .ints .u8 xs) else none := by kernel_rfl
theorem copied68_eval (xs : List Int) : evalFn Tryz.prog (orcE emptyTab plainL) noLoops 100 95 Tryz.f95 [.gs 0] [.rs false 1 (.ints .i64 xs)] lastK = bif decide (xs.length * 9 ≤ 70368744177664) then some (false, 3, 1, .ints .i64 xs) else none := by kernel_rfl
theorem copied67_fn (nn : Bool) {xs : List Int} (h : xs.length ≤ 200000) : FnOK Tryz.prog 93 [.gs 0] [.rs nn 1 (.ints .u8 xs)] (.gs 1) ([.rs nn 1 (.ints .u8 xs)] ++ [.grow false 5 1 (.ints .u8 xs)]) := by
  have key := copied67_eval xs
  rw [decide_eq_true (show xs.length * 2 ≤ 70368744177664 by omega), cond_true] at key
  obtain ⟨v1, h1, hk1, hok⟩ := evalFn_ok (orcE_ok emptyTab_ok plainL_ok) mixed Tryz.func93 noLoops_ok key
  exact FnOK.hard rfl (lastK_fn hk1 hok rfl rs_ro)
theorem copied68_fn (nn : Bool) {xs : List Int} (h : xs.length ≤ 200000) : FnOK Tryz.prog 95 [.gs 0] [.rs nn 1 (.ints .i64 xs)] (.gs 1) ([.rs nn 1 (.ints .i64 xs)] ++ [.grow false 3 1 (.ints .i64 xs)]) := by
  have key := copied68_eval xs
  rw [decide_eq_true (show xs.length * 9 ≤ 70368744177664 by omega), cond_true] at key
  obtain ⟨v1, h1, hk1, hok⟩ := evalFn_ok (orcE_ok emptyTab_ok plainL_ok) mixed Tryz.func95 noLoops_ok key
  exact FnOK.hard rfl (lastK_fn hk1 hok rfl rs_ro)
def lenOk (xs : List Int) : Bool := decide (xs.length ≤ 200000)
def cpU (K : List Int → Bool) : List V → List Blk → Option (Bool × V × List Blk)
  | [.gs 0], [.rs _ 1 (.ints .u8 xs)] => some (K xs, .gs 1, [.grow false 5 1 (.ints .u8 xs)])
  | _, _ => none
def cpI (K : List Int → Bool) : List V → List Blk → Option (Bool × V × List Blk)
  | [.gs 0], [.rs _ 1 (.ints .i64 xs)] => some (K xs, .gs 1, [.grow false 3 1 (.ints .i64 xs)])
  | _, _ => none
def hTabCp (K : List Int → Bool) : HTab := addH 93 (cpU K) (addH 95 (cpI K) emptyH)
theorem hTabCp_ok : HTabOk Tryz.prog (hTabCp lenOk) := by
  refine addH_ok ?_ (addH_ok ?_ emptyH_ok)
  · intro args h c v nb hq hc
    unfold cpU at hq
    split at hq
    · cases hq; exact ⟨.of Tryz.func93 (by kernel_rfl), copied67_fn _ (of_decide_eq_true hc)⟩
    · cases hq
  · intro args h c v nb hq hc
    unfold cpI at hq
    split at hq
    · cases hq; exact ⟨.of Tryz.func95 (by kernel_rfl), copied68_fn _ (of_decide_eq_true hc)⟩
    · cases hq
def isCp : FuncId → Bool := fun f => Nat.beq f 93 || Nat.beq f 95
def nrCp : FuncId → Option Row := fun f => bif Nat.beq f 93 then some (.ints .u8 []) else some (.ints .i64 [])
def crsA (n1 n2 : Bool) (t : List TV) : Tm := ⟨[some (.tuple (.agg (crsT (.gs 2) (.gs 3)) :: t))], [.rs n1 1 (.ints .u8), .rs n2 1 (.ints .i64), .grow false 5 1 (.ints .u8), .grow false 3 1 (.ints .i64)], []⟩
end Go.Proofs.YtojlmpcbplepcaaGreat

/- Chapter 10: the contracts over courses as names; open, Over, Turn, Kind. -/
namespace Go.Proofs.YtojlmpcbplepcaaGreat
open Go Go.Eng
structure NC where
  J : NJ
  RG : CD → List Int → List Int → Bool
  TR : CD → List Int → Int
  LG : CD → List Int → Int → Bool
  MN : Int → List Int → Int → Bool
  DK : CD → Bool
  CK : List Int → Bool
  OP : CD → List Int → List Int → Int
  KV : CD → List Int → List Int → Int → Int → Int
  KE : CD → List Int → List Int → Int → Int → Int
  SU : Int → Int
def dkB (s : CD) : Bool := decide (0 ≤ s.d ∧ s.d < 256)
def opI (s : CD) (xs ac : List Int) : Int := bif rgtI s xs ac then (bif ovI s.d xs then 101 else 0) else 100
abbrev CH := List V → List Blk → Option (Bool × V × List Blk)
def dRight (N : NC) : CH
  | [.agg l], [.rs _ 1 (.ints .u8 xs), .rs _ 1 (.ints .i64 ac)] => match ofCrs l with
    | some (s, .gs 0, .gs 1) => some (N.J.OK xs, .bool (N.RG s xs ac), [])
    | _ => none
  | _, _ => none
def dTurn (N : NC) : CH
  | [.agg l], [.rs _ 1 (.ints .u8 xs), .rs _ 1 (.ints .i64 _)] => match ofCrs l with
    | some (s, .gs 0, .gs 1) => some (true, .int .u8 (N.TR s xs), [])
    | _ => none
  | _, _ => none
def dLegal (N : NC) : CH
  | [.agg l, .int .u8 x], [.rs _ 1 (.ints .u8 xs), .rs _ 1 (.ints .i64 _)] => match ofCrs l with
    | some (s, .gs 0, .gs 1) => some (N.J.OK xs && (N.DK s && N.J.BY x), .bool (N.LG s xs x), [])
    | _ => none
  | _, _ => none
def dMends (N : NC) : CH
  | [.agg l, .int .u8 x], [.rs _ 1 (.ints .u8 xs), .rs _ 1 (.ints .i64 _)] => match ofCrs l with
    | some (s, .gs 0, .gs 1) => some (N.J.OK xs, .bool (N.MN s.h xs x), [])
    | _ => none
  | _, _ => none
def dOpen (N : NC) : CH
  | [.agg l], [.rs _ 1 (.ints .u8 xs), .rs _ 1 (.ints .i64 ac)] => match ofCrs l with
    | some (s, .gs 0, .gs 1) => some (N.J.OK xs, .int .i64 (N.OP s xs ac), [])
    | _ => none
  | _, _ => none
def hTabD (N : NC) (tr : CH) (T : HTab) : HTab := addH 24 (dRight N) (addH 55 tr (addH 58 (dLegal N) (addH 75 (dMends N) (hTabJ N.J T))))
def domD : FuncId → Bool := fun f => Nat.beq f 24 || (Nat.beq f 55 || (Nat.beq f 58 || (Nat.beq f 75 || domJ f)))
noncomputable abbrev orcD (N : NC) (tr : CH) (T : PTab) (LL : FuncId → Loops) : Oracle := inl Tryz.prog ftab T LL 100 never domD (hOrcX nrC (hTabD N tr emptyH)) 20
def cOk (f : FuncId) (g : CH) : Prop := ∀ args h c v nb, g args h = some (c, v, nb) → c = true → Enterable Tryz.prog f ∧ FnOK Tryz.prog f args h v (h ++ nb)
structure NCok (N : NC) : Prop where
  j : N.J = nJ
  rg : N.RG = rgtI
  tr : N.TR = trnI
  lg : N.LG = lgI
  mn : N.MN = mnI
  dk : N.DK = dkB
  ck : N.CK = lenOk
theorem dRight_ok {N : NC} (h : NCok N) : cOk 24 (dRight N) := by
  intro args hp c v nb hq hc
  unfold dRight at hq
  split at hq
  · split at hq
    · rename_i s hs
      cases hq
      rw [h.j] at hc
      rw [ofCrs_ok hs, List.append_nil, h.rg]
      exact ⟨.of Tryz.func24 (by kernel_rfl), right17_fn _ _ hc⟩
    · cases hq
  · cases hq
theorem dTurn_ok {N : NC} (h : NCok N) : cOk 55 (dTurn N) := by
  intro args hp c v nb hq hc
  unfold dTurn at hq
  split at hq
  · split at hq
    · rename_i s hs
      cases hq
      rw [ofCrs_ok hs, List.append_nil, h.tr]
      exact ⟨.of Tryz.func55 (by kernel_rfl), turn37_fn _ _ _ _ _⟩
    · cases hq
  · cases hq
theorem dLegal_ok {N : NC} (h : NCok N) : cOk 58 (dLegal N) := by
  intro args hp c v nb hq hc
  unfold dLegal at hq
  split at hq
  · split at hq
    · rename_i s hs
      cases hq
      rw [h.j, h.dk] at hc
      simp only [Bool.and_eq_true] at hc
      rw [ofCrs_ok hs, List.append_nil, h.lg]
      exact ⟨.of Tryz.func58 (by kernel_rfl), legal38_fn _ _ hc.1 (of_decide_eq_true hc.2.1) hc.2.2⟩
    · cases hq
  · cases hq
theorem dMends_ok {N : NC} (h : NCok N) : cOk 75 (dMends N) := by
  intro args hp c v nb hq hc
  unfold dMends at hq
  split at hq
  · split at hq
    · rename_i s hs
      cases hq
      rw [h.j] at hc
      rw [ofCrs_ok hs, List.append_nil, h.mn]
      exact ⟨.of Tryz.func75 (by kernel_rfl), mends51_fn _ _ _ hc⟩
    · cases hq
  · cases hq
theorem hTabD_ok {N : NC} (h : NCok N) {tr : CH} (htr : cOk 55 tr) {T : HTab} (hT : HTabOk Tryz.prog T) : HTabOk Tryz.prog (hTabD N tr T) :=
  addH_ok (dRight_ok h) (addH_ok htr (addH_ok (dLegal_ok h) (addH_ok (dMends_ok h) (by rw [h.j]; exact hTabJ_ok hT))))
theorem orcD_ok {N : NC} (h : NCok N) {tr : CH} (htr : cOk 55 tr) {T : PTab} (hT : PTabOk Tryz.prog T) {LL : FuncId → Loops} (hL : ∀ f, loopsOk Tryz.prog (LL f)) : OracleOk Tryz.prog (orcD N tr T LL) := inl_ok (hOrcX_ok (hTabD_ok h htr emptyH_ok)) ftab_ok hT hL mixed 20
def tabR : PTab := addTab 57 gRight emptyTab
theorem tabR_ok : PTabOk Tryz.prog tabR := by
  refine addTab_ok ?_ emptyTab_ok
  intro args c v h _
  unfold gRight at h
  split at h
  · cases h; exact right_p _
  · cases h
noncomputable abbrev evD (N : NC) (f : FuncId) (fn : Func) (args : List V) (xs ac : List Int) : Option V := evalFn Tryz.prog (orcD N (dTurn N) tabR plainL) noLoops 100 f fn args (crsH false false xs ac) (fun v _ => some v)
theorem evD_fn {N : NC} (hN : NCok N) {f : FuncId} {fn : Func} (hf : Tryz.prog.funcs[f]? = some fn) {args : List V} {xs ac : List Int} {v : V} (h : evD N f fn args xs ac = some v) (hv : plainV v = true) (n1 n2 : Bool) : FnOK Tryz.prog f args (crsH n1 n2 xs ac) v (crsH n1 n2 xs ac) := by
  obtain ⟨v1, h1, hk1, hok⟩ := evalFn_ok (orcD_ok hN (dTurn_ok hN) tabR_ok plainL_ok) mixed hf noLoops_ok h
  cases hk1
  exact plain_crs (hok.plain hv crs_ro)
theorem open_eval (N : NC) (xs ac : List Int) (s : CD) : evD N 54 Tryz.f54 [.agg (s.vs (.gs 0) (.gs 1))] xs ac = bif N.J.OK xs then bif !N.RG s xs ac then some (.int .i64 100) else bif N.J.OK xs then bif N.J.OV s.d xs then some (.int .i64 101) else some (.int .i64 0) else none else none := by kernel_rfl
theorem over16_eval (N : NC) (xs ac : List Int) (s : CD) : evD N 12 Tryz.f12 [.agg (s.vs (.gs 0) (.gs 1))] xs ac = bif N.J.OK xs then bif !N.RG s xs ac then some (.tuple [.bool false, .int .i64 100]) else bif N.J.OK xs then some (.tuple [.bool (N.J.OV s.d xs), .int .i64 0]) else none else none := by kernel_rfl
noncomputable def kdR (k : Int) : Option V := some (.tuple [.int .u8 k, .int .i64 0])
noncomputable def kdE (N : NC) (s : CD) (y x : Int) (xs : List Int) : Option V := bif decide ((wr .u8 (wr .u8 (y + 4) - N.TR s xs)).tmod 4 = 1) then kdR 3 else bif decide ((wr .u8 (wr .u8 (y + 4) - N.TR s xs)).tmod 4 = 2) then kdR 4 else bif decide ((wr .u8 (wr .u8 (y + 4) - N.TR s xs)).tmod 4 = 3) then kdR 5 else
  bif N.J.OK xs && (N.DK s && N.J.BY x) then bif N.LG s xs x then kdR 0 else bif N.J.OK xs then bif N.J.LW xs x then kdR 1 else
    bif decide (x = 1) then bif N.J.OK xs && N.J.BY x then bif !N.J.FR s.d xs x then kdR 2 else kdR 7 else none else bif decide (x = 2) then bif N.J.OK xs && N.J.BY x then bif !N.J.FR s.d xs x then kdR 2 else kdR 7 else none else kdR 7 else none else none
theorem kind_eval (N : NC) (xs ac : List Int) (s : CD) (y x : Int) : evD N 18 Tryz.f18 [.agg (s.vs (.gs 0) (.gs 1)), .int .u8 y, .int .u8 x] xs ac = bif N.J.OK xs then bif !N.RG s xs ac then some (.tuple [.int .u8 0, .int .i64 100]) else bif decide (3 < y) then some (.tuple [.int .u8 0, .int .i64 2]) else bif !decide (x ≤ 37) then some (.tuple [.int .u8 0, .int .i64 80]) else
    bif N.J.OK xs then bif N.J.OV s.d xs then kdR 6 else kdE N s y x xs else none else none := by kernel_rfl
end Go.Proofs.YtojlmpcbplepcaaGreat
