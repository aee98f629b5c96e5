/- Texts merged: Dp, Cc. -/
import Derived.Test.YtojlmpcbplepcaaLg
/- Chapter 10: copies of lists. -/
namespace Go.Proofs.Ytojlmpcbplepcaa
open Go Go.Eng
theorem copied67_eval (xs : List Int) : evalFn Try.prog (orcE emptyTab plainL) noLoops 100 67 Try.f67 [.gs 0] [.rs false 1 (.ints .u8 xs)] lastK = bif decide (xs.length * 2 ≤ 70368744177664) then some (false, 5, 1, .ints .u8 xs) else none := by kernel_rfl
theorem copied68_eval (xs : List Int) : evalFn Try.prog (orcE emptyTab plainL) noLoops 100 68 Try.f68 [.gs 0] [.rs false 1 (.ints .i64 xs)] lastK = bif decide (xs.length * 9 ≤ 70368744177664) then some (false, 3, 1, .ints .i64 xs) else none := by kernel_rfl
theorem copied67_fn (nn : Bool) {xs : List Int} (h : xs.length ≤ 200000) : FnOK Try.prog 67 [.gs 0] [.rs nn 1 (.ints .u8 xs)] (.gs 1) ([.rs nn 1 (.ints .u8 xs)] ++ [.grow false 5 1 (.ints .u8 xs)]) := by
  have key := copied67_eval xs
  rw [decide_eq_true (show xs.length * 2 ≤ 70368744177664 by omega), cond_true] at key
  obtain ⟨v1, h1, hk1, hok⟩ := evalFn_ok (orcE_ok emptyTab_ok plainL_ok) mixed Try.func67 noLoops_ok key
  exact FnOK.hard rfl (lastK_fn hk1 hok rfl rs_ro)
theorem copied68_fn (nn : Bool) {xs : List Int} (h : xs.length ≤ 200000) : FnOK Try.prog 68 [.gs 0] [.rs nn 1 (.ints .i64 xs)] (.gs 1) ([.rs nn 1 (.ints .i64 xs)] ++ [.grow false 3 1 (.ints .i64 xs)]) := by
  have key := copied68_eval xs
  rw [decide_eq_true (show xs.length * 9 ≤ 70368744177664 by omega), cond_true] at key
  obtain ⟨v1, h1, hk1, hok⟩ := evalFn_ok (orcE_ok emptyTab_ok plainL_ok) mixed Try.func68 noLoops_ok key
  exact FnOK.hard rfl (lastK_fn hk1 hok rfl rs_ro)
def lenOk (xs : List Int) : Bool := decide (xs.length ≤ 200000)
def cpU (K : List Int → Bool) : List V → List Blk → Option (Bool × V × List Blk)
  | [.gs 0], [.rs _ 1 (.ints .u8 xs)] => some (K xs, .gs 1, [.grow false 5 1 (.ints .u8 xs)])
  | _, _ => none
def cpI (K : List Int → Bool) : List V → List Blk → Option (Bool × V × List Blk)
  | [.gs 0], [.rs _ 1 (.ints .i64 xs)] => some (K xs, .gs 1, [.grow false 3 1 (.ints .i64 xs)])
  | _, _ => none
def hTabCp (K : List Int → Bool) : HTab := addH 67 (cpU K) (addH 68 (cpI K) emptyH)
theorem hTabCp_ok : HTabOk Try.prog (hTabCp lenOk) := by
  refine addH_ok ?_ (addH_ok ?_ emptyH_ok)
  · intro args h c v nb hq hc
    unfold cpU at hq
    split at hq
    · cases hq; exact ⟨.of Try.func67 (by kernel_rfl), copied67_fn _ (of_decide_eq_true hc)⟩
    · cases hq
  · intro args h c v nb hq hc
    unfold cpI at hq
    split at hq
    · cases hq; exact ⟨.of Try.func68 (by kernel_rfl), copied68_fn _ (of_decide_eq_true hc)⟩
    · cases hq
def isCp : FuncId → Bool := fun f => Nat.beq f 67 || Nat.beq f 68
def nrCp : FuncId → Option Row := fun f => bif Nat.beq f 67 then some (.ints .u8 []) else some (.ints .i64 [])
noncomputable abbrev orcCp (K : List Int → Bool) (T : PTab) (LL : FuncId → Loops) : Oracle := inl Try.prog ftab T LL 100 never isCp (hOrcP nrCp (hTabCp K)) 20
theorem orcCp_ok {T : PTab} (hT : PTabOk Try.prog T) {LL : FuncId → Loops} (hL : ∀ f, loopsOk Try.prog (LL f)) : OracleOk Try.prog (orcCp lenOk T LL) := inl_ok (hOrcP_ok hTabCp_ok) ftab_ok hT hL mixed 20
/-- A function's answer: a course and a number. -/
def crsA (n1 n2 : Bool) (t : List TV) : Tm := ⟨[some (.tuple (.agg (crsT (.gs 2) (.gs 3)) :: t))], [.rs n1 1 (.ints .u8), .rs n2 1 (.ints .i64), .grow false 5 1 (.ints .u8), .grow false 3 1 (.ints .i64)], []⟩
def crsA1 (n1 n2 : Bool) : Tm := ⟨[some (.agg (crsT (.gs 2) (.gs 3)))], [.rs n1 1 (.ints .u8), .rs n2 1 (.ints .i64), .grow false 5 1 (.ints .u8), .grow false 3 1 (.ints .i64)], []⟩
end Go.Proofs.Ytojlmpcbplepcaa

/- Chapter 10: the contracts over courses as names; open, Over, Turn, Kind. -/
namespace Go.Proofs.Ytojlmpcbplepcaa
open Go Go.Eng
structure NC where
  J : NJ
  RG : CD → List Int → List Int → Bool
  TR : CD → List Int → Int
  LG : CD → List Int → Int → Bool
  MN : Int → List Int → Int → Bool
  DK : CD → Bool
  CK : List Int → Bool
  OP : CD → List Int → List Int → Int
  KV : CD → List Int → List Int → Int → Int → Int
  KE : CD → List Int → List Int → Int → Int → Int
  SU : Int → Int
def dkB (s : CD) : Bool := decide (0 ≤ s.d ∧ s.d < 256)
def opI (s : CD) (xs ac : List Int) : Int := bif rgtI s xs ac then (bif ovI s.d xs then 101 else 0) else 100
abbrev CH := List V → List Blk → Option (Bool × V × List Blk)
def dRight (N : NC) : CH
  | [.agg l], [.rs _ 1 (.ints .u8 xs), .rs _ 1 (.ints .i64 ac)] => match ofCrs l with
    | some (s, .gs 0, .gs 1) => some (N.J.OK xs, .bool (N.RG s xs ac), [])
    | _ => none
  | _, _ => none
def dTurn (N : NC) : CH
  | [.agg l], [.rs _ 1 (.ints .u8 xs), .rs _ 1 (.ints .i64 _)] => match ofCrs l with
    | some (s, .gs 0, .gs 1) => some (true, .int .u8 (N.TR s xs), [])
    | _ => none
  | _, _ => none
def dLegal (N : NC) : CH
  | [.agg l, .int .u8 x], [.rs _ 1 (.ints .u8 xs), .rs _ 1 (.ints .i64 _)] => match ofCrs l with
    | some (s, .gs 0, .gs 1) => some (N.J.OK xs && (N.DK s && N.J.BY x), .bool (N.LG s xs x), [])
    | _ => none
  | _, _ => none
def dMends (N : NC) : CH
  | [.agg l, .int .u8 x], [.rs _ 1 (.ints .u8 xs), .rs _ 1 (.ints .i64 _)] => match ofCrs l with
    | some (s, .gs 0, .gs 1) => some (N.J.OK xs, .bool (N.MN s.h xs x), [])
    | _ => none
  | _, _ => none
def dOpen (N : NC) : CH
  | [.agg l], [.rs _ 1 (.ints .u8 xs), .rs _ 1 (.ints .i64 ac)] => match ofCrs l with
    | some (s, .gs 0, .gs 1) => some (N.J.OK xs, .int .i64 (N.OP s xs ac), [])
    | _ => none
  | _, _ => none
def hTabD (N : NC) (tr : CH) (T : HTab) : HTab := addH 17 (dRight N) (addH 37 tr (addH 38 (dLegal N) (addH 51 (dMends N) (hTabJ N.J T))))
def domD : FuncId → Bool := fun f => Nat.beq f 17 || (Nat.beq f 37 || (Nat.beq f 38 || (Nat.beq f 51 || domJ f)))
noncomputable abbrev orcD (N : NC) (tr : CH) (T : PTab) (LL : FuncId → Loops) : Oracle := inl Try.prog ftab T LL 100 never domD (hOrcX nrC (hTabD N tr emptyH)) 20
def cOk (f : FuncId) (g : CH) : Prop := ∀ args h c v nb, g args h = some (c, v, nb) → c = true → Enterable Try.prog f ∧ FnOK Try.prog f args h v (h ++ nb)
/-- What is known so far. -/
structure NCok (N : NC) : Prop where
  j : N.J = nJ
  rg : N.RG = rgtI
  tr : N.TR = trnI
  lg : N.LG = lgI
  mn : N.MN = mnI
  dk : N.DK = dkB
  ck : N.CK = lenOk
theorem dRight_ok {N : NC} (h : NCok N) : cOk 17 (dRight N) := by
  intro args hp c v nb hq hc
  unfold dRight at hq
  split at hq
  · split at hq
    · rename_i s hs
      cases hq
      rw [h.j] at hc
      rw [ofCrs_ok hs, List.append_nil, h.rg]
      exact ⟨.of Try.func17 (by kernel_rfl), right17_fn _ _ hc⟩
    · cases hq
  · cases hq
theorem dTurn_ok {N : NC} (h : NCok N) : cOk 37 (dTurn N) := by
  intro args hp c v nb hq hc
  unfold dTurn at hq
  split at hq
  · split at hq
    · rename_i s hs
      cases hq
      rw [ofCrs_ok hs, List.append_nil, h.tr]
      exact ⟨.of Try.func37 (by kernel_rfl), turn37_fn _ _ _ _ _⟩
    · cases hq
  · cases hq
theorem dLegal_ok {N : NC} (h : NCok N) : cOk 38 (dLegal N) := by
  intro args hp c v nb hq hc
  unfold dLegal at hq
  split at hq
  · split at hq
    · rename_i s hs
      cases hq
      rw [h.j, h.dk] at hc
      simp only [Bool.and_eq_true] at hc
      rw [ofCrs_ok hs, List.append_nil, h.lg]
      exact ⟨.of Try.func38 (by kernel_rfl), legal38_fn _ _ hc.1 (of_decide_eq_true hc.2.1) hc.2.2⟩
    · cases hq
  · cases hq
theorem dMends_ok {N : NC} (h : NCok N) : cOk 51 (dMends N) := by
  intro args hp c v nb hq hc
  unfold dMends at hq
  split at hq
  · split at hq
    · rename_i s hs
      cases hq
      rw [h.j] at hc
      rw [ofCrs_ok hs, List.append_nil, h.mn]
      exact ⟨.of Try.func51 (by kernel_rfl), mends51_fn _ _ _ hc⟩
    · cases hq
  · cases hq
theorem hTabD_ok {N : NC} (h : NCok N) {tr : CH} (htr : cOk 37 tr) {T : HTab} (hT : HTabOk Try.prog T) : HTabOk Try.prog (hTabD N tr T) :=
  addH_ok (dRight_ok h) (addH_ok htr (addH_ok (dLegal_ok h) (addH_ok (dMends_ok h) (by rw [h.j]; exact hTabJ_ok hT))))
theorem orcD_ok {N : NC} (h : NCok N) {tr : CH} (htr : cOk 37 tr) {T : PTab} (hT : PTabOk Try.prog T) {LL : FuncId → Loops} (hL : ∀ f, loopsOk Try.prog (LL f)) : OracleOk Try.prog (orcD N tr T LL) := inl_ok (hOrcX_ok (hTabD_ok h htr emptyH_ok)) ftab_ok hT hL mixed 20
def tabR : PTab := addTab 35 gRight emptyTab
theorem tabR_ok : PTabOk Try.prog tabR := by
  refine addTab_ok ?_ emptyTab_ok
  intro args c v h _
  unfold gRight at h
  split at h
  · cases h; exact right_p _
  · cases h
noncomputable abbrev evD (N : NC) (f : FuncId) (fn : Func) (args : List V) (xs ac : List Int) : Option V := evalFn Try.prog (orcD N (dTurn N) tabR plainL) noLoops 100 f fn args (crsH false false xs ac) (fun v _ => some v)
theorem evD_fn {N : NC} (hN : NCok N) {f : FuncId} {fn : Func} (hf : Try.prog.funcs[f]? = some fn) {args : List V} {xs ac : List Int} {v : V} (h : evD N f fn args xs ac = some v) (hv : plainV v = true) (n1 n2 : Bool) : FnOK Try.prog f args (crsH n1 n2 xs ac) v (crsH n1 n2 xs ac) := by
  obtain ⟨v1, h1, hk1, hok⟩ := evalFn_ok (orcD_ok hN (dTurn_ok hN) tabR_ok plainL_ok) mixed hf noLoops_ok h
  cases hk1
  exact plain_crs (hok.plain hv crs_ro)
theorem open_eval (N : NC) (xs ac : List Int) (s : CD) : evD N 48 Try.f48 [.agg (s.vs (.gs 0) (.gs 1))] xs ac = bif N.J.OK xs then bif !N.RG s xs ac then some (.int .i64 100) else bif N.J.OK xs then bif N.J.OV s.d xs then some (.int .i64 101) else some (.int .i64 0) else none else none := by kernel_rfl
theorem over16_eval (N : NC) (xs ac : List Int) (s : CD) : evD N 16 Try.f16 [.agg (s.vs (.gs 0) (.gs 1))] xs ac = bif N.J.OK xs then bif !N.RG s xs ac then some (.tuple [.bool false, .int .i64 100]) else bif N.J.OK xs then some (.tuple [.bool (N.J.OV s.d xs), .int .i64 0]) else none else none := by kernel_rfl
noncomputable def kdR (k : Int) : Option V := some (.tuple [.int .u8 k, .int .i64 0])
noncomputable def kdE (N : NC) (s : CD) (y x : Int) (xs : List Int) : Option V := bif decide ((wr .u8 (wr .u8 (y + 4) - N.TR s xs)).tmod 4 = 1) then kdR 3 else bif decide ((wr .u8 (wr .u8 (y + 4) - N.TR s xs)).tmod 4 = 2) then kdR 4 else bif decide ((wr .u8 (wr .u8 (y + 4) - N.TR s xs)).tmod 4 = 3) then kdR 5 else
  bif N.J.OK xs && (N.DK s && N.J.BY x) then bif N.LG s xs x then kdR 0 else bif N.J.OK xs then bif N.J.LW xs x then kdR 1 else
    bif decide (x = 1) then bif N.J.OK xs && N.J.BY x then bif !N.J.FR s.d xs x then kdR 2 else kdR 7 else none else bif decide (x = 2) then bif N.J.OK xs && N.J.BY x then bif !N.J.FR s.d xs x then kdR 2 else kdR 7 else none else kdR 7 else none else none
theorem kind_eval (N : NC) (xs ac : List Int) (s : CD) (y x : Int) : evD N 11 Try.f11 [.agg (s.vs (.gs 0) (.gs 1)), .int .u8 y, .int .u8 x] xs ac = bif N.J.OK xs then bif !N.RG s xs ac then some (.tuple [.int .u8 0, .int .i64 100]) else bif decide (3 < y) then some (.tuple [.int .u8 0, .int .i64 2]) else bif !decide (x ≤ 37) then some (.tuple [.int .u8 0, .int .i64 80]) else
    bif N.J.OK xs then bif N.J.OV s.d xs then kdR 6 else kdE N s y x xs else none else none := by kernel_rfl
end Go.Proofs.Ytojlmpcbplepcaa
