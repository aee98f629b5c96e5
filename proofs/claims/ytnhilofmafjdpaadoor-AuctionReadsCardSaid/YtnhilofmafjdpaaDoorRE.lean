/- Chapter 9: the reference: right, Over, Turn. -/
import Derived.Test.YtnhilofmafjdpaaDoorRD
import Derived.Test.YtnhilofmafjdpaaDoorRB
namespace Go.Proofs.YtnhilofmafjdpaaDoor
open Go Go.Eng
structure RH where
  G : RG
  CA : Int → List Int → Int
  CE : Int → List Int → Int
  KR : Int → List Int → Bool
  SE : Int → Int → Int
def rH : RH := ⟨rG, fun d xs => (fol d xs).at_, fun d xs => (fol d xs).e, kR, fun d i => (d + i) % 4⟩
def gRCheck (R : RH) : List V → List Blk → Option (Bool × V × List Blk)
  | [.int .u8 d, .gs 0], [.rs _ 1 (.ints .u8 xs)] => some (R.KR d xs, .tuple [.int .i64 (R.CA d xs), .int .i64 (R.CE d xs)], [])
  | _, _ => none
noncomputable def hTabH1 (R : RH) : HTab := addH 38 (gRCheck R) (hTabG R.G)
def domH1 : FuncId → Bool := fun f => Nat.beq f 38 || domG f
theorem hTabH1_ok : HTabOk Tryd.prog (hTabH1 rH) := by
  refine addH_ok ?_ hTabG_ok
  intro args h c v nb hq hc
  unfold gRCheck at hq
  split at hq
  · cases hq; exact ⟨.of Tryd.func38 (by kernel_rfl), by rw [List.append_nil]; exact rcheck_fn _ hc⟩
  · cases hq
noncomputable abbrev orcH1 (R : RH) (T : PTab) (LL : FuncId → Loops) : Oracle := inl Tryd.prog ftab T LL 100 never domH1 (hOrcP nrB (hTabH1 R)) 20
theorem orcH1_ok {T : PTab} (hT : PTabOk Tryd.prog T) {LL : FuncId → Loops} (hL : ∀ f, loopsOk Tryd.prog (LL f)) : OracleOk Tryd.prog (orcH1 rH T LL) := inl_ok (hOrcP_ok hTabH1_ok) ftab_ok hT hL mixed 20
theorem right_eval2 (R : RH) (nn : Bool) (d : Int) (xs : List Int) : evalFn Tryd.prog (orcH1 R emptyTab plainL) noLoops 100 64 Tryd.f64 [.int .u8 d, .gs 0] [.rs nn 1 (.ints .u8 xs)] (fun v _ => some v) = bif R.KR d xs then some (.bool (decide (R.CE d xs = 0))) else none := by cases nn <;> kernel_rfl
theorem rright_fn (nn : Bool) {d : Int} {xs : List Int} (h : kR d xs = true) : FnOK Tryd.prog 64 [.int .u8 d, .gs 0] [.rs nn 1 (.ints .u8 xs)] (.bool (decide ((fol d xs).e = 0))) [.rs nn 1 (.ints .u8 xs)] := by
  have hv := right_eval2 rH nn d xs
  rw [show rH.KR d xs = true from h] at hv
  obtain ⟨v1, h1, hk, hok⟩ := evalFn_ok (orcH1_ok emptyTab_ok plainL_ok) mixed Tryd.func64 noLoops_ok hv
  cases hk
  exact hok.plain rfl rs_ro
def gRRight (R : RH) : List V → List Blk → Option (Bool × V × List Blk)
  | [.int .u8 d, .gs 0], [.rs _ 1 (.ints .u8 xs)] => some (R.KR d xs, .bool (decide (R.CE d xs = 0)), [])
  | _, _ => none
noncomputable def hTabH (R : RH) : HTab := addH 64 (gRRight R) (hTabH1 R)
def domH : FuncId → Bool := fun f => Nat.beq f 64 || domH1 f
theorem hTabH_ok : HTabOk Tryd.prog (hTabH rH) := by
  refine addH_ok ?_ hTabH1_ok
  intro args h c v nb hq hc
  unfold gRRight at hq
  split at hq
  · cases hq; exact ⟨.of Tryd.func64 (by kernel_rfl), by rw [List.append_nil]; exact rright_fn _ hc⟩
  · cases hq
def gSeat (SE : Int → Int → Int) : List V → Option (Bool × V)
  | [.int .u8 d, .int .i64 i] => some (decide (0 ≤ d ∧ d < 256 ∧ 0 ≤ i ∧ i ≤ 1000000), .int .u8 (SE d i))
  | _ => none
def tabSe (SE : Int → Int → Int) (T : PTab) : PTab := addTab 58 (gSeat SE) T
theorem tabSe_ok {T : PTab} (hT : PTabOk Tryd.prog T) : PTabOk Tryd.prog (tabSe (fun d i => (d + i) % 4) T) := by
  refine addTab_ok ?_ hT
  intro args c v h hc
  unfold gSeat at h
  split at h
  · cases h
    simp only [decide_eq_true_eq] at hc
    exact seat_p ⟨hc.1, hc.2.1⟩ hc.2.2
  · cases h
noncomputable abbrev orcH (R : RH) (T : PTab) (LL : FuncId → Loops) : Oracle := inl Tryd.prog ftab T LL 100 never domH (hOrcP nrB (hTabH R)) 20
theorem orcH_ok {T : PTab} (hT : PTabOk Tryd.prog T) {LL : FuncId → Loops} (hL : ∀ f, loopsOk Tryd.prog (LL f)) : OracleOk Tryd.prog (orcH rH T LL) := inl_ok (hOrcP_ok hTabH_ok) ftab_ok hT hL mixed 20
theorem rover_eval (R : RH) (nn : Bool) (d : Int) (xs : List Int) : evalFn Tryd.prog (orcH R emptyTab plainL) noLoops 100 39 Tryd.f39 [.int .u8 d, .gs 0] [.rs nn 1 (.ints .u8 xs)] (fun v _ => some v) =
    bif R.KR d xs then bif !decide (R.CE d xs = 0) then some (.tuple [.bool false, .int .i64 2]) else bif R.G.F.KS xs then some (.tuple [.bool (R.G.EN xs), .int .i64 0]) else none else none := by cases nn <;> kernel_rfl
theorem rturn_eval (R : RH) (nn : Bool) (d : Int) (xs : List Int) : evalFn Tryd.prog (orcH R (tabSe R.SE emptyTab) plainL) noLoops 100 40 Tryd.f40 [.int .u8 d, .gs 0] [.rs nn 1 (.ints .u8 xs)] (fun v _ => some v) =
    bif R.KR d xs then bif !decide (R.CE d xs = 0) then some (.tuple [.int .u8 0, .int .i64 2]) else bif R.G.F.KS xs then bif R.G.EN xs then some (.tuple [.int .u8 0, .int .i64 90]) else bif decide (0 ≤ d ∧ d < 256 ∧ 0 ≤ Int.ofNat xs.length ∧ Int.ofNat xs.length ≤ 1000000) then some (.tuple [.int .u8 (R.SE d (Int.ofNat xs.length)), .int .i64 0]) else none else none else none := by cases nn <;> kernel_rfl
theorem kR_ok {d : Int} {xs : List Int} (h : kR d xs = true) : okA d xs = true ∧ xs.length ≤ 1000000 ∧ smallL xs = true := by
  simp only [kR, Bool.and_eq_true, decide_eq_true_eq] at h
  have h2 := h.1
  simp only [okA, Bool.and_eq_true] at h2
  exact ⟨h.1, h.2, h2.2.1⟩
theorem rover_fn (nn : Bool) {d : Int} {xs : List Int} (h : kR d xs = true) : FnOK Tryd.prog 39 [.int .u8 d, .gs 0] [.rs nn 1 (.ints .u8 xs)] (.tuple [.bool (ovB (fol d xs)), .int .i64 (ovE (fol d xs))]) [.rs nn 1 (.ints .u8 xs)] := by
  obtain ⟨h1, h2, h3⟩ := kR_ok h
  have hv := rover_eval rH nn d xs
  rw [show rH.KR d xs = true from h, show rH.G.F.KS xs = true from h3, show rH.CE d xs = (fol d xs).e from rfl, show rH.G.EN xs = endV xs from rfl] at hv
  have hq : evalFn Tryd.prog (orcH rH emptyTab plainL) noLoops 100 39 Tryd.f39 [.int .u8 d, .gs 0] [.rs nn 1 (.ints .u8 xs)] (fun v _ => some v) = some (.tuple [.bool (ovB (fol d xs)), .int .i64 (ovE (fol d xs))]) := by
    rw [hv]
    unfold ovB ovE okU
    by_cases he : (fol d xs).e = 0
    · rw [decide_eq_true he, end_is h1 he]; rfl
    · rw [decide_eq_false he]; rfl
  obtain ⟨v1, e1, hk, hok⟩ := evalFn_ok (orcH_ok emptyTab_ok plainL_ok) mixed Tryd.func39 noLoops_ok hq
  cases hk
  exact hok.plain rfl rs_ro
theorem rturn_fn (nn : Bool) {d : Int} {xs : List Int} (h : kR d xs = true) : FnOK Tryd.prog 40 [.int .u8 d, .gs 0] [.rs nn 1 (.ints .u8 xs)] (.tuple [.int .u8 (tnV (fol d xs)), .int .i64 (tnE (fol d xs))]) [.rs nn 1 (.ints .u8 xs)] := by
  obtain ⟨h1, h2, h3⟩ := kR_ok h
  have hof : Int.ofNat xs.length = (xs.length : Int) := rfl
  have hv := rturn_eval rH nn d xs
  rw [show rH.KR d xs = true from h, show rH.G.F.KS xs = true from h3, show rH.CE d xs = (fol d xs).e from rfl, show rH.G.EN xs = endV xs from rfl] at hv
  have hq : evalFn Tryd.prog (orcH rH (tabSe rH.SE emptyTab) plainL) noLoops 100 40 Tryd.f40 [.int .u8 d, .gs 0] [.rs nn 1 (.ints .u8 xs)] (fun v _ => some v) = some (.tuple [.int .u8 (tnV (fol d xs)), .int .i64 (tnE (fol d xs))]) := by
    rw [hv]
    unfold tnV tnE okU
    by_cases he : (fol d xs).e = 0
    · have hd := fol_d he
      have hd0 : 0 ≤ d := by simp only [okA, Bool.and_eq_true, decide_eq_true_eq] at h1; exact h1.1
      rw [decide_eq_true he, end_is h1 he, decide_eq_true (show 0 ≤ d ∧ d < 256 ∧ 0 ≤ Int.ofNat xs.length ∧ Int.ofNat xs.length ≤ 1000000 by omega)]
      cases ovr (fol d xs).s with
      | true => rfl
      | false =>
        have ht := (hist h1 he).turn
        rw [ht]; rfl
    · rw [decide_eq_false he]; rfl
  obtain ⟨v1, e1, hk, hok⟩ := evalFn_ok (orcH_ok (tabSe_ok emptyTab_ok) plainL_ok) mixed Tryd.func40 noLoops_ok hq
  cases hk
  exact hok.plain rfl rs_ro
end Go.Proofs.YtnhilofmafjdpaaDoor
