/- Texts merged: RD, RE. -/
import Derived.Test.YtnhilofmafjdpaaDoorRC
import Derived.Test.YtnhilofmafjdpaaDoorTrn
import Derived.Test.YtnhilofmafjdpaaDoorRB
/- Chapter 9: the reference: Check: one round. -/
namespace Go.Proofs.YtnhilofmafjdpaaDoor
open Go Go.Eng
structure RG where
  F : RF
  EN : List Int → Bool
  AL : List Int → Int → Bool
def rG : RG := ⟨rF, endV, alwV⟩
def gREnd (R : RG) : List V → List Blk → Option (Bool × V × List Blk)
  | [.gs 0], [.rs _ 1 (.ints .u8 xs)] => some (R.F.KS xs, .bool (R.EN xs), [])
  | _, _ => none
def gRAlw (R : RG) : List V → List Blk → Option (Bool × V × List Blk)
  | [.gs 0, .int .u8 c], [.rs _ 1 (.ints .u8 xs)] => some (R.F.KS xs, .bool (R.AL xs c), [])
  | _, _ => none
noncomputable def hTabG (R : RG) : HTab := addH 62 (gREnd R) (addH 63 (gRAlw R) (hTabR R.F))
def domG : FuncId → Bool := fun f => Nat.beq f 62 || (Nat.beq f 63 || domR1 f)
theorem hTabG_ok : HTabOk Tryd.prog (hTabG rG) := by
  refine addH_ok ?_ (addH_ok ?_ hTabR_ok)
  · intro args h c v nb hq hc
    unfold gREnd at hq
    split at hq
    · cases hq; exact ⟨.of Tryd.func62 (by kernel_rfl), by rw [List.append_nil]; exact ended_fn _ hc⟩
    · cases hq
  · intro args h c v nb hq hc
    unfold gRAlw at hq
    split at hq
    · cases hq; exact ⟨.of Tryd.func63 (by kernel_rfl), by rw [List.append_nil]; exact allowed_fn _ hc⟩
    · cases hq
noncomputable abbrev orcG (R : RG) (T : PTab) (LL : FuncId → Loops) : Oracle := inl Tryd.prog ftab T LL 100 never domG (hOrcP nrB (hTabG R)) 20
theorem orcG_ok {T : PTab} (hT : PTabOk Tryd.prog T) {LL : FuncId → Loops} (hL : ∀ f, loopsOk Tryd.prog (LL f)) : OracleOk Tryd.prog (orcG rG T LL) := inl_ok (hOrcP_ok hTabG_ok) ftab_ok hT hL mixed 20
noncomputable def ckLp : Code := loopOf 4 Tryd.f38
def ckT (nn : Bool) : Tm := ⟨mkS [(0, .int .u8), (1, .gs 0), (4, .int .i64), (5, .int .i64), (6, .int .i64)] 0 36, [.rs nn 1 u8s], []⟩
def ckX (nn : Bool) : Tm := ⟨mkS [(4, .int .i64), (5, .int .i64)] 0 36, [.rs nn 1 u8s], []⟩
noncomputable def ckG (R : RG) (i c : Int) (xs P : List Int) (E80 E90 E2 Zn : RT) : RT := bif decide (37 < c) then E80 else bif decide (0 ≤ (0 : Int) ∧ 0 ≤ i ∧ i ≤ Int.ofNat xs.length) then bif decide (0 + (i.toNat - 0) ≤ xs.length) then bif R.F.KS P then bif R.EN P then E90 else
  bif decide (0 ≤ (0 : Int) ∧ 0 ≤ i ∧ i ≤ Int.ofNat xs.length) then atU xs i (fun c => bif decide (0 + (i.toNat - 0) ≤ xs.length) then bif R.F.KS P then bif !R.AL P c then E2 else Zn else none else none) else none else none else none else none
theorem ck_round (R : RG) (nn : Bool) (rd : Option Nat) (d a e i : Int) (xs : List Int) : roundT Tryd.prog (orcG R emptyTab plainL) noLoops 100 1 rd 38 ckLp (ckT nn) (ckX nn) [.i d, .i a, .i e, .i i, .l xs] =
    bif decide (i < Int.ofNat xs.length) then atU xs i (fun c => ckG R i c xs (List.take (i.toNat - 0) xs) (some (.ret, [.i i, .i 80, .l xs], [])) (some (.ret, [.i i, .i 90, .l xs], [])) (some (.ret, [.i i, .i 2, .l xs], [])) (some (.normal, [.i d, .i a, .i e, .i (wr .i64 (i + 1)), .l xs], []))) else some (.exit 0, [.i a, .i e, .l xs], []) := by cases nn <;> kernel_rfl
theorem fol_split {d : Int} {xs : List Int} {i : Nat} (h : (fol d (xs.take i)).e = 0) (hi : i < xs.length) (hc : chk (fol d (xs.take i)).s xs[i] ≠ 0) : (fol d xs).e = chk (fol d (xs.take i)).s xs[i] ∧ (fol d xs).at_ = (i : Int) := by
  have hb := fol_bad h hc (xs.drop (i + 1))
  rw [← List.drop_eq_getElem_cons hi, List.take_append_drop, List.length_take, Nat.min_eq_left (by omega)] at hb
  exact hb
theorem fol_at {d : Int} {xs : List Int} (h : (fol d xs).e = 0) : (fol d xs).at_ = -1 := by
  have hd := fol_d h
  unfold fol at h ⊢
  rw [decide_eq_false (show ¬ 3 < d by omega)] at h ⊢
  exact flw_st xs 0 _ h
theorem fol_next {d : Int} {xs : List Int} {i : Nat} (h : (fol d (xs.take i)).e = 0) (hi : i < xs.length) (hc : chk (fol d (xs.take i)).s xs[i] = 0) : (fol d (xs.take (i + 1))).e = 0 := by
  rw [List.take_succ_eq_append_getElem hi, fol_snoc h, decide_eq_true hc]; rfl
def ckFin (d a e : Int) (xs : List Int) : XE × List PV := if (fol d xs).e = 0 then (.exit 0, [.i a, .i e, .l xs]) else (.ret, [.i (fol d xs).at_, .i (fol d xs).e, .l xs])
theorem ck_loop (nn : Bool) (rd : Option Nat) (d a e : Int) (xs : List Int) (hk : okA d xs = true) (hl : xs.length ≤ 1000000) : ∀ i : Nat, (i ≤ xs.length ∧ (fol d (xs.take i)).e = 0) →
    SimC Tryd.prog 1 rd (.loop ckLp) ((ckT nn).at [.i d, .i a, .i e, .i (i : Int), .l xs]) (ckFin d a e xs).1 ((ckX nn).at (ckFin d a e xs).2) := by
  refine loop_of_rounds (C := orcG rG emptyTab plainL) (L := noLoops) (N := 100) (me := 38) (T := ckT nn) (T' := ckX nn) (orcG_ok emptyTab_ok plainL_ok) mixed noLoops_ok (by cases nn <;> kernel_rfl) (by cases nn <;> kernel_rfl) (X := Nat)
    (fun i => [.i d, .i a, .i e, .i (i : Int), .l xs]) (fun i => i ≤ xs.length ∧ (fol d (xs.take i)).e = 0) (fun i => xs.length - i) (fun _ => ckFin d a e xs) ?_
  rintro i ⟨hi, hr⟩
  have h := ck_round rG nn rd d a e (i : Int) xs
  have hof : Int.ofNat xs.length = (xs.length : Int) := rfl
  rcases Nat.lt_or_ge i xs.length with hlt | hge
  · have hkP : okA d (xs.take i) = true := by
      have hu := okA_U hk
      simp only [okA, smallL, Bool.and_eq_true, decide_eq_true_eq] at hk ⊢
      refine ⟨hk.1, by rw [List.length_take]; omega, ?_⟩
      rw [allU_iff] at hu ⊢
      exact fun x hx => hu x (List.mem_of_mem_take hx)
    have hx : 0 ≤ xs[i] ∧ xs[i] < 256 := by have hu := okA_U hk; rw [allU_iff] at hu; exact hu _ (List.getElem_mem hlt)
    have hks : rG.F.KS (xs.take i) = true := by show smallL (xs.take i) = true; simp only [okA, Bool.and_eq_true] at hkP; exact hkP.2.1
    have hen : rG.EN (xs.take i) = ovr (fol d (xs.take i)).s := end_is hkP hr
    have hb1 : decide (0 ≤ (0 : Int) ∧ 0 ≤ (i : Int) ∧ (i : Int) ≤ Int.ofNat xs.length) = true := decide_eq_true (by omega)
    have hb2 : decide (0 + ((i : Int).toNat - 0) ≤ xs.length) = true := decide_eq_true (show 0 + (i - 0) ≤ xs.length by omega)
    rw [decide_eq_true (show (i : Int) < Int.ofNat xs.length by omega), cond_true, atU_at hlt, wr64 (by omega) (by omega), show ((i : Int).toNat - 0) = i from rfl] at h
    unfold ckG at h
    rw [hb1, hb2, hks, hen, atU_at hlt] at h
    have hbad : chk (fol d (xs.take i)).s xs[i] ≠ 0 → ckFin d a e xs = (.ret, [.i (i : Int), .i (chk (fol d (xs.take i)).s xs[i]), .l xs]) := fun hc => by
      obtain ⟨f1, f2⟩ := fol_split hr hlt hc
      unfold ckFin
      rw [f1, f2, if_neg hc]
    by_cases h37 : 37 < xs[i]
    · rw [decide_eq_true h37, cond_true] at h
      have hc := chk_big (s := (fol d (xs.take i)).s) h37
      have := hbad (by rw [hc]; omega)
      rw [hc] at this
      exact ⟨_, _, _, h, codes0, .inr ⟨by simp, this.symm⟩⟩
    · rw [decide_eq_false h37] at h
      cases ho : ovr (fol d (xs.take i)).s with
      | true =>
        rw [ho] at h
        have hc := chk_over ho (show xs[i] ≤ 37 by omega)
        have := hbad (by rw [hc]; omega)
        rw [hc] at this
        exact ⟨_, _, _, h, codes0, .inr ⟨by simp, this.symm⟩⟩
      | false =>
        rw [ho] at h
        have hal : rG.AL (xs.take i) xs[i] = decide (chk (fol d (xs.take i)).s xs[i] = 0) := alw_is hkP hr ho (by omega)
        rw [hal] at h
        by_cases hc : chk (fol d (xs.take i)).s xs[i] = 0
        · rw [decide_eq_true hc] at h
          exact ⟨_, _, _, h, codes0, .inl ⟨rfl, i + 1, rfl, ⟨by omega, fol_next hr hlt hc⟩, by omega, rfl⟩⟩
        · rw [decide_eq_false hc] at h
          have h2 := chk_two ho (show xs[i] ≤ 37 by omega)
          rw [decide_eq_false hc] at h2
          have := hbad hc
          rw [h2] at this
          exact ⟨_, _, _, h, codes0, .inr ⟨by simp, this.symm⟩⟩
  · obtain rfl : i = xs.length := by omega
    rw [List.take_length] at hr
    rw [decide_eq_false (by omega), cond_false] at h
    exact ⟨_, _, _, h, codes0, .inr ⟨by simp, by unfold ckFin; rw [if_pos hr]⟩⟩
noncomputable def ckTree (C : Int → List Int → Bool) (E A : Int → List Int → Int) (nn : Bool) : List PV → Fin
  | [.i d, .i a, .i e, .i i, .l xs] => .br (decide (i = 0) && C d xs) (.br (decide (E d xs = 0)) (.leaf (.exit 0) ((ckX nn).at [.i a, .i e, .l xs])) (.leaf .ret ((ckX nn).at [.i (A d xs), .i (E d xs), .l xs]))) .no
  | _ => .no
def ckC (d : Int) (xs : List Int) : Bool := okA d xs && decide (d ≤ 3 ∧ xs.length ≤ 1000000)
noncomputable def ckL (C : Int → List Int → Bool) (E A : Int → List Int → Int) (nn : Bool) : Loops := sums (fun n => match n with | 4 => some (lsumF 1 (ckT nn) ckLp (ckTree C E A nn)) | _ => none)
theorem ckL_ok (nn : Bool) : loopsOk Tryd.prog (ckL ckC (fun d xs => (fol d xs).e) (fun d xs => (fol d xs).at_) nn) := by
  intro n g hg
  simp only [ckL, sums] at hg
  split at hg
  · cases hg
    refine lsumF_ok (by cases nn <;> kernel_rfl) (fun rd ps e1 st1 hq => ?_)
    unfold ckTree at hq
    split at hq
    · rename_i d a e i xs
      simp only [Fin.pick] at hq
      cases hc : (decide (i = 0) && ckC d xs) with
      | false => rw [hc] at hq; cases hq
      | true =>
        rw [hc, cond_true] at hq
        simp only [ckC, Bool.and_eq_true, decide_eq_true_eq] at hc
        obtain ⟨rfl, h1, h2, h3⟩ := hc
        have h := ck_loop nn rd d a e xs h1 h3 0 ⟨Nat.zero_le _, by rw [List.take_zero, fol_nil h2]⟩
        unfold ckFin at h
        by_cases hz : (fol d xs).e = 0
        · rw [if_pos hz] at h; rw [decide_eq_true hz] at hq; cases hq; exact h
        · rw [if_neg hz] at h; rw [decide_eq_false hz] at hq; cases hq; exact h
    · cases hq
  · cases hg
theorem rcheck_eval (R : RG) (C : Int → List Int → Bool) (E A : Int → List Int → Int) (nn : Bool) (d : Int) (xs : List Int) : evalFn Tryd.prog (orcG R emptyTab plainL) (ckL C E A nn) 100 38 Tryd.f38 [.int .u8 d, .gs 0] [.rs nn 1 (.ints .u8 xs)] (fun v _ => some v) =
    bif decide (3 < d) then some (.tuple [.int .i64 (-1), .int .i64 2]) else cond (codesB [(ckLp, ckLp)]) (bif decide ((0 : Int) = 0) && C d xs then bif decide (E d xs = 0) then some (.tuple [.int .i64 (-1), .int .i64 0]) else some (.tuple [.int .i64 (A d xs), .int .i64 (E d xs)]) else none) none := by cases nn <;> kernel_rfl
def kR (d : Int) (xs : List Int) : Bool := okA d xs && decide (xs.length ≤ 1000000)
theorem rcheck_fn (nn : Bool) {d : Int} {xs : List Int} (h : kR d xs = true) : FnOK Tryd.prog 38 [.int .u8 d, .gs 0] [.rs nn 1 (.ints .u8 xs)] (.tuple [.int .i64 (fol d xs).at_, .int .i64 (fol d xs).e]) [.rs nn 1 (.ints .u8 xs)] := by
  simp only [kR, Bool.and_eq_true, decide_eq_true_eq] at h
  have hv : evalFn Tryd.prog (orcG rG emptyTab plainL) (ckL ckC (fun d xs => (fol d xs).e) (fun d xs => (fol d xs).at_) nn) 100 38 Tryd.f38 [.int .u8 d, .gs 0] [.rs nn 1 (.ints .u8 xs)] (fun v _ => some v) = some (.tuple [.int .i64 (fol d xs).at_, .int .i64 (fol d xs).e]) := by
    rw [rcheck_eval]
    by_cases hd : 3 < d
    · rw [decide_eq_true hd, fol_high hd]; rfl
    · rw [decide_eq_false hd, lpCd, show ckC d xs = true by unfold ckC; rw [h.1, decide_eq_true (by omega)]; rfl]
      by_cases hz : (fol d xs).e = 0
      · rw [decide_eq_true hz, hz]
        have ha : (fol d xs).at_ = -1 := fol_at hz
        rw [ha]; rfl
      · rw [decide_eq_false hz]; rfl
  obtain ⟨v1, h1, hk, hok⟩ := evalFn_ok (orcG_ok emptyTab_ok plainL_ok) mixed Tryd.func38 (ckL_ok nn) hv
  cases hk
  exact hok.plain rfl rs_ro
end Go.Proofs.YtnhilofmafjdpaaDoor

/- Chapter 9: the reference: right, Over, Turn. -/
namespace Go.Proofs.YtnhilofmafjdpaaDoor
open Go Go.Eng
structure RH where
  G : RG
  CA : Int → List Int → Int
  CE : Int → List Int → Int
  KR : Int → List Int → Bool
  SE : Int → Int → Int
def rH : RH := ⟨rG, fun d xs => (fol d xs).at_, fun d xs => (fol d xs).e, kR, fun d i => (d + i) % 4⟩
def gRCheck (R : RH) : List V → List Blk → Option (Bool × V × List Blk)
  | [.int .u8 d, .gs 0], [.rs _ 1 (.ints .u8 xs)] => some (R.KR d xs, .tuple [.int .i64 (R.CA d xs), .int .i64 (R.CE d xs)], [])
  | _, _ => none
noncomputable def hTabH1 (R : RH) : HTab := addH 38 (gRCheck R) (hTabG R.G)
def domH1 : FuncId → Bool := fun f => Nat.beq f 38 || domG f
theorem hTabH1_ok : HTabOk Tryd.prog (hTabH1 rH) := by
  refine addH_ok ?_ hTabG_ok
  intro args h c v nb hq hc
  unfold gRCheck at hq
  split at hq
  · cases hq; exact ⟨.of Tryd.func38 (by kernel_rfl), by rw [List.append_nil]; exact rcheck_fn _ hc⟩
  · cases hq
noncomputable abbrev orcH1 (R : RH) (T : PTab) (LL : FuncId → Loops) : Oracle := inl Tryd.prog ftab T LL 100 never domH1 (hOrcP nrB (hTabH1 R)) 20
theorem orcH1_ok {T : PTab} (hT : PTabOk Tryd.prog T) {LL : FuncId → Loops} (hL : ∀ f, loopsOk Tryd.prog (LL f)) : OracleOk Tryd.prog (orcH1 rH T LL) := inl_ok (hOrcP_ok hTabH1_ok) ftab_ok hT hL mixed 20
theorem right_eval2 (R : RH) (nn : Bool) (d : Int) (xs : List Int) : evalFn Tryd.prog (orcH1 R emptyTab plainL) noLoops 100 64 Tryd.f64 [.int .u8 d, .gs 0] [.rs nn 1 (.ints .u8 xs)] (fun v _ => some v) = bif R.KR d xs then some (.bool (decide (R.CE d xs = 0))) else none := by cases nn <;> kernel_rfl
theorem rright_fn (nn : Bool) {d : Int} {xs : List Int} (h : kR d xs = true) : FnOK Tryd.prog 64 [.int .u8 d, .gs 0] [.rs nn 1 (.ints .u8 xs)] (.bool (decide ((fol d xs).e = 0))) [.rs nn 1 (.ints .u8 xs)] := by
  have hv := right_eval2 rH nn d xs
  rw [show rH.KR d xs = true from h] at hv
  obtain ⟨v1, h1, hk, hok⟩ := evalFn_ok (orcH1_ok emptyTab_ok plainL_ok) mixed Tryd.func64 noLoops_ok hv
  cases hk
  exact hok.plain rfl rs_ro
def gRRight (R : RH) : List V → List Blk → Option (Bool × V × List Blk)
  | [.int .u8 d, .gs 0], [.rs _ 1 (.ints .u8 xs)] => some (R.KR d xs, .bool (decide (R.CE d xs = 0)), [])
  | _, _ => none
noncomputable def hTabH (R : RH) : HTab := addH 64 (gRRight R) (hTabH1 R)
def domH : FuncId → Bool := fun f => Nat.beq f 64 || domH1 f
theorem hTabH_ok : HTabOk Tryd.prog (hTabH rH) := by
  refine addH_ok ?_ hTabH1_ok
  intro args h c v nb hq hc
  unfold gRRight at hq
  split at hq
  · cases hq; exact ⟨.of Tryd.func64 (by kernel_rfl), by rw [List.append_nil]; exact rright_fn _ hc⟩
  · cases hq
def gSeat (SE : Int → Int → Int) : List V → Option (Bool × V)
  | [.int .u8 d, .int .i64 i] => some (decide (0 ≤ d ∧ d < 256 ∧ 0 ≤ i ∧ i ≤ 1000000), .int .u8 (SE d i))
  | _ => none
def tabSe (SE : Int → Int → Int) (T : PTab) : PTab := addTab 58 (gSeat SE) T
theorem tabSe_ok {T : PTab} (hT : PTabOk Tryd.prog T) : PTabOk Tryd.prog (tabSe (fun d i => (d + i) % 4) T) := by
  refine addTab_ok ?_ hT
  intro args c v h hc
  unfold gSeat at h
  split at h
  · cases h
    simp only [decide_eq_true_eq] at hc
    exact seat_p ⟨hc.1, hc.2.1⟩ hc.2.2
  · cases h
noncomputable abbrev orcH (R : RH) (T : PTab) (LL : FuncId → Loops) : Oracle := inl Tryd.prog ftab T LL 100 never domH (hOrcP nrB (hTabH R)) 20
theorem orcH_ok {T : PTab} (hT : PTabOk Tryd.prog T) {LL : FuncId → Loops} (hL : ∀ f, loopsOk Tryd.prog (LL f)) : OracleOk Tryd.prog (orcH rH T LL) := inl_ok (hOrcP_ok hTabH_ok) ftab_ok hT hL mixed 20
theorem rover_eval (R : RH) (nn : Bool) (d : Int) (xs : List Int) : evalFn Tryd.prog (orcH R emptyTab plainL) noLoops 100 39 Tryd.f39 [.int .u8 d, .gs 0] [.rs nn 1 (.ints .u8 xs)] (fun v _ => some v) =
    bif R.KR d xs then bif !decide (R.CE d xs = 0) then some (.tuple [.bool false, .int .i64 2]) else bif R.G.F.KS xs then some (.tuple [.bool (R.G.EN xs), .int .i64 0]) else none else none := by cases nn <;> kernel_rfl
theorem rturn_eval (R : RH) (nn : Bool) (d : Int) (xs : List Int) : evalFn Tryd.prog (orcH R (tabSe R.SE emptyTab) plainL) noLoops 100 40 Tryd.f40 [.int .u8 d, .gs 0] [.rs nn 1 (.ints .u8 xs)] (fun v _ => some v) =
    bif R.KR d xs then bif !decide (R.CE d xs = 0) then some (.tuple [.int .u8 0, .int .i64 2]) else bif R.G.F.KS xs then bif R.G.EN xs then some (.tuple [.int .u8 0, .int .i64 90]) else bif decide (0 ≤ d ∧ d < 256 ∧ 0 ≤ Int.ofNat xs.length ∧ Int.ofNat xs.length ≤ 1000000) then some (.tuple [.int .u8 (R.SE d (Int.ofNat xs.length)), .int .i64 0]) else none else none else none := by cases nn <;> kernel_rfl
theorem kR_ok {d : Int} {xs : List Int} (h : kR d xs = true) : okA d xs = true ∧ xs.length ≤ 1000000 ∧ smallL xs = true := by
  simp only [kR, Bool.and_eq_true, decide_eq_true_eq] at h
  have h2 := h.1
  simp only [okA, Bool.and_eq_true] at h2
  exact ⟨h.1, h.2, h2.2.1⟩
theorem rover_fn (nn : Bool) {d : Int} {xs : List Int} (h : kR d xs = true) : FnOK Tryd.prog 39 [.int .u8 d, .gs 0] [.rs nn 1 (.ints .u8 xs)] (.tuple [.bool (ovB (fol d xs)), .int .i64 (ovE (fol d xs))]) [.rs nn 1 (.ints .u8 xs)] := by
  obtain ⟨h1, h2, h3⟩ := kR_ok h
  have hv := rover_eval rH nn d xs
  rw [show rH.KR d xs = true from h, show rH.G.F.KS xs = true from h3, show rH.CE d xs = (fol d xs).e from rfl, show rH.G.EN xs = endV xs from rfl] at hv
  have hq : evalFn Tryd.prog (orcH rH emptyTab plainL) noLoops 100 39 Tryd.f39 [.int .u8 d, .gs 0] [.rs nn 1 (.ints .u8 xs)] (fun v _ => some v) = some (.tuple [.bool (ovB (fol d xs)), .int .i64 (ovE (fol d xs))]) := by
    rw [hv]
    unfold ovB ovE okU
    by_cases he : (fol d xs).e = 0
    · rw [decide_eq_true he, end_is h1 he]; rfl
    · rw [decide_eq_false he]; rfl
  obtain ⟨v1, e1, hk, hok⟩ := evalFn_ok (orcH_ok emptyTab_ok plainL_ok) mixed Tryd.func39 noLoops_ok hq
  cases hk
  exact hok.plain rfl rs_ro
theorem rturn_fn (nn : Bool) {d : Int} {xs : List Int} (h : kR d xs = true) : FnOK Tryd.prog 40 [.int .u8 d, .gs 0] [.rs nn 1 (.ints .u8 xs)] (.tuple [.int .u8 (tnV (fol d xs)), .int .i64 (tnE (fol d xs))]) [.rs nn 1 (.ints .u8 xs)] := by
  obtain ⟨h1, h2, h3⟩ := kR_ok h
  have hof : Int.ofNat xs.length = (xs.length : Int) := rfl
  have hv := rturn_eval rH nn d xs
  rw [show rH.KR d xs = true from h, show rH.G.F.KS xs = true from h3, show rH.CE d xs = (fol d xs).e from rfl, show rH.G.EN xs = endV xs from rfl] at hv
  have hq : evalFn Tryd.prog (orcH rH (tabSe rH.SE emptyTab) plainL) noLoops 100 40 Tryd.f40 [.int .u8 d, .gs 0] [.rs nn 1 (.ints .u8 xs)] (fun v _ => some v) = some (.tuple [.int .u8 (tnV (fol d xs)), .int .i64 (tnE (fol d xs))]) := by
    rw [hv]
    unfold tnV tnE okU
    by_cases he : (fol d xs).e = 0
    · have hd := fol_d he
      have hd0 : 0 ≤ d := by simp only [okA, Bool.and_eq_true, decide_eq_true_eq] at h1; exact h1.1
      rw [decide_eq_true he, end_is h1 he, decide_eq_true (show 0 ≤ d ∧ d < 256 ∧ 0 ≤ Int.ofNat xs.length ∧ Int.ofNat xs.length ≤ 1000000 by omega)]
      cases ovr (fol d xs).s with
      | true => rfl
      | false =>
        have ht := (hist h1 he).turn
        rw [ht]; rfl
    · rw [decide_eq_false he]; rfl
  obtain ⟨v1, e1, hk, hok⟩ := evalFn_ok (orcH_ok (tabSe_ok emptyTab_ok) plainL_ok) mixed Tryd.func40 noLoops_ok hq
  cases hk
  exact hok.plain rfl rs_ro
end Go.Proofs.YtnhilofmafjdpaaDoor
