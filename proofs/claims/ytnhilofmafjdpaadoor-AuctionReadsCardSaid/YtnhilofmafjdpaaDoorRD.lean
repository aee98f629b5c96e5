/- Chapter 9: the reference: Check: one round. -/
import Derived.Test.YtnhilofmafjdpaaDoorRC
import Derived.Test.YtnhilofmafjdpaaDoorTrn
namespace Go.Proofs.YtnhilofmafjdpaaDoor
open Go Go.Eng
structure RG where
  F : RF
  EN : List Int → Bool
  AL : List Int → Int → Bool
def rG : RG := ⟨rF, endV, alwV⟩
def gREnd (R : RG) : List V → List Blk → Option (Bool × V × List Blk)
  | [.gs 0], [.rs _ 1 (.ints .u8 xs)] => some (R.F.KS xs, .bool (R.EN xs), [])
  | _, _ => none
def gRAlw (R : RG) : List V → List Blk → Option (Bool × V × List Blk)
  | [.gs 0, .int .u8 c], [.rs _ 1 (.ints .u8 xs)] => some (R.F.KS xs, .bool (R.AL xs c), [])
  | _, _ => none
noncomputable def hTabG (R : RG) : HTab := addH 62 (gREnd R) (addH 63 (gRAlw R) (hTabR R.F))
def domG : FuncId → Bool := fun f => Nat.beq f 62 || (Nat.beq f 63 || domR1 f)
theorem hTabG_ok : HTabOk Tryd.prog (hTabG rG) := by
  refine addH_ok ?_ (addH_ok ?_ hTabR_ok)
  · intro args h c v nb hq hc
    unfold gREnd at hq
    split at hq
    · cases hq; exact ⟨.of Tryd.func62 (by kernel_rfl), by rw [List.append_nil]; exact ended_fn _ hc⟩
    · cases hq
  · intro args h c v nb hq hc
    unfold gRAlw at hq
    split at hq
    · cases hq; exact ⟨.of Tryd.func63 (by kernel_rfl), by rw [List.append_nil]; exact allowed_fn _ hc⟩
    · cases hq
noncomputable abbrev orcG (R : RG) (T : PTab) (LL : FuncId → Loops) : Oracle := inl Tryd.prog ftab T LL 100 never domG (hOrcP nrB (hTabG R)) 20
theorem orcG_ok {T : PTab} (hT : PTabOk Tryd.prog T) {LL : FuncId → Loops} (hL : ∀ f, loopsOk Tryd.prog (LL f)) : OracleOk Tryd.prog (orcG rG T LL) := inl_ok (hOrcP_ok hTabG_ok) ftab_ok hT hL mixed 20
noncomputable def ckLp : Code := loopOf 4 Tryd.f38
def ckT (nn : Bool) : Tm := ⟨mkS [(0, .int .u8), (1, .gs 0), (4, .int .i64), (5, .int .i64), (6, .int .i64)] 0 36, [.rs nn 1 u8s], []⟩
def ckX (nn : Bool) : Tm := ⟨mkS [(4, .int .i64), (5, .int .i64)] 0 36, [.rs nn 1 u8s], []⟩
noncomputable def ckG (R : RG) (i c : Int) (xs P : List Int) (E80 E90 E2 Zn : RT) : RT := bif decide (37 < c) then E80 else bif decide (0 ≤ (0 : Int) ∧ 0 ≤ i ∧ i ≤ Int.ofNat xs.length) then bif decide (0 + (i.toNat - 0) ≤ xs.length) then bif R.F.KS P then bif R.EN P then E90 else
  bif decide (0 ≤ (0 : Int) ∧ 0 ≤ i ∧ i ≤ Int.ofNat xs.length) then atU xs i (fun c => bif decide (0 + (i.toNat - 0) ≤ xs.length) then bif R.F.KS P then bif !R.AL P c then E2 else Zn else none else none) else none else none else none else none
theorem ck_round (R : RG) (nn : Bool) (rd : Option Nat) (d a e i : Int) (xs : List Int) : roundT Tryd.prog (orcG R emptyTab plainL) noLoops 100 1 rd 38 ckLp (ckT nn) (ckX nn) [.i d, .i a, .i e, .i i, .l xs] =
    bif decide (i < Int.ofNat xs.length) then atU xs i (fun c => ckG R i c xs (List.take (i.toNat - 0) xs) (some (.ret, [.i i, .i 80, .l xs], [])) (some (.ret, [.i i, .i 90, .l xs], [])) (some (.ret, [.i i, .i 2, .l xs], [])) (some (.normal, [.i d, .i a, .i e, .i (wr .i64 (i + 1)), .l xs], []))) else some (.exit 0, [.i a, .i e, .l xs], []) := by cases nn <;> kernel_rfl
theorem fol_split {d : Int} {xs : List Int} {i : Nat} (h : (fol d (xs.take i)).e = 0) (hi : i < xs.length) (hc : chk (fol d (xs.take i)).s xs[i] ≠ 0) : (fol d xs).e = chk (fol d (xs.take i)).s xs[i] ∧ (fol d xs).at_ = (i : Int) := by
  have hb := fol_bad h hc (xs.drop (i + 1))
  rw [← List.drop_eq_getElem_cons hi, List.take_append_drop, List.length_take, Nat.min_eq_left (by omega)] at hb
  exact hb
theorem fol_at {d : Int} {xs : List Int} (h : (fol d xs).e = 0) : (fol d xs).at_ = -1 := by
  have hd := fol_d h
  unfold fol at h ⊢
  rw [decide_eq_false (show ¬ 3 < d by omega)] at h ⊢
  exact flw_st xs 0 _ h
theorem fol_next {d : Int} {xs : List Int} {i : Nat} (h : (fol d (xs.take i)).e = 0) (hi : i < xs.length) (hc : chk (fol d (xs.take i)).s xs[i] = 0) : (fol d (xs.take (i + 1))).e = 0 := by
  rw [List.take_succ_eq_append_getElem hi, fol_snoc h, decide_eq_true hc]; rfl
def ckFin (d a e : Int) (xs : List Int) : XE × List PV := if (fol d xs).e = 0 then (.exit 0, [.i a, .i e, .l xs]) else (.ret, [.i (fol d xs).at_, .i (fol d xs).e, .l xs])
theorem ck_loop (nn : Bool) (rd : Option Nat) (d a e : Int) (xs : List Int) (hk : okA d xs = true) (hl : xs.length ≤ 1000000) : ∀ i : Nat, (i ≤ xs.length ∧ (fol d (xs.take i)).e = 0) →
    SimC Tryd.prog 1 rd (.loop ckLp) ((ckT nn).at [.i d, .i a, .i e, .i (i : Int), .l xs]) (ckFin d a e xs).1 ((ckX nn).at (ckFin d a e xs).2) := by
  refine loop_of_rounds (C := orcG rG emptyTab plainL) (L := noLoops) (N := 100) (me := 38) (T := ckT nn) (T' := ckX nn) (orcG_ok emptyTab_ok plainL_ok) mixed noLoops_ok (by cases nn <;> kernel_rfl) (by cases nn <;> kernel_rfl) (X := Nat)
    (fun i => [.i d, .i a, .i e, .i (i : Int), .l xs]) (fun i => i ≤ xs.length ∧ (fol d (xs.take i)).e = 0) (fun i => xs.length - i) (fun _ => ckFin d a e xs) ?_
  rintro i ⟨hi, hr⟩
  have h := ck_round rG nn rd d a e (i : Int) xs
  have hof : Int.ofNat xs.length = (xs.length : Int) := rfl
  rcases Nat.lt_or_ge i xs.length with hlt | hge
  · have hkP : okA d (xs.take i) = true := by
      have hu := okA_U hk
      simp only [okA, smallL, Bool.and_eq_true, decide_eq_true_eq] at hk ⊢
      refine ⟨hk.1, by rw [List.length_take]; omega, ?_⟩
      rw [allU_iff] at hu ⊢
      exact fun x hx => hu x (List.mem_of_mem_take hx)
    have hx : 0 ≤ xs[i] ∧ xs[i] < 256 := by have hu := okA_U hk; rw [allU_iff] at hu; exact hu _ (List.getElem_mem hlt)
    have hks : rG.F.KS (xs.take i) = true := by show smallL (xs.take i) = true; simp only [okA, Bool.and_eq_true] at hkP; exact hkP.2.1
    have hen : rG.EN (xs.take i) = ovr (fol d (xs.take i)).s := end_is hkP hr
    have hb1 : decide (0 ≤ (0 : Int) ∧ 0 ≤ (i : Int) ∧ (i : Int) ≤ Int.ofNat xs.length) = true := decide_eq_true (by omega)
    have hb2 : decide (0 + ((i : Int).toNat - 0) ≤ xs.length) = true := decide_eq_true (show 0 + (i - 0) ≤ xs.length by omega)
    rw [decide_eq_true (show (i : Int) < Int.ofNat xs.length by omega), cond_true, atU_at hlt, wr64 (by omega) (by omega), show ((i : Int).toNat - 0) = i from rfl] at h
    unfold ckG at h
    rw [hb1, hb2, hks, hen, atU_at hlt] at h
    have hbad : chk (fol d (xs.take i)).s xs[i] ≠ 0 → ckFin d a e xs = (.ret, [.i (i : Int), .i (chk (fol d (xs.take i)).s xs[i]), .l xs]) := fun hc => by
      obtain ⟨f1, f2⟩ := fol_split hr hlt hc
      unfold ckFin
      rw [f1, f2, if_neg hc]
    by_cases h37 : 37 < xs[i]
    · rw [decide_eq_true h37, cond_true] at h
      have hc := chk_big (s := (fol d (xs.take i)).s) h37
      have := hbad (by rw [hc]; omega)
      rw [hc] at this
      exact ⟨_, _, _, h, codes0, .inr ⟨by simp, this.symm⟩⟩
    · rw [decide_eq_false h37] at h
      cases ho : ovr (fol d (xs.take i)).s with
      | true =>
        rw [ho] at h
        have hc := chk_over ho (show xs[i] ≤ 37 by omega)
        have := hbad (by rw [hc]; omega)
        rw [hc] at this
        exact ⟨_, _, _, h, codes0, .inr ⟨by simp, this.symm⟩⟩
      | false =>
        rw [ho] at h
        have hal : rG.AL (xs.take i) xs[i] = decide (chk (fol d (xs.take i)).s xs[i] = 0) := alw_is hkP hr ho (by omega)
        rw [hal] at h
        by_cases hc : chk (fol d (xs.take i)).s xs[i] = 0
        · rw [decide_eq_true hc] at h
          exact ⟨_, _, _, h, codes0, .inl ⟨rfl, i + 1, rfl, ⟨by omega, fol_next hr hlt hc⟩, by omega, rfl⟩⟩
        · rw [decide_eq_false hc] at h
          have h2 := chk_two ho (show xs[i] ≤ 37 by omega)
          rw [decide_eq_false hc] at h2
          have := hbad hc
          rw [h2] at this
          exact ⟨_, _, _, h, codes0, .inr ⟨by simp, this.symm⟩⟩
  · obtain rfl : i = xs.length := by omega
    rw [List.take_length] at hr
    rw [decide_eq_false (by omega), cond_false] at h
    exact ⟨_, _, _, h, codes0, .inr ⟨by simp, by unfold ckFin; rw [if_pos hr]⟩⟩
noncomputable def ckTree (C : Int → List Int → Bool) (E A : Int → List Int → Int) (nn : Bool) : List PV → Fin
  | [.i d, .i a, .i e, .i i, .l xs] => .br (decide (i = 0) && C d xs) (.br (decide (E d xs = 0)) (.leaf (.exit 0) ((ckX nn).at [.i a, .i e, .l xs])) (.leaf .ret ((ckX nn).at [.i (A d xs), .i (E d xs), .l xs]))) .no
  | _ => .no
def ckC (d : Int) (xs : List Int) : Bool := okA d xs && decide (d ≤ 3 ∧ xs.length ≤ 1000000)
noncomputable def ckL (C : Int → List Int → Bool) (E A : Int → List Int → Int) (nn : Bool) : Loops := sums (fun n => match n with | 4 => some (lsumF 1 (ckT nn) ckLp (ckTree C E A nn)) | _ => none)
theorem ckL_ok (nn : Bool) : loopsOk Tryd.prog (ckL ckC (fun d xs => (fol d xs).e) (fun d xs => (fol d xs).at_) nn) := by
  intro n g hg
  simp only [ckL, sums] at hg
  split at hg
  · cases hg
    refine lsumF_ok (by cases nn <;> kernel_rfl) (fun rd ps e1 st1 hq => ?_)
    unfold ckTree at hq
    split at hq
    · rename_i d a e i xs
      simp only [Fin.pick] at hq
      cases hc : (decide (i = 0) && ckC d xs) with
      | false => rw [hc] at hq; cases hq
      | true =>
        rw [hc, cond_true] at hq
        simp only [ckC, Bool.and_eq_true, decide_eq_true_eq] at hc
        obtain ⟨rfl, h1, h2, h3⟩ := hc
        have h := ck_loop nn rd d a e xs h1 h3 0 ⟨Nat.zero_le _, by rw [List.take_zero, fol_nil h2]⟩
        unfold ckFin at h
        by_cases hz : (fol d xs).e = 0
        · rw [if_pos hz] at h; rw [decide_eq_true hz] at hq; cases hq; exact h
        · rw [if_neg hz] at h; rw [decide_eq_false hz] at hq; cases hq; exact h
    · cases hq
  · cases hg
theorem rcheck_eval (R : RG) (C : Int → List Int → Bool) (E A : Int → List Int → Int) (nn : Bool) (d : Int) (xs : List Int) : evalFn Tryd.prog (orcG R emptyTab plainL) (ckL C E A nn) 100 38 Tryd.f38 [.int .u8 d, .gs 0] [.rs nn 1 (.ints .u8 xs)] (fun v _ => some v) =
    bif decide (3 < d) then some (.tuple [.int .i64 (-1), .int .i64 2]) else cond (codesB [(ckLp, ckLp)]) (bif decide ((0 : Int) = 0) && C d xs then bif decide (E d xs = 0) then some (.tuple [.int .i64 (-1), .int .i64 0]) else some (.tuple [.int .i64 (A d xs), .int .i64 (E d xs)]) else none) none := by cases nn <;> kernel_rfl
def kR (d : Int) (xs : List Int) : Bool := okA d xs && decide (xs.length ≤ 1000000)
theorem rcheck_fn (nn : Bool) {d : Int} {xs : List Int} (h : kR d xs = true) : FnOK Tryd.prog 38 [.int .u8 d, .gs 0] [.rs nn 1 (.ints .u8 xs)] (.tuple [.int .i64 (fol d xs).at_, .int .i64 (fol d xs).e]) [.rs nn 1 (.ints .u8 xs)] := by
  simp only [kR, Bool.and_eq_true, decide_eq_true_eq] at h
  have hv : evalFn Tryd.prog (orcG rG emptyTab plainL) (ckL ckC (fun d xs => (fol d xs).e) (fun d xs => (fol d xs).at_) nn) 100 38 Tryd.f38 [.int .u8 d, .gs 0] [.rs nn 1 (.ints .u8 xs)] (fun v _ => some v) = some (.tuple [.int .i64 (fol d xs).at_, .int .i64 (fol d xs).e]) := by
    rw [rcheck_eval]
    by_cases hd : 3 < d
    · rw [decide_eq_true hd, fol_high hd]; rfl
    · rw [decide_eq_false hd, lpCd, show ckC d xs = true by unfold ckC; rw [h.1, decide_eq_true (by omega)]; rfl]
      by_cases hz : (fol d xs).e = 0
      · rw [decide_eq_true hz, hz]
        have ha : (fol d xs).at_ = -1 := fol_at hz
        rw [ha]; rfl
      · rw [decide_eq_false hz]; rfl
  obtain ⟨v1, h1, hk, hok⟩ := evalFn_ok (orcG_ok emptyTab_ok plainL_ok) mixed Tryd.func38 (ckL_ok nn) hv
  cases hk
  exact hok.plain rfl rs_ro
end Go.Proofs.YtnhilofmafjdpaaDoor
