/- Chapter 8: the reference's Bid, Cheapest and Jump; Text. -/
import Derived.Test.YtpehklboickdpaaDoorRefL
namespace Go.Proofs.YtpehklboickdpaaDoor
open Go Go.Eng
noncomputable def rbTree : List PV → Fin
  | [.i l, .i d, .i r, .i e, .i c] => .br (pB (0 ≤ d ∧ c = 3)) (.br (badB l d) (.leaf (.exit 0) (rbX.at [.i l, .i d, .i r, .i e])) (.leaf .ret (rbX.at [.i l, .i d, .i (bidV l d), .i 0]))) .no
  | _ => .no
noncomputable def rbSum : LoopSum := lsumF 0 rbT rbLp rbTree
theorem rbSum_ok : LoopOk Tryd.prog rbSum := by
  refine lsumF_ok (by kernel_rfl) (fun rd ps e1 s1 h => ?_)
  unfold rbTree at h
  split at h
  · rename_i l d r e c
    simp only [Fin.pick] at h
    cases hc : pB (0 ≤ d ∧ c = 3) with
    | false => rw [hc] at h; cases h
    | true =>
      rw [hc, cond_true] at h
      rw [pB_iff] at hc
      obtain ⟨hd, rfl⟩ := hc
      have := rb_loop rd l d r e hd 3 ⟨by omega, by omega, fun c' _ _ => by omega⟩
      cases hb : badB l d with
      | true => rw [hb] at h this; cases h; simpa using this
      | false => rw [hb] at h this; cases h; simpa using this
  · cases h
noncomputable def rcTree : List PV → Fin
  | [.i o, .i d, .i r, .i e, .i c] => .br (pB (0 ≤ o ∧ o ≤ 37 ∧ 0 ≤ d ∧ d ≤ 4 ∧ c = 3)) (.br (decide (chE o d = 0)) (.leaf .ret (rcX.at [.i o, .i d, .i (chV o d), .i 0])) (.leaf (.exit 0) (rcX.at [.i o, .i d, .i r, .i e]))) .no
  | _ => .no
noncomputable def rcSum : LoopSum := lsumF 0 rcT rcLp rcTree
theorem rcSum_ok : LoopOk Tryd.prog rcSum := by
  refine lsumF_ok (by kernel_rfl) (fun rd ps e1 s1 h => ?_)
  unfold rcTree at h
  split at h
  · rename_i o d r e c
    simp only [Fin.pick] at h
    cases hc : pB (0 ≤ o ∧ o ≤ 37 ∧ 0 ≤ d ∧ d ≤ 4 ∧ c = 3) with
    | false => rw [hc] at h; cases h
    | true =>
      rw [hc, cond_true] at h
      rw [pB_iff] at hc
      obtain ⟨h0, h1, hd, hd4, rfl⟩ := hc
      have := rc_loop rd o d r e h0 h1 hd hd4 3 ⟨by omega, by omega, fun c' _ _ => by omega⟩
      by_cases hb : chE o d = 0
      · rw [decide_eq_true hb] at h; rw [if_pos hb, if_pos hb] at this; cases h; simpa using this
      · rw [decide_eq_false hb] at h; rw [if_neg hb, if_neg hb] at this; cases h; simpa using this
  · cases h
noncomputable def rjTree : List PV → Fin
  | [.i o, .i b, .i r, .i e, .i d, .i n, .i c] => .br (pB (0 ≤ o ∧ o ≤ 37 ∧ isB b = true ∧ o < b ∧ d = pd b ∧ n = 0 ∧ c = 3)) (.leaf (.exit 0) (rjX.at [.i o, .i b, .i r, .i e, .i (qn (chV o (pd b)) b)])) .no
  | _ => .no
noncomputable def rjSum : LoopSum := lsumF 0 rjT rjLp rjTree
theorem rjSum_ok : LoopOk Tryd.prog rjSum := by
  refine lsumF_ok (by kernel_rfl) (fun rd ps e1 s1 h => ?_)
  unfold rjTree at h
  split at h
  · rename_i o b r e d n c
    simp only [Fin.pick] at h
    cases hc : pB (0 ≤ o ∧ o ≤ 37 ∧ isB b = true ∧ o < b ∧ d = pd b ∧ n = 0 ∧ c = 3) with
    | false => rw [hc] at h; cases h
    | true =>
      rw [hc, cond_true] at h
      rw [pB_iff] at hc
      obtain ⟨h0, h1, hb, hob, rfl, rfl, rfl⟩ := hc
      cases h
      obtain ⟨b1, b2, b3, b4⟩ := bid_is hb
      have := rj_loop rd o b r e h0 h1 hb hob 3 ⟨by omega, by omega⟩
      have hz : qn (chV o (pd b)) ((3 : Nat) : Int) = 0 := by
        unfold qn
        rcases ch_spec (o := o) (d := pd b) h1 (by omega) (by omega) with ⟨q1, q2, q3⟩ | ⟨q1, a1, a2, a3, a4, a5⟩
        · omega
        · rw [if_pos (by omega)]
      rw [hz] at this
      exact this
  · cases h
noncomputable def refL : FuncId → Loops := fun f => match f with
  | 32 => sums (fun n => match n with | 2 => some rbSum | _ => none)
  | 35 => sums (fun n => match n with | 6 => some rcSum | _ => none)
  | 36 => sums (fun n => match n with | 8 => some rjSum | _ => none)
  | _ => noLoops
theorem refL_ok : ∀ f, loopsOk Tryd.prog (refL f) := fun f => by
  unfold refL
  split
  · intro n g hg; simp only [sums] at hg; split at hg
    · cases hg; exact rbSum_ok
    · cases hg
  · intro n g hg; simp only [sums] at hg; split at hg
    · cases hg; exact rcSum_ok
    · cases hg
  · intro n g hg; simp only [sums] at hg; split at hg
    · cases hg; exact rjSum_ok
    · cases hg
  · exact noLoops_ok
noncomputable abbrev evalR (f : FuncId) (fn : Func) (args : List V) : Option V := evalFn Tryd.prog (orcS tabR refL) (refL f) 100 f fn args [] (fun v _ => some v)
theorem pure_r {f : FuncId} {fn : Func} {args : List V} {v : V} (hf : Tryd.prog.funcs[f]? = some fn) (hb : enterB fn = true) (h : evalR f fn args = some v) (ha : plainVs args = true) (hv : plainV v = true) : FnPure Tryd.prog f args v :=
  fnPure_of_eval (orcS_ok tabR_ok refL_ok) mixed hf hb (refL_ok f) h ha hv
theorem rbid_eval (l d : Int) : evalR 32 Tryd.f32 [.int .u8 l, .int .u8 d] = cond (codesB [(rbLp, rbLp)]) (bif pB (0 ≤ d ∧ (3 : Int) = 3) then bif badB l d then some (.tuple [.int .u8 0, .int .i64 2]) else some (.tuple [.int .u8 (bidV l d), .int .i64 0]) else none) none := by kernel_rfl
theorem rbid_pure {l d : Int} (hd : 0 ≤ d) : FnPure Tryd.prog 32 [.int .u8 l, .int .u8 d] (.tuple [.int .u8 (bidV l d), .int .i64 (bidE l d)]) := by
  refine pure_r Tryd.func32 (by kernel_rfl) ?_ rfl rfl
  rw [rbid_eval, codes1, cond_true, pB_iff.2 ⟨hd, rfl⟩, cond_true]
  unfold bidV bidE
  cases badB l d <;> rfl
theorem rch_eval (o d : Int) : evalR 35 Tryd.f35 [.int .u8 o, .int .u8 d] = bif !decide (wr .i64 o < 38) then some (.tuple [.int .u8 0, .int .i64 80]) else bif decide (4 < d) then some (.tuple [.int .u8 0, .int .i64 2]) else
    cond (codesB [(rcLp, rcLp)]) (bif pB (0 ≤ o ∧ o ≤ 37 ∧ 0 ≤ d ∧ d ≤ 4 ∧ (3 : Int) = 3) then bif decide (chE o d = 0) then some (.tuple [.int .u8 (chV o d), .int .i64 0]) else some (.tuple [.int .u8 0, .int .i64 6]) else none) none := by kernel_rfl
theorem rju_eval (o b : Int) : evalR 36 Tryd.f36 [.int .u8 o, .int .u8 b] = cond (inR b) (bif !isB b then some (.tuple [.int .i64 0, .int .i64 80]) else bif !decide (wr .i64 o < 38) then some (.tuple [.int .i64 0, .int .i64 80]) else
    bif decide (b ≤ o) then some (.tuple [.int .i64 0, .int .i64 6]) else cond (codesB [(rjLp, rjLp)]) (bif pB (0 ≤ o ∧ o ≤ 37 ∧ isB b = true ∧ o < b ∧ pd b = pd b ∧ (0 : Int) = 0 ∧ (3 : Int) = 3) then some (.tuple [.int .i64 (qn (chV o (pd b)) b), .int .i64 0]) else none) none) none := by kernel_rfl
theorem rch_pure {o d : Int} (h0 : 0 ≤ o) (h2 : o < 256) (hd : 0 ≤ d) : FnPure Tryd.prog 35 [.int .u8 o, .int .u8 d] (.tuple [.int .u8 (chV o d), .int .i64 (chE o d)]) := by
  refine pure_r Tryd.func35 (by kernel_rfl) ?_ rfl rfl
  rw [rch_eval, wr64c (by omega) (by omega)]
  by_cases h1 : o ≤ 37
  · by_cases h4 : d ≤ 4
    · rw [decide_eq_true (show o < 38 by omega), decide_eq_false (show ¬ 4 < d by omega), codes1, pB_iff.2 ⟨h0, h1, hd, h4, rfl⟩]
      rcases ch_spec (o := o) h1 hd h4 with ⟨q1, q2, _⟩ | ⟨q1, _⟩
      · rw [q1, q2]; rfl
      · rw [q1]; rfl
    · rw [decide_eq_true (show o < 38 by omega), decide_eq_true (show 4 < d by omega)]
      unfold chV chE
      rw [decide_eq_true h1, decide_eq_true (show 5 ≤ d by omega)]; rfl
  · rw [decide_eq_false (show ¬ o < 38 by omega)]
    unfold chV chE
    rw [decide_eq_false h1]; rfl
theorem rju_pure {o b : Int} (h0 : 0 ≤ o) (h2 : o < 256) (hb0 : 0 ≤ b) (hb2 : b < 256) : FnPure Tryd.prog 36 [.int .u8 o, .int .u8 b] (.tuple [.int .i64 (juV o b), .int .i64 (juE o b)]) := by
  refine pure_r Tryd.func36 (by kernel_rfl) ?_ rfl rfl
  rw [rju_eval, wr64c (by omega) (by omega), inR_true hb0 hb2, cond_true]
  cases hb : isB b with
  | false =>
    unfold juV juE
    rw [hb]
    cases decide (o ≤ 37) <;> rfl
  | true =>
    by_cases h1 : o ≤ 37
    · rw [decide_eq_true (show o < 38 by omega)]
      by_cases hle : b ≤ o
      · rw [decide_eq_true hle]
        unfold juV juE
        rw [hb, decide_eq_true h1, decide_eq_true hle]; rfl
      · rw [decide_eq_false hle, codes1, pB_iff.2 ⟨h0, h1, rfl, by omega, rfl, rfl, rfl⟩]
        obtain ⟨b1, b2, b3, b4⟩ := bid_is hb
        have hq : qn (chV o (pd b)) b = juV o b ∧ juE o b = 0 := by
          unfold juV juE
          rw [hb, decide_eq_true h1, decide_eq_false hle]
          refine ⟨?_, rfl⟩
          simp only [Bool.not_true, cond_false]
          rcases ch_spec (o := o) (d := pd b) h1 (by omega) (by omega) with ⟨q1, q2, q3⟩ | ⟨q1, a1, a2, a3, a4, a5⟩
          · omega
          · obtain ⟨i1, i2, i3⟩ := ch_is h0 h1 (show 0 ≤ pd b by omega) (by omega) q1
            rw [wr64c (x := pl b) (by omega) (by omega), wr64c (x := pl (chV o (pd b))) (by omega) (by omega), wr64c (by omega) (by omega)]
            unfold qn
            split <;> omega
        rw [hq.1, hq.2]; rfl
    · rw [decide_eq_false (show ¬ o < 38 by omega)]
      unfold juV juE
      rw [hb, decide_eq_false h1]; rfl
/-! ### Text -/
theorem rtext_eval (c : Int) : evalFn Tryd.prog (orcS tabS plainL) noLoops 100 17 Tryd.f17 [.int .u8 c] gH keepG = bif !decide (c ≤ 37) then some (.tuple [.str ⟨#[]⟩, .int .i64 80], textsL) else
    bif decide (0 ≤ c ∧ c < 38) then match textsL[c.toNat]? with | some s => some (.tuple [.str s, .int .i64 0], textsL) | none => none else none := by kernel_rfl
theorem text_fn {c : Int} (h0 : 0 ≤ c) : FnOK Tryd.prog 17 [.int .u8 c] gH (.tuple [.str (rtx c), .int .i64 (txE c)]) gH := by
  refine cutG tabS_ok plainL_ok Tryd.func17 ?_ rfl
  refine (rtext_eval c).trans ?_
  unfold rtx txE
  by_cases h : c ≤ 37
  · rw [decide_eq_true h, decide_eq_true (show 0 ≤ c ∧ c < 38 by omega)]
    have hl : c.toNat < textsL.length := by rw [show textsL.length = 38 from rfl]; omega
    rw [List.getElem?_eq_getElem hl]
    rfl
  · rw [decide_eq_false h]; rfl
noncomputable def gText : List V → List Blk → Option (Bool × V × List Blk)
  | [.int .u8 c], [.glob 0 (.strs l)] => some (pB (l = textsL ∧ 0 ≤ c), .tuple [.str (rtx c), .int .i64 (txE c)], [])
  | _, _ => none
noncomputable def hTabT : HTab := addH 17 gText hTabA
def hDomT : FuncId → Bool := fun f => Nat.beq f 11 || (Nat.beq f 38 || Nat.beq f 17)
def glT : FuncId → List Nat := fun f => bif Nat.beq f 11 || Nat.beq f 17 then [0] else []
theorem hTabT_ok : HTabOk Tryd.prog hTabT := by
  refine addH_ok ?_ hTabA_ok
  intro args h c v nb hq hc
  unfold gText at hq
  split at hq
  · cases hq
    rw [pB_iff] at hc
    obtain ⟨rfl, h0⟩ := hc
    exact ⟨.of Tryd.func17 (by kernel_rfl), text_fn h0⟩
  · cases hq
def gRBid : List V → Option (Bool × V)
  | [.int .u8 l, .int .u8 d] => some (decide (0 ≤ d), .tuple [.int .u8 (bidV l d), .int .i64 (bidE l d)])
  | _ => none
def gRCh : List V → Option (Bool × V)
  | [.int .u8 o, .int .u8 d] => some (inR o && decide (0 ≤ d), .tuple [.int .u8 (chV o d), .int .i64 (chE o d)])
  | _ => none
def gRJu : List V → Option (Bool × V)
  | [.int .u8 o, .int .u8 b] => some (inR o && inR b, .tuple [.int .i64 (juV o b), .int .i64 (juE o b)])
  | _ => none
def tabT : PTab := addTab 36 gRJu (addTab 35 gRCh (addTab 32 gRBid tabR))
theorem tabT_ok : PTabOk Tryd.prog tabT := by
  refine addTab_ok ?_ (addTab_ok ?_ (addTab_ok ?_ tabR_ok))
  · intro args c v h hc
    unfold gRJu at h
    split at h
    · cases h
      simp only [inR, Bool.and_eq_true, decide_eq_true_eq] at hc
      exact rju_pure hc.1.1 hc.1.2 hc.2.1 hc.2.2
    · cases h
  · intro args c v h hc
    unfold gRCh at h
    split at h
    · cases h
      simp only [inR, Bool.and_eq_true, decide_eq_true_eq] at hc
      exact rch_pure hc.1.1 hc.1.2 hc.2
    · cases h
  · intro args c v h hc
    unfold gRBid at h
    split at h
    · cases h
      simp only [decide_eq_true_eq] at hc
      exact rbid_pure hc
    · cases h
noncomputable abbrev orcT (T : PTab) (LL : FuncId → Loops) : Oracle := inl Tryd.prog ftab T LL 100 never hDomT (hOrcG glT hTabT) 20
theorem orcT_ok {T : PTab} (hT : PTabOk Tryd.prog T) {LL : FuncId → Loops} (hL : ∀ f, loopsOk Tryd.prog (LL f)) : OracleOk Tryd.prog (orcT T LL) := inl_ok (hOrcG_ok hTabT_ok) ftab_ok hT hL mixed 20
noncomputable abbrev lawT (T : PTab) (LL : FuncId → Loops) (f : FuncId) (fn : Func) (args : List V) : Option V := evalFn Tryd.prog (orcT T LL) (LL f) 100 f fn args gH (fun v _ => some v)
end Go.Proofs.YtpehklboickdpaaDoor
