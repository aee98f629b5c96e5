/- Texts merged: RK3, Rd. -/
import Derived.Test.YtnhilofmafjdpaaDoorRK2
import Derived.Test.YtnhilofmafjdpaaDoorRB
/- Chapter 9: the reference: Contract's contract. -/
namespace Go.Proofs.YtnhilofmafjdpaaDoor
open Go Go.Eng
/-- The risk behind a place, the declarer. -/
def rkV (xs : List Int) (i : Int) : Int := (rkF 0 0 (xs.drop i.toNat)).getD 0
def dcV (d dn i : Int) (xs : List Int) : Int := match fstI d ((d + i) % 2) dn 0 xs with
  | some j => (d + (j : Int)) % 4
  | none => 0
def K1 (i : Int) (xs : List Int) : Prop := ∃ a : Nat, ∃ R, a < xs.length ∧ i = ((a + 1 : Nat) : Int) ∧ xs.length ≤ 1000000 ∧ allU xs = true ∧ rkF 0 0 (xs.drop (a + 1)) = some R
def K2 (d dn i : Int) (xs : List Int) : Prop := ∃ j : Nat, (0 ≤ d ∧ d < 4) ∧ xs.length ≤ 1000000 ∧ allU xs = true ∧ fstI d ((d + i) % 2) dn 0 xs = some j ∧ (j : Int) ≤ i ∧ i < (xs.length : Int)
noncomputable def k1Tree (C1 : Int → List Int → Bool) (RV : List Int → Int → Int) (nn : Bool) : List PV → Fin
  | [.i d, .i e, .i a, .i dn, .i i, .l xs, .i z1, .i z2, .i z3, .i z4, .i c1, .i c2, .i c3, .i c4] => .br (decide (c3 = 0) && C1 i xs) (.leaf (.exit 0) ((k1X nn).at [.i d, .i e, .i a, .i dn, .l xs, .i z1, .i z2, .i z3, .i z4, .i c1, .i c2, .i (RV xs i), .i c4])) .no
  | _ => .no
noncomputable def k2Tree (C2 : Int → Int → Int → List Int → Bool) (DV : Int → Int → Int → List Int → Int) (nn : Bool) : List PV → Fin
  | [.i d, .i e, .i dn, .i i, .l xs, .i z1, .i z2, .i z3, .i z4, .i c1, .i c2, .i c3, .i _] => .br (C2 d dn i xs) (.leaf (.exit 2) ((k2X nn).at [.i e, .l xs, .i z1, .i z2, .i z3, .i z4, .i c1, .i c2, .i c3, .i (DV d dn i xs)])) .no
  | _ => .no
noncomputable def rkL (C1 : Int → List Int → Bool) (RV : List Int → Int → Int) (C2 : Int → Int → Int → List Int → Bool) (DV : Int → Int → Int → List Int → Int) (nn : Bool) : Loops := sums (fun n => match n with | 11 => some (lsumF 1 (k1T nn) k1Lp (k1Tree C1 RV nn)) | 16 => some (lsumF 1 (k2T nn) k2Lp (k2Tree C2 DV nn)) | _ => none)
noncomputable def c1B (i : Int) (xs : List Int) : Bool := pB (K1 i xs)
noncomputable def c2B (d dn i : Int) (xs : List Int) : Bool := pB (K2 d dn i xs)
theorem rkL_ok (nn : Bool) : loopsOk Tryd.prog (rkL c1B rkV c2B dcV nn) := by
  intro n g hg
  simp only [rkL, sums] at hg
  split at hg
  · cases hg
    refine lsumF_ok (by cases nn <;> kernel_rfl) (fun rd ps e1 st1 hq => ?_)
    unfold k1Tree at hq
    split at hq
    · rename_i d e a dn i xs z1 z2 z3 z4 c1 c2 c3 c4
      simp only [Fin.pick] at hq
      cases hc : (decide (c3 = 0) && c1B i xs) with
      | false => rw [hc] at hq; cases hq
      | true =>
        rw [hc, cond_true] at hq
        simp only [c1B, Bool.and_eq_true, decide_eq_true_eq, pB_iff] at hc
        obtain ⟨rfl, b, R, h1, rfl, h2, h3, h4⟩ := hc
        have h := k1_loop nn rd d e a dn z1 z2 z3 z4 c1 c2 c4 R xs h2 h3 b (0, 0) ⟨by simp only; omega, by simp, h4⟩
        have e : rkV xs ((b + 1 : Nat) : Int) = R := by unfold rkV; rw [show (((b + 1 : Nat) : Int)).toNat = b + 1 from rfl, h4]; rfl
        rw [e] at hq
        cases hq
        exact h
    · cases hq
  · cases hg
    refine lsumF_ok (by cases nn <;> kernel_rfl) (fun rd ps e1 st1 hq => ?_)
    unfold k2Tree at hq
    split at hq
    · rename_i d e dn i xs z1 z2 z3 z4 c1 c2 c3 c4
      simp only [Fin.pick] at hq
      cases hc : c2B d dn i xs with
      | false => rw [hc] at hq; cases hq
      | true =>
        rw [hc, cond_true] at hq
        simp only [c2B, pB_iff] at hc
        obtain ⟨j, h1, h2, h3, h4, h5, h6⟩ := hc
        obtain ⟨⟨_, q1⟩, q2, q3⟩ := fstI_some xs 0 j h4
        simp only [Nat.sub_zero] at q1 q2 q3
        have h := k2_loop nn rd d e dn z1 z2 z3 z4 c1 c2 c3 xs h2 h3 h1 ((d + i) % 2) j q1 q2 (fun k hk => q3 k (Nat.zero_le _) hk) (i, c4) ⟨by simp only; omega, h6, rfl, fun hlt => by simp only at hlt; omega⟩
        have e : dcV d dn i xs = (d + (j : Int)) % 4 := by unfold dcV; rw [h4]
        rw [e] at hq
        cases hq
        exact h
    · cases hq
  · cases hg
noncomputable def rcA (a b c d e : Int) : Option V := some (.tuple [.agg [.int .u8 a, .int .u8 b, .int .u8 c, .int .u8 d], .int .i64 e])
noncomputable def rconE (R : RH) (C1 : Int → List Int → Bool) (RV : List Int → Int → Int) (C2 : Int → Int → Int → List Int → Bool) (DV : Int → Int → Int → List Int → Int) (d : Int) (xs : List Int) : Option V :=
  bif R.KR d xs then bif !decide (R.CE d xs = 0) then rcA 0 0 0 0 2 else bif R.G.F.KS xs then bif !R.G.EN xs then rcA 0 0 0 0 91 else bif R.G.F.KS xs then bif !R.G.F.LB xs then rcA 0 0 0 0 0 else
    atU xs (R.G.F.LI xs) (fun v => bif decide (0 ≤ v ∧ v < 256) then cond (codesB [(k1Lp, k1Lp)]) (bif decide ((0 : Int) = 0) && C1 (wr .i64 (R.G.F.LI xs + 1)) xs then cond (codesB [(k2Lp, k2Lp)]) (bif C2 d (dnZ v) (R.G.F.LI xs) xs then
      rcA (lvZ v) (dnZ v) (RV xs (wr .i64 (R.G.F.LI xs + 1))) (DV d (dnZ v) (R.G.F.LI xs) xs) 0 else none) none else none) none else none) else none else none else none
theorem rcon_eval (R : RH) (TX : Int → ByteArray) (TE : Int → Int) (C1 : Int → List Int → Bool) (RV : List Int → Int → Int) (C2 : Int → Int → Int → List Int → Bool) (DV : Int → Int → Int → List Int → Int) (nn : Bool) (d : Int) (xs : List Int) : evalFn Tryd.prog (orcH R (tabK R.SE TX TE) plainL) (rkL C1 RV C2 DV nn) 100 42 Tryd.f42 [.int .u8 d, .gs 0] [.rs nn 1 (.ints .u8 xs)] (fun v _ => some v) =
    rconE R C1 RV C2 DV d xs := by cases nn <;> kernel_rfl
theorem rcon_fn (nn : Bool) {d : Int} {xs : List Int} (h : kR d xs = true) : FnOK Tryd.prog 42 [.int .u8 d, .gs 0] [.rs nn 1 (.ints .u8 xs)] (.tuple [.agg [.int .u8 (ctL (fol d xs)), .int .u8 (ctD (fol d xs)), .int .u8 (ctR (fol d xs)), .int .u8 (ctS (fol d xs))], .int .i64 (ctE (fol d xs))]) [.rs nn 1 (.ints .u8 xs)] := by
  obtain ⟨g1, g2, g3⟩ := kR_ok h
  have hv : evalFn Tryd.prog (orcH rH (tabK rH.SE rtxt rtxE) plainL) (rkL c1B rkV c2B dcV nn) 100 42 Tryd.f42 [.int .u8 d, .gs 0] [.rs nn 1 (.ints .u8 xs)] (fun v _ => some v) = rcA (ctL (fol d xs)) (ctD (fol d xs)) (ctR (fol d xs)) (ctS (fol d xs)) (ctE (fol d xs)) := by
    rw [rcon_eval]
    unfold rconE
    rw [show rH.KR d xs = true from h, show rH.CE d xs = (fol d xs).e from rfl, show rH.G.F.KS xs = true from g3, show rH.G.EN xs = endV xs from rfl, show rH.G.F.LB xs = (lastN xs xs.length).2 from rfl, show rH.G.F.LI xs = (lastN xs xs.length).1 from rfl]
    unfold ctL ctD ctR ctS ctE ctM okU
    by_cases he : (fol d xs).e = 0
    · rw [decide_eq_true he, end_is g1 he]
      have hu := okA_U g1
      have hh := hist g1 he
      have iv := inv_fol g1 he
      have hd := fol_d he
      have hd0 : 0 ≤ d := by simp only [okA, Bool.and_eq_true, decide_eq_true_eq] at g1; exact g1.1
      rw [last_made hh]
      have hlm := last_made hh
      generalize (fol d xs).s = s at *
      cases ho : ovr s with
      | false => rfl
      | true =>
        cases hm : s.b.m with
        | false => rfl
        | true =>
          obtain ⟨a, a1, a2, a3, a4, a5, a6⟩ := hh.bid hm
          obtain ⟨k, k1, k2, k3, k4⟩ := lastN_some xs.length (hlm.trans hm)
          have hka : k = a := by
            rcases Nat.lt_trichotomy k a with h | h | h
            · have := k4 a h a1; rw [a2, a3] at this; cases this
            · exact h
            · have := a5 k h k1; rw [k3] at this; cases this
          subst hka
          obtain ⟨⟨b1, b2, b3, b4⟩, b5⟩ := iv.b hm
          rw [getD_at k1] at a2
          have hdn := dn_range b1
          have e4 : wr .i64 ((k : Int) + 1) = ((k + 1 : Nat) : Int) := by rw [wr64 (by omega) (by omega)]; omega
          have eL : lvZ xs[k] = s.b.l := by unfold lvZ; rw [a2, b1, b2]; rfl
          have eD : dnZ xs[k] = s.b.d := by unfold dnZ; rw [a2, b1, b3]; rfl
          have eR : rkV xs ((k + 1 : Nat) : Int) = s.risk := by unfold rkV; rw [show (((k + 1 : Nat) : Int)).toNat = k + 1 from rfl, a6]; rfl
          have hx : 0 ≤ xs[k] ∧ xs[k] < 256 := by rw [allU_iff] at hu; exact hu _ (List.getElem_mem k1)
          have hc1 : c1B ((k + 1 : Nat) : Int) xs = true := pB_iff.2 ⟨k, s.risk, k1, rfl, g2, hu, a6⟩
          have hkf : kOf s.b.s s.b.d = (s.b.s % 2).toNat * 5 + s.b.d.toNat := by unfold kOf; omega
          have hf := hh.fst (s.b.s % 2).toNat s.b.d.toNat (by omega) (by omega)
          rw [← hkf] at hf
          have hsd : ((s.b.s % 2).toNat : Int) = (d + (k : Int)) % 2 := by omega
          rw [hsd, show (s.b.d.toNat : Int) = s.b.d by omega] at hf
          cases hfi : fstI d ((d + (k : Int)) % 2) s.b.d 0 xs with
          | none => rw [hfi] at hf; dsimp only at hf; rw [b5] at hf; cases hf
          | some j =>
            rw [hfi] at hf
            dsimp only at hf
            obtain ⟨⟨_, q1⟩, q2, q3⟩ := fstI_some xs 0 j hfi
            simp only [Nat.sub_zero] at q1 q2 q3
            have hjk : j ≤ k := by
              rcases Nat.lt_or_ge k j with hlt | hge
              · have := q3 k (Nat.zero_le _) hlt
                unfold fCond at this
                rw [a2, b1, ← b3, decide_eq_true rfl, decide_eq_true rfl] at this
                cases this
              · exact hge
            have hc2 : c2B d s.b.d (k : Int) xs = true := pB_iff.2 ⟨j, ⟨hd0, by omega⟩, g2, hu, hfi, by omega, by omega⟩
            have eS : dcV d s.b.d (k : Int) xs = (s.fst (kOf s.b.s s.b.d)).s := by unfold dcV; rw [hfi]; exact hf.2.symm
            rw [k2, atU_at k1, e4, eL, eD, eR, hc1, decide_eq_true hx, lpCd, lpCd, hc2, eS]; rfl
    · rw [decide_eq_false he]; rfl
  obtain ⟨v1, e1, hk, hok⟩ := evalFn_ok orcHK mixed Tryd.func42 (rkL_ok nn) hv
  cases hk
  exact hok.plain rfl rs_ro
end Go.Proofs.YtnhilofmafjdpaaDoor

/- Chapter 9: what auction.Read calls: TrimRight, cut, call.Read. -/
namespace Go.Proofs.YtnhilofmafjdpaaDoor
open Go Go.Eng
def blankS : ByteArray := ⟨#[32]⟩
def trB (s : ByteArray) : ByteArray := ⟨(Lib.trimRightB s.data.toList 32).toArray⟩
theorem strEq_iff {a b : ByteArray} : strEq a b = true ↔ a = b := by
  unfold strEq
  rw [beqBs_eq]
  constructor
  · intro h
    have h2 := eq_of_beq h
    cases a; cases b
    congr 1
    exact Array.toList_inj.1 h2
  · rintro rfl; simp
def gTrim (TR : ByteArray → ByteArray) : List V → Option (Bool × V)
  | [.str s, .str c] => some (strEq c blankS && decide (lenS s ≤ 9223372036854775807), .str (TR s))
  | _ => none
def tabTr (TR : ByteArray → ByteArray) : PTab := addTab 74 (gTrim TR) emptyTab
theorem tabTr_ok : PTabOk Tryd.prog (tabTr trB) := by
  refine addTab_ok ?_ emptyTab_ok
  intro args c v h hc
  unfold gTrim at h
  split at h
  · cases h
    simp only [Bool.and_eq_true, decide_eq_true_eq, strEq_iff] at hc
    obtain ⟨rfl, hc⟩ := hc
    exact pure_of_same (.of Tryd.func74 (by kernel_rfl)) rfl rfl fun w => Tryd.strings_TrimRight_one _ 32 (by decide) w (by rw [lenS_eq]; exact hc)
  · cases h
def ckS (s : ByteArray) : Bool := decide (lenS s = 20)
/-- The cells of a line. -/
def cvS (s : ByteArray) (k : Nat) : ByteArray := bif ckS s then trB (extS s (5 * k) (5 * k + 5)) else ⟨#[]⟩
noncomputable def cutC (s : ByteArray) (l h : Nat) (Z : Option V) : Option V := bif decide (0 ≤ (l : Int) ∧ (l : Int) ≤ (h : Int) ∧ (h : Int) ≤ Int.ofNat (lenS s)) then bif strEq blankS blankS && decide (lenS (extS s l h) ≤ 9223372036854775807) then Z else none else none
theorem cut_eval (TR : ByteArray → ByteArray) (s : ByteArray) : evalP (tabTr TR) 56 Tryd.f56 [.str s] = bif !decide (Int.ofNat (lenS s) = 20) then some (.tuple [.agg [.str ⟨#[]⟩, .str ⟨#[]⟩, .str ⟨#[]⟩, .str ⟨#[]⟩], .bool false]) else
    cutC s 0 5 (cutC s 5 10 (cutC s 10 15 (cutC s 15 20 (some (.tuple [.agg [.str (TR (extS s 0 5)), .str (TR (extS s 5 10)), .str (TR (extS s 10 15)), .str (TR (extS s 15 20))], .bool true]))))) := by kernel_rfl
theorem extS_len (s : ByteArray) (l h : Nat) : lenS (extS s l h) ≤ h - l := by
  unfold lenS extS
  simp only [List.length_take]; omega
theorem cutC_ok {s : ByteArray} {l h : Nat} (hl : l ≤ h) (hh : h ≤ 20) (hs : lenS s = 20) {Z : Option V} : cutC s l h Z = Z := by
  unfold cutC
  have := extS_len s l h
  rw [decide_eq_true (show 0 ≤ (l : Int) ∧ (l : Int) ≤ (h : Int) ∧ (h : Int) ≤ Int.ofNat (lenS s) by refine ⟨by omega, by omega, ?_⟩; show (h : Int) ≤ (lenS s : Int); omega), decide_eq_true (show lenS (extS s l h) ≤ 9223372036854775807 by omega), strEq_iff.2 rfl]; rfl
theorem cut_p (s : ByteArray) : FnPure Tryd.prog 56 [.str s] (.tuple [.agg [.str (cvS s 0), .str (cvS s 1), .str (cvS s 2), .str (cvS s 3)], .bool (ckS s)]) := by
  refine pure_at tabTr_ok Tryd.func56 (by kernel_rfl) ?_ rfl rfl
  rw [cut_eval]
  unfold cvS ckS
  by_cases h : lenS s = 20
  · rw [decide_eq_true h, decide_eq_true (show Int.ofNat (lenS s) = 20 by rw [h]; rfl), cutC_ok (by omega) (by omega) h, cutC_ok (by omega) (by omega) h, cutC_ok (by omega) (by omega) h, cutC_ok (by omega) (by omega) h]; rfl
  · rw [decide_eq_false h, decide_eq_false (show ¬ Int.ofNat (lenS s) = 20 from fun e => h (by have : (lenS s : Int) = 20 := e; omega))]; rfl
def gCut (CV : ByteArray → Nat → ByteArray) (CK : ByteArray → Bool) : List V → Option (Bool × V)
  | [.str s] => some (true, .tuple [.agg [.str (CV s 0), .str (CV s 1), .str (CV s 2), .str (CV s 3)], .bool (CK s)])
  | _ => none
def tabCut (CV : ByteArray → Nat → ByteArray) (CK : ByteArray → Bool) : PTab := addTab 56 (gCut CV CK) emptyTab
theorem tabCut_ok : PTabOk Tryd.prog (tabCut cvS ckS) := by
  refine addTab_ok ?_ emptyTab_ok
  intro args c v h _
  unfold gCut at h
  split at h
  · cases h; exact cut_p _
  · cases h
/-! ### call.Read -/
def rdGo : List ByteArray → Nat → ByteArray → Option V
  | [], _, _ => some (.tuple [.int .u8 0, .int .i64 81])
  | t :: r, k, s => bif strEq t s then some (.tuple [.int .u8 (k : Int), .int .i64 0]) else rdGo r (k + 1) s
theorem read_eval (s : ByteArray) : evalFn Tryd.prog (orcC nA emptyTab plainL) noLoops 100 57 Tryd.f57 [.str s] gH (fun v _ => some v) = rdGo textsL 0 s := by kernel_rfl
/-- The call with a text. -/
def rdF : List ByteArray → Nat → ByteArray → Option Nat
  | [], _, _ => none
  | t :: r, k, s => bif strEq t s then some k else rdF r (k + 1) s
def rdC (s : ByteArray) : Int := match rdF textsL 0 s with
  | some k => (k : Int)
  | none => 0
def rdE (s : ByteArray) : Int := match rdF textsL 0 s with
  | some _ => 0
  | none => 81
theorem rdGo_eq : ∀ (l : List ByteArray) (k : Nat) (s : ByteArray), rdGo l k s = some (.tuple [.int .u8 (match rdF l k s with | some k => (k : Int) | none => 0), .int .i64 (match rdF l k s with | some _ => 0 | none => 81)])
  | [], _, _ => rfl
  | t :: r, k, s => by
    unfold rdGo rdF
    cases strEq t s with
    | true => rfl
    | false => exact rdGo_eq r (k + 1) s
theorem gH_ro : ∀ (b : Nat) blk, gH[b]? = some blk → blk.mine = false := by
  intro b blk hb
  match b, hb with
  | 0, hb => cases hb; rfl
  | _ + 1, hb => simp [gH] at hb
theorem read_fn (s : ByteArray) : FnOK Tryd.prog 57 [.str s] gH (.tuple [.int .u8 (rdC s), .int .i64 (rdE s)]) gH := by
  have key : evalFn Tryd.prog (orcC nA emptyTab plainL) noLoops 100 57 Tryd.f57 [.str s] gH (fun v _ => some v) = some (.tuple [.int .u8 (rdC s), .int .i64 (rdE s)]) := by rw [read_eval, rdGo_eq]; rfl
  obtain ⟨v1, h1, hk, hok⟩ := evalFn_ok (orcC_ok emptyTab_ok plainL_ok) mixed Tryd.func57 noLoops_ok key
  cases hk
  exact hok.plain rfl gH_ro
/-! ### the oracle of auction.Read -/
structure RN where
  CV : ByteArray → Nat → ByteArray
  CK : ByteArray → Bool
  RC : ByteArray → Int
  RE : ByteArray → Int
  N : NA
def rN : RN := ⟨cvS, ckS, rdC, rdE, nA⟩
noncomputable def gCRead (R : RN) : List V → List Blk → Option (Bool × V × List Blk)
  | [.str s], [.glob 0 (.strs l)] => some (pB (l = textsL), .tuple [.int .u8 (R.RC s), .int .i64 (R.RE s)], [])
  | _, _ => none
noncomputable def hTabQ (R : RN) : HTab := addH 57 (gCRead R) (hTabA R.N)
def domQ : FuncId → Bool := fun f => Nat.beq f 57 || domA f
def glQ : FuncId → List Nat := fun f => bif Nat.beq f 57 || (Nat.beq f 20 || Nat.beq f 13) then [0] else []
theorem hTabQ_ok : HTabOk Tryd.prog (hTabQ rN) := by
  refine addH_ok ?_ hTabA_ok
  intro args h c v nb hq hc
  unfold gCRead at hq
  split at hq
  · cases hq
    rw [pB_iff] at hc
    subst hc
    exact ⟨.of Tryd.func57 (by kernel_rfl), by rw [List.append_nil]; exact read_fn _⟩
  · cases hq
noncomputable abbrev orcQ (R : RN) (LL : FuncId → Loops) : Oracle := inl Tryd.prog ftab (tabCut R.CV R.CK) LL 100 never domQ (hOrcN glQ nrB (hTabQ R)) 20
theorem orcQ_ok {LL : FuncId → Loops} (hL : ∀ f, loopsOk Tryd.prog (LL f)) : OracleOk Tryd.prog (orcQ rN LL) := inl_ok (hOrcN_ok hTabQ_ok) ftab_ok tabCut_ok hL mixed 20
noncomputable def r1Lp : Code := loopOf 6 Tryd.f29
noncomputable def r2Lp : Code := loopOf 12 Tryd.f29
noncomputable def r3Lp : Code := loopOf 27 Tryd.f29
def strV4 : TV := .agg [.str, .str, .str, .str]
def r1T (nn : Bool) : Tm := ⟨mkS [(0, .gs 1), (2, .int .u8), (3, .nil), (4, .int .i64), (5, .int .u8), (6, .gs 2), (22, .gs 1), (23, .int .i64), (24, .int .i64)] 0 100, [.glob 0 strsT, .rs nn 1 strsT, .grow false 5 1 u8s], []⟩
def r1X (nn : Bool) : Tm := ⟨mkS [(0, .gs 1), (2, .int .u8), (3, .nil), (4, .int .i64), (5, .int .u8), (6, .gs 2)] 0 100, [.glob 0 strsT, .rs nn 1 strsT, .grow false 5 1 u8s], []⟩
def r2T (nn : Bool) : Tm := ⟨mkS [(0, .gs 1), (2, .int .u8), (3, .nil), (4, .int .i64), (5, .int .u8), (6, .gs 2), (22, .gs 1), (23, .int .i64), (24, .int .i64), (35, strV4), (36, .int .i64)] 0 100, [.glob 0 strsT, .rs nn 1 strsT, .grow false 5 1 u8s], []⟩
def r3T (nn : Bool) : Tm := ⟨mkS [(0, .gs 1), (2, .int .u8), (3, .nil), (4, .int .i64), (5, .int .u8), (6, .gs 2), (84, .gs 3), (85, .int .i64), (86, .int .i64)] 0 100, [.glob 0 strsT, .rs nn 1 strsT, .grow false 5 1 u8s, .grow false 9 1 strsT], []⟩
def r3X (nn : Bool) : Tm := ⟨mkS [(2, .int .u8), (3, .nil), (4, .int .i64), (5, .int .u8), (6, .gs 2)] 0 100, [.glob 0 strsT, .rs nn 1 strsT, .grow false 5 1 u8s], []⟩
end Go.Proofs.YtnhilofmafjdpaaDoor
