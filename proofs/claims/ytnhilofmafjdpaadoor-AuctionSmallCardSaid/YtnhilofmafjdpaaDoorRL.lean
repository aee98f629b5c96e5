/- Texts merged: RL, RP, RK, KitT. -/
import Derived.Test.YtnhilofmafjdpaaDoorRD
import Derived.Test.YtnhilofmafjdpaaDoorTb6
import Derived.Test.YtnhilofmafjdpaaDoorEng4
import Derived.Test.YtnhilofmafjdpaaDoorMd4
/- Chapter 9: the reference: Legal. -/
namespace Go.Proofs.YtnhilofmafjdpaaDoor
open Go Go.Eng
noncomputable def lgLp : Code := loopOf 7 Tryd.f41
def lgT (nn : Bool) : Tm := ⟨mkS [(1, .gs 0), (6, .gs 1), (7, .int .u8)] 0 26, [.rs nn 1 u8s, .grow false 5 1 u8s], []⟩
def lgX (nn : Bool) : Tm := ⟨mkS [(6, .gs 1)] 0 26, [.rs nn 1 u8s, .grow false 5 1 u8s], []⟩
theorem lg_round (R : RH) (nn : Bool) (rd : Option Nat) (c : Int) (xs ys : List Int) : roundT Tryd.prog (orcH R emptyTab plainL) noLoops 100 1 rd 41 lgLp (lgT nn) (lgX nn) [.i c, .l xs, .l ys] =
    bif decide (c < 38) then bif R.G.F.KS xs then bif R.G.AL xs c then bif decide ((ys ++ [c]).length * 2 ≤ 70368744177664) then some (.normal, [.i (wr .u8 (c + 1)), .l xs, .l (ys ++ [c])], []) else none else some (.normal, [.i (wr .u8 (c + 1)), .l xs, .l ys], []) else none else some (.exit 0, [.l xs, .l ys], []) := by cases nn <;> kernel_rfl
theorem lg_loop (nn : Bool) (rd : Option Nat) (xs : List Int) (hs : smallL xs = true) : ∀ x : Nat × List Int, (x.1 ≤ 38 ∧ x.2.length ≤ x.1) →
    SimC Tryd.prog 1 rd (.loop lgLp) ((lgT nn).at [.i (x.1 : Int), .l xs, .l x.2]) (.exit 0) ((lgX nn).at [.l xs, .l (x.2 ++ (calls38.drop x.1).filter fun c => alwV xs c)]) := by
  refine loop_of_rounds (C := orcH rH emptyTab plainL) (L := noLoops) (N := 100) (me := 41) (T := lgT nn) (T' := lgX nn) (orcH_ok emptyTab_ok plainL_ok) mixed noLoops_ok (by cases nn <;> kernel_rfl) (by cases nn <;> kernel_rfl) (X := Nat × List Int)
    (fun x => [.i (x.1 : Int), .l xs, .l x.2]) (fun x => x.1 ≤ 38 ∧ x.2.length ≤ x.1) (fun x => 38 - x.1) (fun x => (.exit 0, [.l xs, .l (x.2 ++ (calls38.drop x.1).filter fun c => alwV xs c)])) ?_
  rintro ⟨i, ys⟩ ⟨hi, hy⟩
  dsimp only at hi hy ⊢
  have h := lg_round rH nn rd (i : Int) xs ys
  rcases Nat.lt_or_ge i 38 with hlt | hge
  · have hw : wr .u8 ((i : Int) + 1) = ((i + 1 : Nat) : Int) := by rw [wr_u8_id (by omega)]; omega
    rw [decide_eq_true (show (i : Int) < 38 by omega), cond_true, hw, decide_eq_true (show (ys ++ [(i : Int)]).length * 2 ≤ 70368744177664 by rw [List.length_append, List.length_singleton]; omega), cond_true, show rH.G.F.KS xs = true from hs, show rH.G.AL xs (i : Int) = alwV xs (i : Int) from rfl] at h
    rw [List.drop_eq_getElem_cons (show i < calls38.length from hlt), List.filter_cons, c38_get hlt]
    cases hb : alwV xs (i : Int) with
    | true =>
      rw [hb] at h
      refine ⟨_, _, _, h, codes0, .inl ⟨rfl, (i + 1, ys ++ [(i : Int)]), rfl, ⟨by dsimp only; omega, by dsimp only; rw [List.length_append, List.length_singleton]; omega⟩, by dsimp only; omega, ?_⟩⟩
      dsimp only
      rw [if_pos rfl, List.append_assoc]; rfl
    | false =>
      rw [hb] at h
      refine ⟨_, _, _, h, codes0, .inl ⟨rfl, (i + 1, ys), rfl, ⟨by dsimp only; omega, by dsimp only; omega⟩, by dsimp only; omega, ?_⟩⟩
      dsimp only
      rw [if_neg (by simp)]
  · rw [decide_eq_false (show ¬ (i : Int) < 38 by omega), cond_false] at h
    refine ⟨_, _, _, h, codes0, .inr ⟨by simp, ?_⟩⟩
    rw [List.drop_eq_nil_of_le (by rw [c38_len]; omega), List.filter_nil, List.append_nil]
noncomputable def lgTree (KS : List Int → Bool) (LG : List Int → List Int) (nn : Bool) : List PV → Fin
  | [.i c, .l xs, .l ys] => .br (decide (c = 0 ∧ ys.length = 0) && KS xs) (.leaf (.exit 0) ((lgX nn).at [.l xs, .l (LG xs)])) .no
  | _ => .no
def rlg (xs : List Int) : List Int := calls38.filter fun c => alwV xs c
noncomputable def lgL (KS : List Int → Bool) (LG : List Int → List Int) (nn : Bool) : Loops := sums (fun n => match n with | 7 => some (lsumF 1 (lgT nn) lgLp (lgTree KS LG nn)) | _ => none)
theorem lgL_ok (nn : Bool) : loopsOk Tryd.prog (lgL smallL rlg nn) := by
  intro n g hg
  simp only [lgL, sums] at hg
  split at hg
  · cases hg
    refine lsumF_ok (by cases nn <;> kernel_rfl) (fun rd ps e1 st1 hq => ?_)
    unfold lgTree at hq
    split at hq
    · rename_i c xs ys
      simp only [Fin.pick] at hq
      cases hc : (decide (c = 0 ∧ ys.length = 0) && smallL xs) with
      | false => rw [hc] at hq; cases hq
      | true =>
        rw [hc, cond_true] at hq
        simp only [Bool.and_eq_true, decide_eq_true_eq] at hc
        obtain ⟨⟨rfl, h1⟩, h2⟩ := hc
        obtain rfl := List.eq_nil_of_length_eq_zero h1
        cases hq
        exact lg_loop nn rd xs h2 (0, []) ⟨Nat.zero_le _, Nat.le_refl _⟩
    · cases hq
  · cases hg
theorem rlegal_eval (R : RH) (KS : List Int → Bool) (LG : List Int → List Int) (nn : Bool) (d : Int) (xs : List Int) : evalFn Tryd.prog (orcH R emptyTab plainL) (lgL KS LG nn) 100 41 Tryd.f41 [.int .u8 d, .gs 0] [.rs nn 1 (.ints .u8 xs)] keepX =
    bif R.KR d xs then bif !decide (R.CE d xs = 0) then some (.tuple [.flat (.slice none 0 0), .int .i64 2], none) else bif R.G.F.KS xs then bif R.G.EN xs then some (.tuple [.flat (.slice none 0 0), .int .i64 90], none) else
      cond (codesB [(lgLp, lgLp)]) (bif decide ((0 : Int) = 0 ∧ ([] : List Int).length = 0) && KS xs then some (.tuple [.gs 1, .int .i64 0], some (false, 5, 1, .ints .u8 (LG xs))) else none) none else none else none := by cases nn <;> kernel_rfl
theorem rlg_is {d : Int} {xs : List Int} (hk : okA d xs = true) (hr : (fol d xs).e = 0) (ho : ovr (fol d xs).s = false) : rlg xs = lgl (fol d xs).s := by
  unfold rlg lgl
  apply List.filter_congr
  intro c hc
  simp only [calls38, List.mem_map, List.mem_range] at hc
  obtain ⟨k, hk1, rfl⟩ := hc
  exact alw_is hk hr ho (by omega)
theorem rlegal_fn (nn : Bool) {d : Int} {xs : List Int} (h : kR d xs = true) : FnOK Tryd.prog 41 [.int .u8 d, .gs 0] [.rs nn 1 (.ints .u8 xs)] (.tuple [.gs 1, .int .i64 (legE (fol d xs))]) ([.rs nn 1 (.ints .u8 xs)] ++ [.grow false 5 1 (.ints .u8 (legV (fol d xs)))]) := by
  obtain ⟨g1, g2, g3⟩ := kR_ok h
  have key := rlegal_eval rH smallL rlg nn d xs
  rw [show rH.KR d xs = true from h, cond_true, show rH.CE d xs = (fol d xs).e from rfl, show rH.G.F.KS xs = true from g3, show rH.G.EN xs = endV xs from rfl] at key
  unfold legE legV
  by_cases he : (fol d xs).e = 0
  · rw [decide_eq_true he, end_is g1 he] at key
    rw [decide_eq_true he]
    cases ho : ovr (fol d xs).s with
    | true =>
      rw [ho] at key
      obtain ⟨v1, h1, hk, hok⟩ := evalFn_ok (orcH_ok emptyTab_ok plainL_ok) mixed Tryd.func41 (lgL_ok nn) key
      unfold keepX at hk
      split at hk
      · split at hk
        · cases hk
        · cases hk
      · cases hk
        exact hok.nilT rs_ro
    | false =>
      rw [ho, lpCd, g3, rlg_is g1 he ho] at key
      obtain ⟨v1, h1, hk, hok⟩ := evalFn_ok (orcH_ok emptyTab_ok plainL_ok) mixed Tryd.func41 (lgL_ok nn) key
      unfold keepX at hk
      split at hk
      · split at hk
        · rename_i b w nn ty sz row hb
          simp only [Option.some.injEq, Prod.mk.injEq, V.tuple.injEq, List.cons.injEq, V.gs.injEq, and_true] at hk
          obtain ⟨⟨rfl, rfl⟩, rfl, rfl, rfl, rfl⟩ := hk
          exact hok.lastAtT (getB_some hb (by simp)) rfl rs_ro
        · cases hk
      · cases hk
  · rw [decide_eq_false he] at key
    rw [decide_eq_false he]
    obtain ⟨v1, h1, hk, hok⟩ := evalFn_ok (orcH_ok emptyTab_ok plainL_ok) mixed Tryd.func41 (lgL_ok nn) key
    unfold keepX at hk
    split at hk
    · split at hk
      · cases hk
      · cases hk
    · cases hk
      exact hok.nilT rs_ro
end Go.Proofs.YtnhilofmafjdpaaDoor

/- Chapter 9: the reference of chapter 8: Parts, Text: number by number. -/
namespace Go.Proofs.YtnhilofmafjdpaaDoor
open Go Go.Eng
noncomputable abbrev runP (f : FuncId) (fn : Func) (args : List V) (chk : V → Bool) : Bool := runB (evalFn Tryd.prog (orcE emptyTab plainL) noLoops 100 f fn args [] (fun v _ => some (chk v)))
def rtxt (c : Int) : ByteArray := bif decide (c ≤ 37) then txt c else ⟨#[]⟩
def rtxE (c : Int) : Int := bif decide (c ≤ 37) then 0 else 80
theorem all65 : allN 256 (fun c => runP 65 Tryd.f65 [.int .u8 (Int.ofNat c)] (chkIIB .u8 (lvZ (Int.ofNat c)) (dnZ (Int.ofNat c)) (isBid (Int.ofNat c)))) = true := by kernel_rfl
theorem all66 : allN 256 (fun c => runP 66 Tryd.f66 [.int .u8 (Int.ofNat c)] (chkIS .i64 (rtxt (Int.ofNat c)) (rtxE (Int.ofNat c)))) = true := by kernel_rfl
theorem to_nat {c : Int} (h : 0 ≤ c) (h2 : c < 256) : ∃ n : Nat, n < 256 ∧ c = Int.ofNat n := ⟨c.toNat, by omega, by simp; omega⟩
theorem rparts_p {c : Int} (h : 0 ≤ c ∧ c < 256) : FnPure Tryd.prog 65 [.int .u8 c] (.tuple [.int .u8 (lvZ c), .int .u8 (dnZ c), .bool (isBid c)]) := by
  obtain ⟨n, hn, rfl⟩ := to_nat h.1 h.2
  exact pure_of_check (orcE_ok emptyTab_ok plainL_ok) mixed Tryd.func65 (by kernel_rfl) noLoops_ok (allN_ok all65 n hn) (fun _ h => chkIIB_ok h) rfl rfl
theorem rtext_p {c : Int} (h : 0 ≤ c ∧ c < 256) : FnPure Tryd.prog 66 [.int .u8 c] (.tuple [.str (rtxt c), .int .i64 (rtxE c)]) := by
  obtain ⟨n, hn, rfl⟩ := to_nat h.1 h.2
  exact pure_of_check (orcE_ok emptyTab_ok plainL_ok) mixed Tryd.func66 (by kernel_rfl) noLoops_ok (allN_ok all66 n hn) (fun _ h => chkIS_ok h) rfl rfl
def gRParts : List V → Option (Bool × V)
  | [.int .u8 c] => some (decide (0 ≤ c ∧ c < 256), .tuple [.int .u8 (lvZ c), .int .u8 (dnZ c), .bool (isBid c)])
  | _ => none
def gRText (TX : Int → ByteArray) (TE : Int → Int) : List V → Option (Bool × V)
  | [.int .u8 c] => some (decide (0 ≤ c ∧ c < 256), .tuple [.str (TX c), .int .i64 (TE c)])
  | _ => none
def tabRP (TX : Int → ByteArray) (TE : Int → Int) (T : PTab) : PTab := addTab 65 gRParts (addTab 66 (gRText TX TE) T)
theorem tabRP_ok {T : PTab} (hT : PTabOk Tryd.prog T) : PTabOk Tryd.prog (tabRP rtxt rtxE T) := by
  refine addTab_ok ?_ (addTab_ok ?_ hT)
  · intro args c v h hc
    unfold gRParts at h
    split at h
    · cases h; exact rparts_p (of_decide_eq_true hc)
    · cases h
  · intro args c v h hc
    unfold gRText at h
    split at h
    · cases h; exact rtext_p (of_decide_eq_true hc)
    · cases h
end Go.Proofs.YtnhilofmafjdpaaDoor

/- Chapter 9: the reference: Contract: one round of each loop. -/
namespace Go.Proofs.YtnhilofmafjdpaaDoor
open Go Go.Eng
def tvC4 : List TV := [.int .u8, .int .u8, .int .u8, .int .u8]
noncomputable def k1Lp : Code := loopOf 11 Tryd.f42
noncomputable def k2Lp : Code := loopOf 16 Tryd.f42
def k1T (nn : Bool) : Tm := ⟨mkS [(0, .int .u8), (1, .gs 0), (4, .ptr 1 0), (5, .int .i64), (6, .int .i64), (9, .int .u8), (11, .ptr 2 0), (12, .int .i64)] 0 91, [.rs nn 1 u8s, .own 23 (.vs tvC4), .own 23 (.vs tvC4)], []⟩
def k1X (nn : Bool) : Tm := ⟨mkS [(0, .int .u8), (1, .gs 0), (4, .ptr 1 0), (5, .int .i64), (6, .int .i64), (9, .int .u8), (11, .ptr 2 0)] 0 91, [.rs nn 1 u8s, .own 23 (.vs tvC4), .own 23 (.vs tvC4)], []⟩
def k2T (nn : Bool) : Tm := ⟨mkS [(0, .int .u8), (1, .gs 0), (4, .ptr 1 0), (5, .int .i64), (9, .int .u8), (11, .ptr 2 0), (13, .int .i64)] 0 91, [.rs nn 1 u8s, .own 23 (.vs tvC4), .own 23 (.vs tvC4)], []⟩
def k2X (nn : Bool) : Tm := ⟨mkS [(4, .ptr 1 0), (5, .int .i64), (11, .ptr 2 0)] 0 91, [.rs nn 1 u8s, .own 23 (.vs tvC4), .own 23 (.vs tvC4)], []⟩
abbrev tabK (SE : Int → Int → Int) (TX : Int → ByteArray) (TE : Int → Int) : PTab := tabRP TX TE (tabSe SE emptyTab)
end Go.Proofs.YtnhilofmafjdpaaDoor

/- Chapter 9: small helpers of the library and of the verifier: their loops. -/
namespace Go.Proofs.YtnhilofmafjdpaaDoor
open Go Go.Eng
noncomputable def sbLp : Code := loopOf 4 Tryd.f30
def sbT (n1 n2 : Bool) : Tm := ⟨mkS [(0, .gs 0), (1, .gs 1), (4, .bool), (5, .int .i64)] 0 26, [.rs n1 1 u8s, .rs n2 1 u8s], []⟩
def sbX (n1 n2 : Bool) : Tm := ⟨mkS [(4, .bool)] 0 26, [.rs n1 1 u8s, .rs n2 1 u8s], []⟩
noncomputable def ssLp : Code := loopOf 4 Tryd.f34
def ssT (n1 n2 : Bool) : Tm := ⟨mkS [(0, .gs 0), (1, .gs 1), (4, .bool), (5, .int .i64)] 0 26, [.rs n1 1 strsT, .rs n2 1 strsT], []⟩
def ssX (n1 n2 : Bool) : Tm := ⟨mkS [(4, .bool)] 0 26, [.rs n1 1 strsT, .rs n2 1 strsT], []⟩
noncomputable def ixLp : Code := loopOf 2 Tryd.f51
def ixT (nn : Bool) : Tm := ⟨mkS [(0, .gs 0), (1, .int .u8), (4, .int .i64), (7, .int .i64), (8, .int .i64)] 0 19, [.rs nn 1 u8s], []⟩
def ixX (nn : Bool) : Tm := ⟨mkS [(4, .int .i64)] 0 19, [.rs nn 1 u8s], []⟩
noncomputable def soLp : Code := loopOf 2 Tryd.f25
def soT (nn : Bool) : Tm := ⟨mkS [(0, .gs 0), (2, .bool), (3, .int .i64)] 0 21, [.rs nn 1 u8s], []⟩
def soX (nn : Bool) : Tm := ⟨mkS [(2, .bool)] 0 21, [.rs nn 1 u8s], []⟩
def atS {α : Type} (l : List ByteArray) (i : Int) (K : ByteArray → Option α) : Option α := bif decide (0 ≤ i ∧ i < Int.ofNat l.length) then (match l[i.toNat]? with | some v => K v | none => none) else none
theorem sb_round (n1 n2 : Bool) (rd : Option Nat) (xs ys : List Int) (b : Bool) (i : Int) : roundT Tryd.prog (orcE emptyTab plainL) noLoops 100 2 rd 30 sbLp (sbT n1 n2) (sbX n1 n2) [.b b, .i i, .l xs, .l ys] =
    bif decide (i < Int.ofNat xs.length) then atU xs i (fun x => atU ys i (fun y => bif !decide (x = y) then some (.ret, [.b false, .l xs, .l ys], []) else some (.normal, [.b b, .i (wr .i64 (i + 1)), .l xs, .l ys], []))) else some (.exit 0, [.b b, .l xs, .l ys], []) := by cases n1 <;> cases n2 <;> kernel_rfl
theorem ss_round (n1 n2 : Bool) (rd : Option Nat) (xs ys : List ByteArray) (b : Bool) (i : Int) : roundT Tryd.prog (orcE emptyTab plainL) noLoops 100 2 rd 34 ssLp (ssT n1 n2) (ssX n1 n2) [.b b, .i i, .ss xs, .ss ys] =
    bif decide (i < Int.ofNat xs.length) then atS xs i (fun x => atS ys i (fun y => bif !strEq x y then some (.ret, [.b false, .ss xs, .ss ys], []) else some (.normal, [.b b, .i (wr .i64 (i + 1)), .ss xs, .ss ys], []))) else some (.exit 0, [.b b, .ss xs, .ss ys], []) := by cases n1 <;> cases n2 <;> kernel_rfl
theorem ix_round (nn : Bool) (rd : Option Nat) (c z n i : Int) (xs : List Int) : roundT Tryd.prog (orcE emptyTab plainL) noLoops 100 1 rd 51 ixLp (ixT nn) (ixX nn) [.i c, .i z, .i n, .i i, .l xs] =
    bif decide (i < n) then atU xs i (fun x => bif decide (c = x) then some (.ret, [.i i, .l xs], []) else some (.normal, [.i c, .i z, .i n, .i (wr .i64 (i + 1)), .l xs], [])) else some (.exit 0, [.i z, .l xs], []) := by cases nn <;> kernel_rfl
end Go.Proofs.YtnhilofmafjdpaaDoor
