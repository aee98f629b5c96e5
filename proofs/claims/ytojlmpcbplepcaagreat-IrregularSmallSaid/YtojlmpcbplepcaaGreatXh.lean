/- Texts merged: Xh, Xi, Xj, Ct. -/
import Derived.Test.YtojlmpcbplepcaaGreatXg
import Derived.Test.YtojlmpcbplepcaaGreatLe
/- Chapter 10: the reference's Right answers as the program's. -/
namespace Go.Proofs.YtojlmpcbplepcaaGreat
open Go Go.Eng
noncomputable def t9 (AS : List Int → List Int → Bool) : List PV → Fin
  | [.i i, .l xs, .l ac, .i v1, .i v2, .i v3, .i v4, .i v5, .i v6, .i v7, .i v8, .i v9, .i v10, .i v11, .i v12, .i v13, .i v14] => .br (pB (i = 0 ∧ ac.length ≤ 200000)) (.br (AS xs ac) (.leaf (.exit 2) (x85N.at [.l xs, .l ac, .i v1, .i v2, .i v3, .i v4, .i v5, .i v6, .i v7, .i v8, .i v9, .i v10, .i v11, .i v12, .i v13, .i v14])) (.leaf .ret (x85R.at [.b false, .l xs, .l ac]))) .no
  | _ => .no
noncomputable def t14 (CS : List Int → List Int → Bool) : List PV → Fin
  | [.i i, .l xs, .l ac, .i v1, .i v2, .i v3, .i v4, .i v5, .i v6, .i v7, .i v8, .i v9, .i v10, .i v11, .i v12, .i v13, .i v14] => .br (pB (i = 0 ∧ okL xs = true ∧ lenOk ac = true)) (.br (CS xs ac) (.leaf (.exit 4) (x85N.at [.l xs, .l ac, .i v1, .i v2, .i v3, .i v4, .i v5, .i v6, .i v7, .i v8, .i v9, .i v10, .i v11, .i v12, .i v13, .i v14])) (.leaf .ret (x85R.at [.b false, .l xs, .l ac]))) .no
  | _ => .no
noncomputable def L85 (AS CS : List Int → List Int → Bool) : Loops := sums (fun n => match n with | 9 => some (lsumD 2 x9T xLp9 (t9 AS) noSum) | 14 => some (lsumD 2 x14T xLp14 (t14 CS) noSum) | _ => none)
def asB (xs ac : List Int) : Bool := acS ac (xs.length : Int) 0 ac.length
def csB (xs ac : List Int) : Bool := clS xs ac 0 xs.length
theorem L85_ok : loopsOk Tryz.prog (L85 asB csB) := by
  intro n g hg
  simp only [L85, sums] at hg
  split at hg
  · cases hg
    refine lsumD_ok (by kernel_rfl) (fun rd ps e s h => ?_) noSum_ok
    unfold t9 at h
    split at h
    · rename_i i xs ac v1 v2 v3 v4 v5 v6 v7 v8 v9 v10 v11 v12 v13 v14
      obtain ⟨⟨rfl, hl⟩, hc⟩ := pick2 h
      obtain ⟨m, hm⟩ := l9 rd xs ac ⟨v1, ⟨v2, v3, v4, v5⟩, ⟨v6, v7, v8, v9⟩, v10, ⟨v11, v12, v13, v14⟩⟩ hl 0 (Nat.zero_le _)
      rw [Nat.sub_zero, show acS ac (xs.length : Int) 0 ac.length = asB xs ac from rfl] at hm
      unfold rgF at hm
      rcases hc with ⟨c1, rfl, rfl⟩ | ⟨c1, rfl, rfl⟩
      · rw [c1] at hm; exact hm.loop
      · rw [c1] at hm; exact hm.loop
    · cases h
  · cases hg
    refine lsumD_ok (by kernel_rfl) (fun rd ps e s h => ?_) noSum_ok
    unfold t14 at h
    split at h
    · rename_i i xs ac v1 v2 v3 v4 v5 v6 v7 v8 v9 v10 v11 v12 v13 v14
      obtain ⟨⟨rfl, hx, hl⟩, hc⟩ := pick2 h
      obtain ⟨m, hm⟩ := l14 rd xs ac ⟨v1, ⟨v2, v3, v4, v5⟩, ⟨v6, v7, v8, v9⟩, v10, ⟨v11, v12, v13, v14⟩⟩ hx hl 0 (Nat.zero_le _)
      rw [Nat.sub_zero, show clS xs ac 0 xs.length = csB xs ac from rfl] at hm
      unfold rgF at hm
      rcases hc with ⟨c1, rfl, rfl⟩ | ⟨c1, rfl, rfl⟩
      · rw [c1] at hm; exact hm.loop
      · rw [c1] at hm; exact hm.loop
    · cases h
  · cases hg
noncomputable def nestB : List Bool → Option V → Option V
  | [], k => k
  | b :: r, k => bif b then some (.bool false) else nestB r k
theorem e85 (R : NG) (AS CS : List Int → List Int → Bool) (xs ac : List Int) (s : CD) : evalFn Tryz.prog (orcR R) (L85 AS CS) 100 25 Tryz.f25 [.agg (s.vs (.gs 0) (.gs 1))] (crsH false false xs ac) (fun v _ => some v) =
    nestB (headL s xs) (cond (codesB [(xLp9, xLp9)]) (bif pB ((0 : Int) = 0 ∧ ac.length ≤ 200000) then bif AS xs ac then cond (codesB [(xLp14, xLp14)]) (bif pB ((0 : Int) = 0 ∧ okL xs = true ∧ lenOk ac = true) then bif CS xs ac then
      bif decide (s.h = 0) then some (.bool true) else bif R.OK xs then some (.bool (!R.EN xs)) else none else some (.bool false) else none) none else some (.bool false) else none) none) := by kernel_rfl
theorem nest_is : ∀ (l : List Bool) (b : Bool), nestB l (some (.bool b)) = some (.bool (!l.any id && b))
  | [], b => by simp [nestB]
  | c :: r, b => by
    unfold nestB
    rw [nest_is r b]
    cases c <;> rfl
theorem f85 (n1 n2 : Bool) {s : CD} {xs ac : List Int} (h : okL xs = true) (hc : lenOk ac = true) (hd : dkB s = true) : FnOK Tryz.prog 25 [.agg (s.vs (.gs 0) (.gs 1))] (crsH n1 n2 xs ac) (.bool (rgtI s xs ac)) (crsH n1 n2 xs ac ++ []) := by
  refine crs_fn orcR_ok L85_ok Tryz.func25 rfl ?_ n1 n2
  rw [e85, lpCd10, lpCd10, pB_iff.2 ⟨rfl, of_decide_eq_true hc⟩, pB_iff.2 ⟨rfl, h, hc⟩, show nG.OK xs = true from h, show nG.EN xs = tzE xs from rfl, ← right_is h hd]
  have e : (cond true (bif true then bif asB xs ac then cond true (bif true then bif csB xs ac then bif decide (s.h = 0) then some (V.bool true) else bif true then some (.bool (!tzE xs)) else none else some (.bool false) else none) none else some (.bool false) else none) none) =
      some (V.bool (asB xs ac && (csB xs ac && (decide (s.h = 0) || !tzE xs)))) := by
    cases asB xs ac <;> cases csB xs ac <;> cases decide (s.h = 0) <;> rfl
  rw [e, nest_is]
  rfl
end Go.Proofs.YtojlmpcbplepcaaGreat

/- Chapter 10: the reference's Over, seat, Turn. -/
namespace Go.Proofs.YtojlmpcbplepcaaGreat
open Go Go.Eng
structure NH where
  R : NG
  CK : List Int → Bool
  DK : CD → Bool
  RG : CD → List Int → List Int → Bool
  OB : CD → List Int → List Int → Bool
  OE : CD → List Int → List Int → Int
  TV : CD → List Int → List Int → Int
  OP : CD → List Int → List Int → Int
  MK : Int → Int → Int
def nH : NH := ⟨nG, lenOk, dkB, rgtI, ovrB, ovrE, tuV, opI, mkI⟩
def NH.C (N : NH) (s : CD) (xs ac : List Int) : Bool := N.R.OK xs && (N.CK ac && N.DK s)
def g85 (N : NH) : CH
  | [.agg l], [.rs _ 1 (.ints .u8 xs), .rs _ 1 (.ints .i64 ac)] => match ofCrs l with
    | some (s, .gs 0, .gs 1) => some (N.C s xs ac, .bool (N.RG s xs ac), [])
    | _ => none
  | _, _ => none
def g81 (N : NH) : CH
  | [.agg l], [.rs _ 1 (.ints .u8 xs), .rs _ 1 (.ints .i64 ac)] => match ofCrs l with
    | some (s, .gs 0, .gs 1) => some (N.C s xs ac, .tuple [.bool (N.OB s xs ac), .int .i64 (N.OE s xs ac)], [])
    | _ => none
  | _, _ => none
def g99 (N : NH) : CH
  | [.agg l, .int .i64 i], [.rs _ 1 (.ints .u8 _), .rs _ 1 (.ints .i64 _)] => match ofCrs l with
    | some (s, .gs 0, .gs 1) => some (true, .int .u8 (N.MK s.d i), [])
    | _ => none
  | _, _ => none
def d85 : FuncId → Bool := fun f => Nat.beq f 25
def d81 : FuncId → Bool := fun f => Nat.beq f 13 || Nat.beq f 56
def h85 (N : NH) : HTab := hTG N.R (addH 25 (g85 N) emptyH)
def h81 (N : NH) : HTab := hTG N.R (addH 13 (g81 N) (addH 56 (g99 N) emptyH))
theorem C_ok {s : CD} {xs ac : List Int} (h : nH.C s xs ac = true) : okL xs = true ∧ lenOk ac = true ∧ dkB s = true := by
  unfold NH.C at h
  simp only [Bool.and_eq_true] at h
  exact h
theorem g85_ok : cOk 25 (g85 nH) := by
  intro args hp c v nb hq hc
  unfold g85 at hq
  split at hq
  · split at hq
    · rename_i s hs
      cases hq
      obtain ⟨h1, h2, h3⟩ := C_ok hc
      rw [ofCrs_ok hs]
      exact ⟨.of Tryz.func25 (by kernel_rfl), f85 _ _ h1 h2 h3⟩
    · cases hq
  · cases hq
theorem h85_ok : HTabOk Tryz.prog (h85 nH) := hTG_ok (addH_ok g85_ok emptyH_ok)
theorem e99 (xs ac : List Int) (s : CD) (i : Int) : evalFn Tryz.prog (orcE emptyTab plainL) noLoops 100 56 Tryz.f56 [.agg (s.vs (.gs 0) (.gs 1)), .int .i64 i] (crsH false false xs ac) (fun v _ => some v) = some (.int .u8 (mkI s.d i)) := by kernel_rfl
theorem f99 (n1 n2 : Bool) (s : CD) (xs ac : List Int) (i : Int) : FnOK Tryz.prog 56 [.agg (s.vs (.gs 0) (.gs 1)), .int .i64 i] (crsH n1 n2 xs ac) (.int .u8 (mkI s.d i)) (crsH n1 n2 xs ac ++ []) :=
  crs_fn (orcE_ok emptyTab_ok plainL_ok) noLoops_ok Tryz.func56 rfl (e99 xs ac s i) n1 n2
theorem e81 (N : NH) (xs ac : List Int) (s : CD) : evalFn Tryz.prog (orcG N.R (domG d85) (h85 N)) noLoops 100 13 Tryz.f13 [.agg (s.vs (.gs 0) (.gs 1))] (crsH false false xs ac) (fun v _ => some v) =
    bif N.C s xs ac then bif !N.RG s xs ac then some (.tuple [.bool false, .int .i64 100]) else bif N.R.OK xs then some (.tuple [.bool (N.R.EN xs), .int .i64 0]) else none else none := by kernel_rfl
theorem rgt_gc {s : CD} {xs ac : List Int} (h : okL xs = true) (hd : dkB s = true) (hr : rgtI s xs ac = true) : (0 ≤ s.d ∧ s.d ≤ 3) ∧ xs.length ≤ 400 ∧ GC s.d xs ac ∧ GI s.d xs ∧ (decide (s.h = 0) || !ovI s.d xs) = true ∧ (headL s xs).any id = false := by
  obtain ⟨hl, hu⟩ := okL_iff.1 h
  have hu0 : ∀ c ∈ xs, 0 ≤ c := fun c hc => (allU_iff.1 hu c hc).1
  have hd0 : 0 ≤ s.d := (of_decide_eq_true hd).1
  unfold rgtI at hr
  cases hh : (headL s xs).any id with
  | true => rw [hh] at hr; cases hr
  | false =>
    obtain ⟨hd3, hl4⟩ := head_d hh
    rw [hh] at hr
    simp only [Bool.not_false, Bool.true_and, Bool.and_eq_true, decide_eq_true_eq] at hr
    obtain ⟨r1, r2, r3⟩ := hr
    obtain ⟨k1, k2⟩ := GC.of (ac := ac) xs.length xs rfl hu0 r1
    rw [r2, List.take_length] at k2
    exact ⟨⟨hd0, hd3⟩, hl4, k2, k2.gi ⟨hd0, hd3⟩ (by omega), r3, rfl⟩
theorem end_rgt {s : CD} {xs ac : List Int} (h : okL xs = true) (hd : dkB s = true) (hr : rgtI s xs ac = true) : tzE xs = ovI s.d xs := end_gi (rgt_gc h hd hr).2.2.2.1 (okL_len h)
theorem f81 (n1 n2 : Bool) {s : CD} {xs ac : List Int} (h : okL xs = true) (hc : lenOk ac = true) (hd : dkB s = true) : FnOK Tryz.prog 13 [.agg (s.vs (.gs 0) (.gs 1))] (crsH n1 n2 xs ac) (.tuple [.bool (ovrB s xs ac), .int .i64 (ovrE s xs ac)]) (crsH n1 n2 xs ac ++ []) := by
  refine crs_fn (orcG_ok (dom := domG d85) h85_ok) noLoops_ok Tryz.func13 rfl ?_ n1 n2
  have hC : nH.C s xs ac = true := by unfold NH.C; rw [show nH.R.OK xs = true from h, show nH.CK ac = true from hc, show nH.DK s = true from hd]; rfl
  refine (e81 nH xs ac s).trans ?_
  rw [hC, show nH.RG s xs ac = rgtI s xs ac from rfl, show nH.R.OK xs = true from h, show nH.R.EN xs = tzE xs from rfl]
  unfold ovrB ovrE
  cases hr : rgtI s xs ac with
  | false => rfl
  | true => rw [end_rgt h hd hr]; rfl
theorem g81_ok : cOk 13 (g81 nH) := by
  intro args hp c v nb hq hc
  unfold g81 at hq
  split at hq
  · split at hq
    · rename_i s hs
      cases hq
      obtain ⟨h1, h2, h3⟩ := C_ok hc
      rw [ofCrs_ok hs]
      exact ⟨.of Tryz.func13 (by kernel_rfl), f81 _ _ h1 h2 h3⟩
    · cases hq
  · cases hq
theorem g99_ok : cOk 56 (g99 nH) := by
  intro args hp c v nb hq hc
  unfold g99 at hq
  split at hq
  · split at hq
    · rename_i s hs
      cases hq
      rw [ofCrs_ok hs]
      exact ⟨.of Tryz.func56 (by kernel_rfl), f99 _ _ _ _ _ _⟩
    · cases hq
  · cases hq
theorem h81_ok : HTabOk Tryz.prog (h81 nH) := hTG_ok (addH_ok g81_ok (addH_ok g99_ok emptyH_ok))
theorem e73 (N : NH) (xs ac : List Int) (s : CD) : evalFn Tryz.prog (orcG N.R (domG d81) (h81 N)) noLoops 100 15 Tryz.f15 [.agg (s.vs (.gs 0) (.gs 1))] (crsH false false xs ac) (fun v _ => some v) =
    bif N.C s xs ac then bif !decide (N.OE s xs ac = 0) then some (.tuple [.int .u8 0, .int .i64 (N.OE s xs ac)]) else bif N.OB s xs ac then some (.tuple [.int .u8 0, .int .i64 101]) else some (.tuple [.int .u8 (N.MK s.d (Int.ofNat xs.length)), .int .i64 0]) else none := by kernel_rfl
theorem f73 (n1 n2 : Bool) {s : CD} {xs ac : List Int} (h : okL xs = true) (hc : lenOk ac = true) (hd : dkB s = true) : FnOK Tryz.prog 15 [.agg (s.vs (.gs 0) (.gs 1))] (crsH n1 n2 xs ac) (.tuple [.int .u8 (tuV s xs ac), .int .i64 (opI s xs ac)]) (crsH n1 n2 xs ac ++ []) := by
  refine crs_fn (orcG_ok (dom := domG d81) h81_ok) noLoops_ok Tryz.func15 rfl ?_ n1 n2
  have hC : nH.C s xs ac = true := by unfold NH.C; rw [show nH.R.OK xs = true from h, show nH.CK ac = true from hc, show nH.DK s = true from hd]; rfl
  refine (e73 nH xs ac s).trans ?_
  rw [hC, show nH.OE s xs ac = ovrE s xs ac from rfl, show nH.OB s xs ac = ovrB s xs ac from rfl, show nH.MK s.d (Int.ofNat xs.length) = trnI s xs from rfl]
  unfold tuV opI ovrB ovrE
  cases rgtI s xs ac <;> cases ovI s.d xs <;> rfl
end Go.Proofs.YtojlmpcbplepcaaGreat

/- Chapter 10: the reference's Legal: its loop. -/
namespace Go.Proofs.YtojlmpcbplepcaaGreat
open Go Go.Eng
def g73k (N : NH) (k : Int) : CH
  | [.agg l], [.rs _ 1 (.ints .u8 xs), .rs _ 1 (.ints .i64 ac)] => match ofCrs l with
    | some (s, .gs 0, .gs 1) => some (N.C s xs ac && decide (N.TV s xs ac = k), .tuple [.int .u8 k, .int .i64 (N.OP s xs ac)], [])
    | _ => none
  | _, _ => none
def d73 : FuncId → Bool := fun f => Nat.beq f 15
def h73 (N : NH) (k : Int) : HTab := hTG N.R (addH 15 (g73k N k) emptyH)
theorem g73k_ok (k : Int) : cOk 15 (g73k nH k) := by
  intro args hp c v nb hq hc
  unfold g73k at hq
  split at hq
  · split at hq
    · rename_i s hs
      cases hq
      simp only [Bool.and_eq_true, decide_eq_true_eq] at hc
      obtain ⟨hc, rfl⟩ := hc
      obtain ⟨h1, h2, h3⟩ := C_ok hc
      rw [ofCrs_ok hs]
      exact ⟨.of Tryz.func15 (by kernel_rfl), f73 _ _ h1 h2 h3⟩
    · cases hq
  · cases hq
theorem h73_ok (k : Int) : HTabOk Tryz.prog (h73 nH k) := hTG_ok (addH_ok (g73k_ok k) emptyH_ok)
noncomputable abbrev orcT73 (N : NH) (k : Int) : Oracle := orcG N.R (domG d73) (h73 N k)
noncomputable def xLp74 : Code := loopOf 11 Tryz.f17
def x74T : Tm := ⟨mkS [(1, .ptr 2 0), (7, .gs 3), (8, .int .u8)] 0 86, crsB ++ [.grow false 5 1 u8L], []⟩
def x74X : Tm := ⟨mkS [(7, .gs 3)] 0 86, crsB ++ [.grow false 5 1 u8L], []⟩
def xIn74 (i : Int) (xs ac : List Int) (s : CD) (ys : List Int) : List PV := .i i :: .l xs :: .l ac :: s.pv [.l ys]
theorem r74 (N : NH) (rd : Option Nat) (i : Int) (xs ac ys : List Int) (s : CD) : roundX Tryz.prog (orcT73 N 0) noLoops 100 2 rd 17 xLp74 x74T x74T (fun _ => x74X) (xIn74 i xs ac s ys) =
    bif decide (i < 38) then bif N.R.OK xs then bif N.R.FR xs i then bif decide (s.h = 0) then bif decide ((ys ++ [i]).length * 2 ≤ 70368744177664) then some (.normal, xIn74 (wr .u8 (i + 1)) xs ac s (ys ++ [i]), []) else none else
      bif !decide (i = 1) then bif !decide (i = 2) then bif decide ((ys ++ [i]).length * 2 ≤ 70368744177664) then some (.normal, xIn74 (wr .u8 (i + 1)) xs ac s (ys ++ [i]), []) else none else some (.normal, xIn74 (wr .u8 (i + 1)) xs ac s ys, []) else some (.normal, xIn74 (wr .u8 (i + 1)) xs ac s ys, [])
      else some (.normal, xIn74 (wr .u8 (i + 1)) xs ac s ys, []) else none else some (.exit 0, .l xs :: .l ac :: s.pv [.l ys], []) := by kernel_rfl
def rlB (s : CD) (xs : List Int) (i : Int) : Bool := rfrI xs i && (decide (s.h = 0) || (!decide (i = 1) && !decide (i = 2)))
def rlL (s : CD) (xs : List Int) : List Int := calls38.filter (rlB s xs)
theorem l74 (rd : Option Nat) (xs ac : List Int) (s : CD) (h : okL xs = true) : ∀ x : Nat × List Int, (x.1 ≤ 38 ∧ x.2.length ≤ x.1) →
    ∃ m, SimL Tryz.prog 2 rd xLp74 m (x74T.at (xIn74 (x.1 : Int) xs ac s x.2)) (.exit 0) (x74X.at (.l xs :: .l ac :: s.pv [.l (x.2 ++ (calls38.drop x.1).filter (rlB s xs))])) := by
  refine loop_of_roundsX_n (C := orcT73 nH 0) (L := noLoops) (N := 100) (me := 17) (T := x74T) (T' := fun _ => x74X) (orcG_ok (h73_ok 0)) mixed noLoops_ok (by kernel_rfl) (fun _ => by kernel_rfl) (X := Nat × List Int)
    (fun x => xIn74 (x.1 : Int) xs ac s x.2) (fun x => x.1 ≤ 38 ∧ x.2.length ≤ x.1) (fun x => 38 - x.1) (fun x => (.exit 0, .l xs :: .l ac :: s.pv [.l (x.2 ++ (calls38.drop x.1).filter (rlB s xs))])) ?_
  rintro ⟨i, ys⟩ ⟨hi, hy⟩
  dsimp only at hi hy ⊢
  have key := r74 nH rd (i : Int) xs ac ys s
  rcases Nat.lt_or_ge i 38 with hlt | hge
  · have hw : wr .u8 ((i : Int) + 1) = ((i + 1 : Nat) : Int) := by rw [wr_u8_id (by omega)]; omega
    rw [decide_eq_true (show (i : Int) < 38 by omega), cond_true, show nH.R.OK xs = true from h, cond_true, hw, decide_eq_true (show (ys ++ [(i : Int)]).length * 2 ≤ 70368744177664 by rw [List.length_append, List.length_singleton]; omega), cond_true, show nH.R.FR xs (i : Int) = rfrI xs (i : Int) from rfl] at key
    rw [List.drop_eq_getElem_cons (show i < calls38.length from hlt), List.filter_cons, c38_get hlt]
    have yes : rlB s xs (i : Int) = true → roundX Tryz.prog (orcT73 nH 0) noLoops 100 2 rd 17 xLp74 x74T x74T (fun _ => x74X) (xIn74 (i : Int) xs ac s ys) = some (.normal, xIn74 ((i + 1 : Nat) : Int) xs ac s (ys ++ [(i : Int)]), []) := fun hb => by
      rw [key]
      unfold rlB at hb
      cases h1 : rfrI xs (i : Int) <;> cases h2 : decide (s.h = 0) <;> cases h3 : decide ((i : Int) = 1) <;> cases h4 : decide ((i : Int) = 2) <;> rw [h1, h2, h3, h4] at hb <;> first | rfl | cases hb
    have no : rlB s xs (i : Int) = false → roundX Tryz.prog (orcT73 nH 0) noLoops 100 2 rd 17 xLp74 x74T x74T (fun _ => x74X) (xIn74 (i : Int) xs ac s ys) = some (.normal, xIn74 ((i + 1 : Nat) : Int) xs ac s ys, []) := fun hb => by
      rw [key]
      unfold rlB at hb
      cases h1 : rfrI xs (i : Int) <;> cases h2 : decide (s.h = 0) <;> cases h3 : decide ((i : Int) = 1) <;> cases h4 : decide ((i : Int) = 2) <;> rw [h1, h2, h3, h4] at hb <;> first | rfl | cases hb
    cases hb : rlB s xs (i : Int) with
    | true =>
      refine ⟨_, _, _, yes hb, codesNil, .inl ⟨rfl, (i + 1, ys ++ [(i : Int)]), rfl, ⟨by dsimp only; omega, by dsimp only; rw [List.length_append, List.length_singleton]; omega⟩, by dsimp only; omega, ?_⟩⟩
      dsimp only
      rw [if_pos rfl, List.append_assoc]; rfl
    | false =>
      refine ⟨_, _, _, no hb, codesNil, .inl ⟨rfl, (i + 1, ys), rfl, ⟨by dsimp only; omega, by dsimp only; omega⟩, by dsimp only; omega, ?_⟩⟩
      dsimp only
      rw [if_neg (by simp)]
  · rw [decide_eq_false (show ¬ (i : Int) < 38 by omega), cond_false] at key
    refine ⟨_, _, _, key, codesNil, .inr ⟨by simp, ?_⟩⟩
    rw [List.drop_eq_nil_of_le (by rw [c38_len]; omega), List.filter_nil, List.append_nil]
noncomputable def t74 (RL : CD → List Int → List Int) : List PV → Fin
  | .i c :: .l xs :: .l ac :: ps => match crsP ps with
    | some (s, [.l ys]) => .br (pB (c = 0 ∧ ys = [] ∧ okL xs = true)) (.leaf (.exit 0) (x74X.at (.l xs :: .l ac :: s.pv [.l (RL s xs)]))) .no
    | _ => .no
  | _ => .no
noncomputable def L74 (RL : CD → List Int → List Int) : Loops := sums (fun n => match n with | 11 => some (lsumD 2 x74T xLp74 (t74 RL) noSum) | _ => none)
theorem L74_ok : loopsOk Tryz.prog (L74 rlL) := by
  intro n g hg
  simp only [L74, sums] at hg
  split at hg
  · cases hg
    refine lsumD_ok (by kernel_rfl) (fun rd ps e st h => ?_) noSum_ok
    unfold t74 at h
    split at h
    · rename_i c xs ac ps
      split at h
      · rename_i s ys hs
        rw [crsP_ok hs]
        obtain ⟨⟨rfl, rfl, h1⟩, rfl, rfl⟩ := pick1 h
        obtain ⟨m, hm⟩ := l74 rd xs ac s h1 (0, []) ⟨Nat.zero_le _, Nat.le_refl _⟩
        exact hm.loop
      · cases h
    · cases h
  · cases hg
abbrev AL := Option (List PV × List (Code × Code))
def ansL (e : Int) (xs ac ys : List Int) : AL := some ([.i e, .l xs, .l ac, .l ys], [])
noncomputable def loop74 (RL : CD → List Int → List Int) (s : CD) (xs ac : List Int) : AL := cond (codesB [(xLp74, xLp74)]) (bif pB ((0 : Int) = 0 ∧ ([] : List Int) = [] ∧ okL xs = true) then ansL 0 xs ac (RL s xs) else none) none
noncomputable def again74 (N : NH) (RL : CD → List Int → List Int) (k : Nat) (s : CD) (xs ac : List Int) : AL := bif N.R.OK xs then bif N.R.FR xs (wr .u8 (s.a.at k - 1)) then ansL 0 xs ac [wr .u8 (s.a.at k - 1)] else loop74 RL s xs ac else none
noncomputable def all74 (N : NH) (RL : CD → List Int → List Int) (k : Nat) (s : CD) (xs ac : List Int) : AL := bif N.C s xs ac && decide (N.TV s xs ac = (k : Int)) then bif !decide (N.OP s xs ac = 0) then ansL (N.OP s xs ac) xs ac [] else
  bif !decide (s.p.at k = 0) then ansL 0 xs ac [0] else bif decide (0 < s.a.at k) then (bif decide (Int.ofNat xs.length = 0) then again74 N RL k s xs ac else atU xs (wr .i64 (Int.ofNat xs.length - 1)) (fun v => bif decide (v = 0) then again74 N RL k s xs ac else loop74 RL s xs ac)) else loop74 RL s xs ac else none
theorem e74_0 (N : NH) (RL : CD → List Int → List Int) (s : CD) (xs ac : List Int) : evalFn Tryz.prog (orcT73 N 0) (L74 RL) 100 17 Tryz.f17 [.agg (s.vs (.gs 0) (.gs 1))] (crsH false false xs ac) (ansT lstA 2) = all74 N RL 0 s xs ac := by kernel_rfl
theorem e74_1 (N : NH) (RL : CD → List Int → List Int) (s : CD) (xs ac : List Int) : evalFn Tryz.prog (orcT73 N 1) (L74 RL) 100 17 Tryz.f17 [.agg (s.vs (.gs 0) (.gs 1))] (crsH false false xs ac) (ansT lstA 2) = all74 N RL 1 s xs ac := by kernel_rfl
theorem e74_2 (N : NH) (RL : CD → List Int → List Int) (s : CD) (xs ac : List Int) : evalFn Tryz.prog (orcT73 N 2) (L74 RL) 100 17 Tryz.f17 [.agg (s.vs (.gs 0) (.gs 1))] (crsH false false xs ac) (ansT lstA 2) = all74 N RL 2 s xs ac := by kernel_rfl
theorem e74_3 (N : NH) (RL : CD → List Int → List Int) (s : CD) (xs ac : List Int) : evalFn Tryz.prog (orcT73 N 3) (L74 RL) 100 17 Tryz.f17 [.agg (s.vs (.gs 0) (.gs 1))] (crsH false false xs ac) (ansT lstA 2) = all74 N RL 3 s xs ac := by kernel_rfl
end Go.Proofs.YtojlmpcbplepcaaGreat

/- Chapter 10: Contract: its two loops. -/
namespace Go.Proofs.YtojlmpcbplepcaaGreat
open Go Go.Eng
def tabC (MK : Int → Int → Int) : PTab := addTab 66 gPartsP (addTab 67 (iMaker MK) emptyTab)
theorem tabC_ok : PTabOk Tryz.prog (tabC mkI) := by
  refine addTab_ok ?_ (addTab_ok ?_ emptyTab_ok)
  · intro args c v h _
    unfold gPartsP at h
    split at h
    · cases h; rw [← ptV_is]; exact parts_p _
    · cases h
  · intro args c v h _
    unfold iMaker at h
    split at h
    · cases h; exact maker_p _ _
    · cases h
def ct4 : List TV := [.int .u8, .int .u8, .int .u8, .int .u8]
def ctBk : List TB := [.rs false 1 (.ints .u8), .rs false 1 (.ints .i64), .own 27 (.vs (crsT (.gs 0) (.gs 1))), .own 56 (.vs ct4), .own 56 (.vs ct4)]
noncomputable def caLp : Code := loopOf 12 Tryz.f20
def caT : Tm := ⟨mkS [(1, .ptr 2 0), (2, .ptr 3 0), (4, .int .i64), (7, .int .u8), (9, .ptr 4 0), (50, .view 0 1), (51, .int .i64), (52, .int .i64)] 0 91, ctBk, []⟩
def caX : Tm := ⟨mkS [(1, .ptr 2 0), (2, .ptr 3 0), (4, .int .i64), (7, .int .u8), (9, .ptr 4 0)] 0 91, ctBk, []⟩
noncomputable def cbLp : Code := loopOf 17 Tryz.f20
def cbT : Tm := ⟨mkS [(1, .ptr 2 0), (2, .ptr 3 0), (4, .int .i64), (7, .int .u8), (9, .ptr 4 0), (12, .int .i64)] 0 91, ctBk, []⟩
def cbX : Tm := ⟨mkS [(2, .ptr 3 0), (9, .ptr 4 0)] 0 91, ctBk, []⟩
def q4p (q : Q4) (r : List PV) : List PV := .i q.a :: .i q.b :: .i q.c :: .i q.d :: r
def caIn (z dn : Int) (l k : Nat) (n i : Int) (xs ac : List Int) (s : CD) (t f : Q4) : List PV := .i z :: .i dn :: .n l :: .n k :: .i n :: .i i :: .l xs :: .l ac :: s.pv (q4p t (q4p f []))
def caOut (z dn : Int) (xs ac : List Int) (s : CD) (t f : Q4) : List PV := .i z :: .i dn :: .l xs :: .l ac :: s.pv (q4p t (q4p f []))
def cbIn (z dn i : Int) (xs ac : List Int) (s : CD) (t f : Q4) : List PV := .i z :: .i dn :: .i i :: .l xs :: .l ac :: s.pv (q4p t (q4p f []))
def cbOut (xs ac : List Int) (s : CD) (t f : Q4) : List PV := .l xs :: .l ac :: s.pv (q4p t (q4p f []))
theorem ca_round (MK : Int → Int → Int) (rd : Option Nat) (z dn : Int) (l k : Nat) (n i : Int) (xs ac : List Int) (s : CD) (t f : Q4) : roundT Tryz.prog (orcJ nJ (tabC MK) plainL) noLoops 100 2 rd 20 caLp caT caX (caIn z dn l k n i xs ac s t f) =
    bif decide (i < n) then bif decide (0 ≤ i ∧ i < Int.ofNat k ∧ l + k ≤ xs.length) then atN xs (addS l i.toNat) fun x => some (.normal, caIn z dn l k n (wr .i64 (i + 1)) xs ac s t { f with c := foldI maxI f.c [x] }, []) else none else some (.exit 1, caOut z dn xs ac s t f, []) := by kernel_rfl
theorem cb_round (MK : Int → Int → Int) (rd : Option Nat) (z dn : Int) (i : Int) (xs ac : List Int) (s : CD) (t f : Q4) : roundT Tryz.prog (orcJ nJ (tabC MK) plainL) noLoops 100 2 rd 20 cbLp cbT cbX (cbIn z dn i xs ac s t f) =
    bif decide (i ≤ z) then bif decide (0 ≤ i ∧ i < Int.ofNat xs.length) then atN xs i.toNat fun x => bif isBid x then bif decide (dnZ x = dn) then some (.exit 3, cbOut xs ac s t { f with d := MK s.d i }, []) else some (.normal, cbIn z dn (wr .i64 (i + 2)) xs ac s t f, []) else
      some (.normal, cbIn z dn (wr .i64 (i + 2)) xs ac s t f, []) else none else some (.exit 3, cbOut xs ac s t f, []) := by kernel_rfl
end Go.Proofs.YtojlmpcbplepcaaGreat
