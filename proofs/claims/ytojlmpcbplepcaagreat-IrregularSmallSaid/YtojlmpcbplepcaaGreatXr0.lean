/- Texts merged: Xr0, Xr, Xs. -/
import Derived.Test.YtojlmpcbplepcaaGreatXn0
import Derived.Test.YtojlmpcbplepcaaGreatXm2
import Derived.Test.YtojlmpcbplepcaaGreatAc4
import Derived.Test.YtojlmpcbplepcaaGreatEng5
/- Chapter 10: the reference's made: what it is walked with. -/
namespace Go.Proofs.YtojlmpcbplepcaaGreat
open Go Go.Eng
def g99k (N : NH) (k : Int) : CH
  | [.agg l, .int .i64 i], [.rs _ 1 (.ints .u8 _), .rs _ 1 (.ints .i64 _)] => match ofCrs l with
    | some (s, .gs 0, .gs 1) => some (decide (N.MK s.d i = k), .int .u8 k, [])
    | _ => none
  | _, _ => none
theorem g99k_ok (k : Int) : cOk 56 (g99k nH k) := by
  intro args hp c v nb hq hc
  unfold g99k at hq
  split at hq
  · split at hq
    · rename_i s hs
      cases hq
      have hc := of_decide_eq_true hc
      subst hc
      rw [ofCrs_ok hs]
      exact ⟨.of Tryz.func56 (by kernel_rfl), f99 _ _ _ _ _ _⟩
    · cases hq
  · cases hq
def d99 : FuncId → Bool := fun f => Nat.beq f 56
def h99 (N : NH) (k : Int) : HTab := hTG N.R (addH 56 (g99k N k) emptyH)
theorem h99_ok (k : Int) : HTabOk Tryz.prog (h99 nH k) := hTG_ok (addH_ok (g99k_ok k) emptyH_ok)
def crsK : Tm := ⟨[some (.agg (crsT (.gs 2) (.gs 1)))], [.rs false 1 (.ints .u8), .rs false 1 (.ints .i64), .grow false 5 1 (.ints .u8)], []⟩
end Go.Proofs.YtojlmpcbplepcaaGreat

/- Chapter 10: the reference's made. -/
namespace Go.Proofs.YtojlmpcbplepcaaGreat
open Go Go.Eng
noncomputable def all102 (N : NH) (k : Nat) (s : CD) (xs ac : List Int) (x : Int) : AN := bif decide (N.MK s.d (Int.ofNat xs.length) = (k : Int)) then bif decide (xs.length * 2 ≤ 70368744177664) then bif decide ((xs ++ [x]).length * 2 ≤ 70368744177664) then
  bif decide (0 < s.p.at k) then some (((s.setP (wr .i64 (s.p.at k - 1)) k).setA 0 k).pv [.l xs, .l ac, .l (xs ++ [x])], []) else some ((s.setA 0 k).pv [.l xs, .l ac, .l (xs ++ [x])], []) else none else none else none
theorem e102 (N : NH) (s : CD) (xs ac : List Int) (x : Int) : ∀ k : Nat, k < 4 → evalFn Tryz.prog (orcG N.R (domG d99) (h99 N (k : Int))) noLoops 100 77 Tryz.f77 [.agg (s.vs (.gs 0) (.gs 1)), .int .u8 x] (crsH false false xs ac) (ansT crsK 2) = all102 N k s xs ac x
  | 0, _ => by kernel_rfl
  | 1, _ => by kernel_rfl
  | 2, _ => by kernel_rfl
  | 3, _ => by kernel_rfl
  | n + 4, h => absurd h (by omega)
def crsNk (xs : List Int) : List Blk := [.grow false 5 1 (.ints .u8 xs)]
theorem f102 (n1 n2 : Bool) {s : CD} {xs ac : List Int} {x : Int} {k : Nat} (hk : k < 4) (hl : xs.length ≤ 100000) (hs : mkI s.d (Int.ofNat xs.length) = (k : Int)) :
    FnOK Tryz.prog 77 [.agg (s.vs (.gs 0) (.gs 1)), .int .u8 x] (crsH n1 n2 xs ac) (.agg ((metI s k).vs (.gs 2) (.gs 1))) (crsH n1 n2 xs ac ++ crsNk (xs ++ [x])) := by
  refine fn_crs (fn_ans (T := crsK) (ps := (metI s k).pv [.l xs, .l ac, .l (xs ++ [x])]) (orcG_ok (dom := domG d99) (h99_ok (k : Int))) mixed Tryz.func77 noLoops_ok (by kernel_rfl) ((e102 nH s xs ac x k hk).trans ?_) codesNil rfl)
  unfold all102 metI
  rw [show nH.MK = mkI from rfl, decide_eq_true hs, decide_eq_true (show xs.length * 2 ≤ 70368744177664 by omega), decide_eq_true (show (xs ++ [x]).length * 2 ≤ 70368744177664 by simp; omega)]
  cases decide (0 < s.p.at k) <;> rfl
structure NW where
  Z : NZ
  MT : CD → Nat → CD
  RA : CD → Nat → CD
  FB : CD → Nat → Int → CD
  SU : Int → Int
  DN : Int → Int
  LZ : Int → Int
  CV : Int → Int → Int
  CE : Int → Int → Int
  BY : Int → Bool
  FO : CD → Nat → Int → Bool
def fbO (s : CD) (k : Nat) (m : Int) : Bool := decide (0 ≤ s.f.at k ∧ s.f.at k ≤ 15) && decide (0 ≤ m ∧ m ≤ 15)
def nW : NW := ⟨nZ, metI, raiI, fun s k m => s.setF (bitsI .or .u8 (s.f.at k) m) k, suI, dnZ, lvZ, chV, chE, byB, fbO⟩
def kLit : Int → Option Nat
  | .ofNat 0 => some 0
  | .ofNat 1 => some 1
  | .ofNat 2 => some 2
  | .ofNat 3 => some 3
  | _ => none
theorem kLit_ok {i : Int} {k : Nat} (h : kLit i = some k) : i = (k : Int) ∧ k < 4 := by
  unfold kLit at h
  split at h <;> cases h <;> exact ⟨rfl, by omega⟩
def g103 (N : NW) : List V → Option (Bool × V)
  | [.agg l, .int .u8 i] => match ofCrs l, kLit i with
    | some (s, x, y), some k => some (sliceV x && sliceV y, .agg ((N.RA s k).vs x y))
    | _, _ => none
  | _ => none
def g107 (N : NW) : List V → Option (Bool × V)
  | [.agg l, .int .u8 i, .int .u8 m] => match ofCrs l, kLit i with
    | some (s, x, y), some k => some (sliceV x && sliceV y && N.FO s k m, .agg ((N.FB s k m).vs x y))
    | _, _ => none
  | _ => none
def g104q (N : NW) : List V → Option (Bool × V)
  | [.int .u8 c] => some (N.BY c, .tuple [.int .u8 (N.LZ c), .int .u8 (N.DN c), .bool (N.Z.H.R.IB c)])
  | _ => none
def g105 (N : NW) : List V → Option (Bool × V)
  | [.int .u8 o, .int .u8 d] => some (N.BY o && decide (0 ≤ d ∧ d ≤ 4), .tuple [.int .u8 (N.CV o d), .int .i64 (N.CE o d)])
  | _ => none
def g108 (N : NW) : List V → Option (Bool × V)
  | [.int .u8 c] => some (N.BY c, .int .u8 (N.SU c))
  | _ => none
def tabQ (N : NW) : PTab := addTab 78 (g103 N) (addTab 80 (g107 N) (addTab 69 (g104q N) (addTab 79 (g105 N) (addTab 81 (g108 N) (tabIB N.Z.H.R.IB)))))
theorem tabQ_ok : PTabOk Tryz.prog (tabQ nW) := by
  refine addTab_ok ?_ (addTab_ok ?_ (addTab_ok ?_ (addTab_ok ?_ (addTab_ok ?_ tabIB_ok))))
  · intro args c v h hc
    unfold g103 at h
    split at h
    · split at h
      · rename_i s x y k hs hk
        cases h
        simp only [Bool.and_eq_true] at hc
        obtain ⟨rfl, hk4⟩ := kLit_ok hk
        rw [ofCrs_ok hs]
        exact raise_p hk4 hc.1 hc.2
      · cases h
    · cases h
  · intro args c v h hc
    unfold g107 at h
    split at h
    · split at h
      · rename_i l i m _ _ s x y k hs hk
        cases h
        simp only [Bool.and_eq_true] at hc
        obtain ⟨⟨hc2, hc3⟩, hc1⟩ := hc
        obtain ⟨rfl, hk4⟩ := kLit_ok hk
        rw [ofCrs_ok hs]
        have hq : fbO s k m = true := hc1
        unfold fbO at hq
        simp only [Bool.and_eq_true, decide_eq_true_eq] at hq
        exact forbid_p hk4 hq.1 hq.2 hc2 hc3
      · cases h
    · cases h
  · intro args c v h hc
    unfold g104q at h
    split at h
    · cases h; exact parts104_p hc
    · cases h
  · intro args c v h hc
    unfold g105 at h
    split at h
    · cases h; exact cheap105_p hc
    · cases h
  · intro args c v h hc
    unfold g108 at h
    split at h
    · cases h; exact suits108_p hc
    · cases h
def g102k (N : NW) (k : Nat) : CH
  | [.agg l, .int .u8 x], [.rs _ 1 (.ints .u8 xs), .rs _ 1 (.ints .i64 _)] => match ofCrs l with
    | some (s, .gs 0, .gs 1) => some (N.Z.H.R.OK xs && decide (N.Z.H.MK s.d (Int.ofNat xs.length) = (k : Int)), .agg ((N.MT s k).vs (.gs 2) (.gs 1)), crsNk (xs ++ [x]))
    | _ => none
  | _, _ => none
theorem g102k_ok {k : Nat} (hk : k < 4) : cOk 77 (g102k nW k) := by
  intro args hp c v nb hq hc
  unfold g102k at hq
  split at hq
  · split at hq
    · rename_i s hs
      cases hq
      simp only [Bool.and_eq_true, decide_eq_true_eq] at hc
      rw [ofCrs_ok hs]
      exact ⟨.of Tryz.func77 (by kernel_rfl), f102 _ _ hk (okL_len hc.1) hc.2⟩
    · cases hq
  · cases hq
noncomputable abbrev orcDo (N : NW) (dom : FuncId → Bool) (H : HTab) : Oracle := inl Tryz.prog ftab (tabQ N) plainL 100 never dom (hOrcS nrC H) 20
theorem orcDo_ok {dom : FuncId → Bool} {H : HTab} (hH : HTabOk Tryz.prog H) : OracleOk Tryz.prog (orcDo nW dom H) := inl_ok (hOrcS_ok hH) ftab_ok tabQ_ok plainL_ok mixed 20
end Go.Proofs.YtojlmpcbplepcaaGreat

/- Chapter 10: the reference's Do: what it computes. -/
namespace Go.Proofs.YtojlmpcbplepcaaGreat
open Go Go.Eng
def d75 : FuncId → Bool := domG fun f => Nat.beq f 17 || (Nat.beq f 56 || Nat.beq f 77)
def h75 (N : NW) (k : Nat) : HTab := hTG N.Z.H.R (addH 17 (g74 N.Z) (addH 56 (g99k N.Z.H (k : Int)) (addH 77 (g102k N k) emptyH)))
theorem h75_ok {k : Nat} (hk : k < 4) : HTabOk Tryz.prog (h75 nW k) := hTG_ok (addH_ok g74_ok (addH_ok (g99k_ok (k : Int)) (addH_ok (g102k_ok hk) emptyH_ok)))
def crsE : Tm := ⟨[some (.tuple [.agg (crsT .nil .nil), .int .i64])], [.rs false 1 (.ints .u8), .rs false 1 (.ints .i64)], []⟩
def crsK2 : Tm := ⟨[some (.tuple [.agg (crsT (.gs 2) (.gs 1)), .int .i64])], [.rs false 1 (.ints .u8), .rs false 1 (.ints .i64), .grow false 5 1 (.ints .u8)], []⟩
def noA {α : Type} (_ : α) : AN := none
noncomputable def sil75 (N : NW) (m : Nat) (y : Int) (t : CD) (K : CD → AN) : AN := bif N.BY y then bif N.FO (t.setP (-1) m) m (N.SU y) then K (N.FB (t.setP (-1) m) m (N.SU y)) else none else none
noncomputable def chg75 (N : NW) (m : Nat) (h : Int) (xs : List Int) (x : Int) (t : CD) (K : CD → AN) : AN := bif decide (0 < h) then (bif N.BY (wr .u8 (h - 1)) then bif N.Z.H.R.IB (wr .u8 (h - 1)) then (bif N.Z.H.R.OK xs then
  bif N.BY (N.Z.H.R.HG xs) && decide (0 ≤ N.DN (wr .u8 (h - 1)) ∧ N.DN (wr .u8 (h - 1)) ≤ 4) then
    bif decide (N.CE (N.Z.H.R.HG xs) (N.DN (wr .u8 (h - 1))) = 0) then bif !decide (N.CV (N.Z.H.R.HG xs) (N.DN (wr .u8 (h - 1))) = x) then sil75 N m (wr .u8 (h - 1)) (t.setH 0) K else K (t.setH 0) else sil75 N m (wr .u8 (h - 1)) (t.setH 0) K
  else none else none) else sil75 N m (wr .u8 (h - 1)) (t.setH 0) K else none) else K t
noncomputable def all75 (N : NW) (k : Nat) (s : CD) (xs ac : List Int) (x : Int) (B : Int → AN) (K : CD → AN) : AN := bif N.Z.H.C s xs ac && N.Z.CB s then bif !decide (N.Z.H.OP s xs ac = 0) then B (N.Z.H.OP s xs ac) else
  bif N.Z.H.R.OK (N.Z.LV s xs ac) then bif !N.Z.H.R.AM (N.Z.LV s xs ac) x then B 103 else bif decide (Int.ofNat xs.length = 400) then B 5 else
    bif decide (N.Z.H.MK s.d (Int.ofNat xs.length) = (k : Int)) then bif N.Z.H.R.OK xs && decide (N.Z.H.MK s.d (Int.ofNat xs.length) = (k : Int)) then
      bif decide (0 < s.a.at k) then (bif decide (0 < Int.ofNat xs.length) then atU xs (wr .i64 (Int.ofNat xs.length - 1)) (fun v => bif !decide (v = 0) then chg75 N (mate k) s.h xs x (N.RA (N.MT s k) (mate k)) K else chg75 N (mate k) s.h xs x (N.MT s k) K)
        else chg75 N (mate k) s.h xs x (N.MT s k) K) else chg75 N (mate k) s.h xs x (N.MT s k) K
    else none else none else none else none
noncomputable def badE (xs ac : List Int) (e : Int) : AN := some (c0.pv [.i e, .l xs, .l ac], [])
noncomputable def newE (xs ac ys : List Int) (s : CD) : AN := some (s.pv [.i 0, .l xs, .l ac, .l ys], [])
end Go.Proofs.YtojlmpcbplepcaaGreat
