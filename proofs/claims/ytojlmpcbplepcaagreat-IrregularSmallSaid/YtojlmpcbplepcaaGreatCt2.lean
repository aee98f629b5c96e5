/- Texts merged: Ct2, Ct3, Ld. -/
import Derived.Test.YtojlmpcbplepcaaGreatXh
/- Chapter 10: Contract: its loops as wholes. -/
namespace Go.Proofs.YtojlmpcbplepcaaGreat
open Go Go.Eng
def mxL : List Int → Int → Int
  | [], r => r
  | x :: q, r => mxL q (foldI maxI r [x])
theorem ca_loop (rd : Option Nat) (z dn : Int) (l k : Nat) (xs ac : List Int) (s : CD) (t f : Q4) (hl : l + k = xs.length) (hs : xs.length ≤ 100000) : ∀ x : Nat × Int, x.1 ≤ k →
    SimC Tryz.prog 2 rd (.loop caLp) (caT.at (caIn z dn l k (k : Int) (x.1 : Int) xs ac s t { f with c := x.2 })) (.exit 1) (caX.at (caOut z dn xs ac s t { f with c := mxL (xs.drop (l + x.1)) x.2 })) := by
  refine loop_of_rounds (C := orcJ nJ (tabC mkI) plainL) (L := noLoops) (N := 100) (me := 20) (T := caT) (T' := caX) (orcJ_ok tabC_ok plainL_ok) mixed noLoops_ok (by kernel_rfl) (by kernel_rfl) (X := Nat × Int)
    (fun x => caIn z dn l k (k : Int) (x.1 : Int) xs ac s t { f with c := x.2 }) (fun x => x.1 ≤ k) (fun x => k - x.1) (fun x => (.exit 1, caOut z dn xs ac s t { f with c := mxL (xs.drop (l + x.1)) x.2 })) ?_
  rintro ⟨i, r⟩ hi
  dsimp only at hi ⊢
  have key := ca_round mkI rd z dn l k (k : Int) (i : Int) xs ac s t { f with c := r }
  have z1 : Int.ofNat k = (k : Int) := rfl
  rcases Nat.lt_or_ge i k with hlt | hge
  · rw [z1, decide_eq_true (show (i : Int) < (k : Int) by omega), cond_true, decide_eq_true (show 0 ≤ (i : Int) ∧ (i : Int) < (k : Int) ∧ l + k ≤ xs.length by omega), cond_true, addS_eq, show ((i : Int)).toNat = i from rfl, atN_get (by omega), wr64 (n := (i : Int) + 1) (by omega) (by omega)] at key
    refine ⟨_, _, _, key, codesNil, .inl ⟨rfl, (i + 1, foldI maxI r [xs.getD (l + i) 0]), rfl, by dsimp only; omega, by dsimp only; omega, ?_⟩⟩
    dsimp only
    have hli : l + i < xs.length := by omega
    rw [List.drop_eq_getElem_cons hli, show l + (i + 1) = l + i + 1 by omega]
    have hg : xs.getD (l + i) 0 = xs[l + i] := by rw [List.getD_eq_getElem?_getD, List.getElem?_eq_getElem hli]; rfl
    rw [hg]; rfl
  · rw [decide_eq_false (show ¬ (i : Int) < (k : Int) by omega), cond_false] at key
    refine ⟨_, _, _, key, codesNil, .inr ⟨by simp, ?_⟩⟩
    rw [List.drop_eq_nil_of_le (by omega)]; rfl
def fdB (xs : List Int) (dn : Int) (z : Nat) : Nat → Nat → Option Nat
  | 0, _ => none
  | n + 1, i => bif decide (i ≤ z) then bif isBid (xs.getD i 0) && decide (dnZ (xs.getD i 0) = dn) then some i else fdB xs dn z n (i + 2) else none
def fdQ (d : Int) (f : Q4) : Option Nat → Q4
  | none => f
  | some i => { f with d := mkI d (i : Int) }
theorem cb_loop (rd : Option Nat) (z : Nat) (dn : Int) (xs ac : List Int) (s : CD) (t f : Q4) (hz : z < xs.length) (hs : xs.length ≤ 100000) : ∀ x : Nat × Nat, (z + 1 ≤ x.1 + x.2 ∧ x.2 ≤ z + 2) →
    SimC Tryz.prog 2 rd (.loop cbLp) (cbT.at (cbIn (z : Int) dn (x.2 : Int) xs ac s t f)) (.exit 3) (cbX.at (cbOut xs ac s t (fdQ s.d f (fdB xs dn z x.1 x.2)))) := by
  refine loop_of_rounds (C := orcJ nJ (tabC mkI) plainL) (L := noLoops) (N := 100) (me := 20) (T := cbT) (T' := cbX) (orcJ_ok tabC_ok plainL_ok) mixed noLoops_ok (by kernel_rfl) (by kernel_rfl) (X := Nat × Nat)
    (fun x => cbIn (z : Int) dn (x.2 : Int) xs ac s t f) (fun x => z + 1 ≤ x.1 + x.2 ∧ x.2 ≤ z + 2) (fun x => x.1) (fun x => (.exit 3, cbOut xs ac s t (fdQ s.d f (fdB xs dn z x.1 x.2)))) ?_
  rintro ⟨n, i⟩ ⟨hn, hi⟩
  dsimp only at hn hi ⊢
  have key := cb_round mkI rd (z : Int) dn (i : Int) xs ac s t f
  have z1 : Int.ofNat xs.length = (xs.length : Int) := rfl
  rcases Nat.lt_or_ge z i with hlt | hge
  · rw [decide_eq_false (show ¬ (i : Int) ≤ (z : Int) by omega), cond_false] at key
    refine ⟨_, _, _, key, codesNil, .inr ⟨by simp, ?_⟩⟩
    have e : fdB xs dn z n i = none := by
      cases n with
      | zero => rfl
      | succ n => unfold fdB; rw [decide_eq_false (by omega)]; rfl
    rw [e]; rfl
  · obtain ⟨n, rfl⟩ : ∃ m, n = m + 1 := ⟨n - 1, by omega⟩
    rw [z1, decide_eq_true (show (i : Int) ≤ (z : Int) by omega), cond_true, decide_eq_true (show 0 ≤ (i : Int) ∧ (i : Int) < (xs.length : Int) by omega), cond_true, show ((i : Int)).toNat = i from rfl, atN_get (by omega), wr64 (n := (i : Int) + 2) (by omega) (by omega)] at key
    have e : fdB xs dn z (n + 1) i = bif isBid (xs.getD i 0) && decide (dnZ (xs.getD i 0) = dn) then some i else fdB xs dn z n (i + 2) := by
      rw [fdB, decide_eq_true hge]; rfl
    rw [e]
    cases h1 : isBid (xs.getD i 0) with
    | false =>
      rw [h1, cond_false] at key
      exact ⟨_, _, _, key, codesNil, .inl ⟨rfl, (n, i + 2), rfl, ⟨by dsimp only; omega, by dsimp only; omega⟩, by dsimp only; omega, rfl⟩⟩
    | true =>
      rw [h1, cond_true] at key
      cases h2 : decide (dnZ (xs.getD i 0) = dn) with
      | true => rw [h2, cond_true] at key; exact ⟨_, _, _, key, codesNil, .inr ⟨by simp, rfl⟩⟩
      | false =>
        rw [h2, cond_false] at key
        exact ⟨_, _, _, key, codesNil, .inl ⟨rfl, (n, i + 2), rfl, ⟨by dsimp only; omega, by dsimp only; omega⟩, by dsimp only; omega, rfl⟩⟩
structure NX where
  MX : List Int → Int → Int
  FD : List Int → Int → Int → Int → Option Nat
  OK : List Int → Bool
def nX : NX := ⟨mxL, fun xs dn z i => fdB xs dn z.toNat (z.toNat + 1) i.toNat, fun xs => decide (xs.length ≤ 100000)⟩
def q4P : List PV → Option (Q4 × List PV)
  | .i a :: .i b :: .i c :: .i d :: r => some (⟨a, b, c, d⟩, r)
  | _ => none
theorem q4P_ok {l : List PV} {q : Q4} {r : List PV} (h : q4P l = some (q, r)) : l = q4p q r := by
  unfold q4P at h
  split at h
  · cases h; rfl
  · cases h
noncomputable def caTree (N : NX) : List PV → Fin
  | .i z :: .i dn :: .n l :: .n k :: .i n :: .i i :: .l xs :: .l ac :: ps => match crsP ps with
    | some (s, ps2) => match q4P ps2 with
      | some (t, ps3) => match q4P ps3 with
        | some (f, []) => .br (decide (i = 0 ∧ n = Int.ofNat k ∧ l + k = xs.length) && N.OK xs) (.leaf (.exit 1) (caX.at (caOut z dn xs ac s t { f with c := N.MX (xs.drop l) f.c }))) .no
        | _ => .no
      | _ => .no
    | _ => .no
  | _ => .no
noncomputable def cbTree (N : NX) : List PV → Fin
  | .i z :: .i dn :: .i i :: .l xs :: .l ac :: ps => match crsP ps with
    | some (s, ps2) => match q4P ps2 with
      | some (t, ps3) => match q4P ps3 with
        | some (f, []) => .br (decide (0 ≤ z ∧ z < Int.ofNat xs.length ∧ 0 ≤ i ∧ i ≤ z + 2) && N.OK xs) (.leaf (.exit 3) (cbX.at (cbOut xs ac s t (fdQ s.d f (N.FD xs dn z i))))) .no
        | _ => .no
      | _ => .no
    | _ => .no
  | _ => .no
noncomputable def ctL (N : NX) : Loops := sums (fun n => match n with | 12 => some (lsumF 2 caT caLp (caTree N)) | 17 => some (lsumF 2 cbT cbLp (cbTree N)) | _ => none)
theorem ctL_ok : loopsOk Tryz.prog (ctL nX) := by
  intro n g hg
  simp only [ctL, sums] at hg
  split at hg
  · cases hg
    refine lsumF_ok (by kernel_rfl) (fun rd ps e1 st1 hq => ?_)
    unfold caTree at hq
    split at hq
    · rename_i z dn l k n i xs ac ps
      split at hq
      · rename_i s ps2 hs
        split at hq
        · rename_i t ps3 ht
          split at hq
          · rename_i f hf
            rw [crsP_ok hs, q4P_ok ht, q4P_ok hf]
            simp only [Fin.pick] at hq
            cases hc : decide (i = 0 ∧ n = Int.ofNat k ∧ l + k = xs.length) && nX.OK xs with
            | false => rw [hc] at hq; cases hq
            | true =>
              rw [hc, cond_true] at hq
              simp only [Bool.and_eq_true, decide_eq_true_eq] at hc
              obtain ⟨⟨rfl, rfl, h1⟩, h2⟩ := hc
              cases hq
              exact ca_loop rd z dn l k xs ac s t f h1 (of_decide_eq_true h2) (0, f.c) (Nat.zero_le _)
          · cases hq
        · cases hq
      · cases hq
    · cases hq
  · cases hg
    refine lsumF_ok (by kernel_rfl) (fun rd ps e1 st1 hq => ?_)
    unfold cbTree at hq
    split at hq
    · rename_i z dn i xs ac ps
      split at hq
      · rename_i s ps2 hs
        split at hq
        · rename_i t ps3 ht
          split at hq
          · rename_i f hf
            rw [crsP_ok hs, q4P_ok ht, q4P_ok hf]
            simp only [Fin.pick] at hq
            cases hc : decide (0 ≤ z ∧ z < Int.ofNat xs.length ∧ 0 ≤ i ∧ i ≤ z + 2) && nX.OK xs with
            | false => rw [hc] at hq; cases hq
            | true =>
              rw [hc, cond_true] at hq
              simp only [Bool.and_eq_true, decide_eq_true_eq] at hc
              obtain ⟨⟨h1, h2, h3, h4⟩, h5⟩ := hc
              obtain ⟨zn, rfl⟩ : ∃ m : Nat, z = m := ⟨z.toNat, by omega⟩
              obtain ⟨j, rfl⟩ : ∃ m : Nat, i = m := ⟨i.toNat, by omega⟩
              have h2 : (zn : Int) < (xs.length : Int) := h2
              cases hq
              exact cb_loop rd zn dn xs ac s t f (by omega) (of_decide_eq_true h5) (zn + 1, j) ⟨by dsimp only; omega, by dsimp only; omega⟩
          · cases hq
        · cases hq
      · cases hq
    · cases hq
  · cases hg
end Go.Proofs.YtojlmpcbplepcaaGreat

/- Chapter 10: Contract: its oracle. -/
namespace Go.Proofs.YtojlmpcbplepcaaGreat
open Go Go.Eng
def hTabT (N : NC) (M : NM) : HTab := addH 54 (dOpen N) (hTabM M emptyH)
def domT : FuncId → Bool := fun f => Nat.beq f 54 || Nat.beq f 65
noncomputable abbrev orcT (N : NC) (M : NM) (T : PTab) (LL : FuncId → Loops) : Oracle := inl Tryz.prog ftab T LL 100 never domT (hOrcX nrC (hTabT N M)) 20
theorem orcT_ok {T : PTab} (hT : PTabOk Tryz.prog T) {LL : FuncId → Loops} (hL : ∀ f, loopsOk Tryz.prog (LL f)) : OracleOk Tryz.prog (orcT nC nM T LL) := inl_ok (hOrcX_ok (addH_ok dOpen_ok (hTabM_ok emptyH_ok))) ftab_ok hT hL mixed 20
def cnV (q : Q4) (e : Int) : V := .tuple [.agg [.int .u8 q.a, .int .u8 q.b, .int .u8 q.c, .int .u8 q.d], .int .i64 e]
def cnQ (X : NX) (d z : Int) (xs : List Int) (v : Int) : Q4 := fdQ d ⟨lvZ v, dnZ v, X.MX (List.drop (wr .i64 (z + 1)).toNat xs) 0, 0⟩ (X.FD xs (dnZ v) z (z.tmod 2))
theorem contract_eval (N : NC) (M : NM) (X : NX) (MK : Int → Int → Int) (xs ac : List Int) (s : CD) : evalFn Tryz.prog (orcT N M (tabC MK) plainL) (ctL X) 100 20 Tryz.f20 [.agg (s.vs (.gs 0) (.gs 1))] (crsH false false xs ac) (fun v _ => some v) =
    bif N.J.OK xs then bif decide (N.OP s xs ac = 100) then some (cnV q0 100) else bif decide (N.OP s xs ac = 0) then some (cnV q0 102) else bif M.KS xs then bif !M.LB xs then some (cnV q0 0) else
      bif decide (0 ≤ M.LI xs ∧ M.LI xs < Int.ofNat xs.length) then atN xs (M.LI xs).toNat fun v => bif decide (0 ≤ wr .i64 (M.LI xs + 1) ∧ wr .i64 (M.LI xs + 1) ≤ Int.ofNat xs.length ∧ Int.ofNat xs.length ≤ Int.ofNat xs.length) then
        cond (codesB [(caLp, caLp)]) (bif decide ((0 : Int) = 0 ∧ Int.ofNat ((Int.ofNat xs.length).toNat - (wr .i64 (M.LI xs + 1)).toNat) = Int.ofNat ((Int.ofNat xs.length).toNat - (wr .i64 (M.LI xs + 1)).toNat) ∧ (wr .i64 (M.LI xs + 1)).toNat + ((Int.ofNat xs.length).toNat - (wr .i64 (M.LI xs + 1)).toNat) = xs.length) && X.OK xs then
          cond (codesB [(cbLp, cbLp)]) (bif decide (0 ≤ M.LI xs ∧ M.LI xs < Int.ofNat xs.length ∧ 0 ≤ (M.LI xs).tmod 2 ∧ (M.LI xs).tmod 2 ≤ M.LI xs + 2) && X.OK xs then some (cnV (cnQ X s.d (M.LI xs) xs v) 0) else none) none else none) none else none else none else none else none := by kernel_rfl
def conQ (s : CD) (xs : List Int) : Q4 := bif hasB xs then fdQ s.d ⟨lvZ (lbI xs), dnZ (lbI xs), mxL (xs.drop ((lastI xs).toNat + 1)) 0, 0⟩ (fdB xs (dnZ (lbI xs)) (lastI xs).toNat ((lastI xs).toNat + 1) ((lastI xs).toNat % 2)) else q0
def conE (s : CD) (xs ac : List Int) : Int := bif decide (opI s xs ac = 100) then 100 else bif decide (opI s xs ac = 0) then 102 else 0
def conI (s : CD) (xs ac : List Int) : Q4 := bif decide (conE s xs ac = 0) then conQ s xs else q0
theorem caCd : codesB [(caLp, caLp)] = true := by rw [codesB_iff]; intro x hx; simp at hx; rw [hx]
theorem cbCd : codesB [(cbLp, cbLp)] = true := by rw [codesB_iff]; intro x hx; simp at hx; rw [hx]
theorem contract23_fn (n1 n2 : Bool) {s : CD} {xs ac : List Int} (h : okL xs = true) : FnOK Tryz.prog 20 [.agg (s.vs (.gs 0) (.gs 1))] (crsH n1 n2 xs ac) (cnV (conI s xs ac) (conE s xs ac)) (crsH n1 n2 xs ac) := by
  obtain ⟨hl, hu⟩ := okL_iff.1 h
  have key := contract_eval nC nM nX mkI xs ac s
  have hr := lastI_range xs
  have hv : evalFn Tryz.prog (orcT nC nM (tabC mkI) plainL) (ctL nX) 100 20 Tryz.f20 [.agg (s.vs (.gs 0) (.gs 1))] (crsH false false xs ac) (fun v _ => some v) = some (cnV (conI s xs ac) (conE s xs ac)) := by
    rw [key, show nC.J.OK xs = true from h, show nC.OP s xs ac = opI s xs ac from rfl, show nM.KS xs = true from decide_eq_true (show xs.length ≤ 9223372036854775806 by omega), show nM.LB xs = hasB xs from rfl, show nM.LI xs = lastI xs from rfl, show nX.OK xs = true from decide_eq_true hl, caCd, cbCd]
    unfold conI conE
    by_cases h1 : opI s xs ac = 100
    · rw [decide_eq_true h1]; rfl
    · rw [decide_eq_false h1]
      by_cases h2 : opI s xs ac = 0
      · rw [decide_eq_true h2]; rfl
      · rw [decide_eq_false h2]
        unfold conQ
        cases hb : hasB xs with
        | false => rfl
        | true =>
          have hz := hr.2.2.1 hb
          obtain ⟨z, ez⟩ : ∃ z : Nat, lastI xs = z := ⟨(lastI xs).toNat, by omega⟩
          have z1 : Int.ofNat xs.length = (xs.length : Int) := rfl
          have elb : xs.getD z 0 = lbI xs := by unfold lbI; rw [hb, ez]; rfl
          rw [ez] at hz
          have ew : wr .i64 ((z : Int) + 1) = ((z + 1 : Nat) : Int) := by rw [wr64 (by omega) (by omega)]; omega
          have em : (z : Int).tmod 2 = ((z % 2 : Nat) : Int) := by rw [Int.tmod_eq_emod_of_nonneg (by omega)]; omega
          rw [ez, z1, ew, em, decide_eq_true (show 0 ≤ (z : Int) ∧ (z : Int) < (xs.length : Int) by omega), show ((z : Int)).toNat = z from rfl, atN_get (by omega), elb, decide_eq_true (show 0 ≤ ((z + 1 : Nat) : Int) ∧ ((z + 1 : Nat) : Int) ≤ (xs.length : Int) ∧ (xs.length : Int) ≤ (xs.length : Int) by omega)]
          have hz2 : z + 1 + (xs.length - (z + 1)) = xs.length := by omega
          simp only [Bool.not_true, cond_false, cond_true, Int.toNat_natCast, hz2, and_self, decide_true, Bool.and_self]
          rw [decide_eq_true (show 0 ≤ (z : Int) ∧ (z : Int) < (xs.length : Int) ∧ 0 ≤ ((z % 2 : Nat) : Int) ∧ ((z % 2 : Nat) : Int) ≤ (z : Int) + 2 by omega)]
          simp only [Bool.and_self, cond_true]
          unfold cnQ
          rw [ew, em]
          rfl
  obtain ⟨v1, h1, hk1, hok⟩ := evalFn_ok (orcT_ok tabC_ok plainL_ok) mixed Tryz.func20 ctL_ok hv
  cases hk1
  exact plain_crs (hok.plain rfl crs_ro)
end Go.Proofs.YtojlmpcbplepcaaGreat

/- Chapter 10: Leader, Lead. -/
namespace Go.Proofs.YtojlmpcbplepcaaGreat
open Go Go.Eng
def ldN (a b c d : Int) : Bool := decide (7 < a) || (decide (4 < b) || (decide (2 < c) || decide (3 < d)))
def ldE (a b c d : Int) : Int := bif decide (a = 0) then 6 else bif ldN a b c d then 2 else 0
def ldV (a b c d : Int) : Int := bif decide (a = 0) || ldN a b c d then 0 else (d + 1).tmod 4
def ctA (a b c d : Int) : V := .agg [.int .u8 a, .int .u8 b, .int .u8 c, .int .u8 d]
noncomputable def ldF (v e : Int) : Option V := some (.tuple [.int .u8 v, .int .i64 e])
noncomputable def ldX (a b c d z : Int) : Option V := bif decide (a = 0) then ldF 0 6 else bif decide (7 < a) then ldF 0 2 else bif decide (4 < b) then ldF 0 2 else bif decide (2 < c) then ldF 0 2 else bif decide (3 < d) then ldF 0 2 else ldF z 0
theorem leader_eval (a b c d : Int) : evalP emptyTab 70 Tryz.f70 [ctA a b c d] = ldX a b c d ((wr .u8 (d + 1)).tmod 4) := by kernel_rfl
theorem leader_p (a b c : Int) {d : Int} (h0 : 0 ≤ d) : FnPure Tryz.prog 70 [ctA a b c d] (.tuple [.int .u8 (ldV a b c d), .int .i64 (ldE a b c d)]) := by
  refine pure_at emptyTab_ok Tryz.func70 (by kernel_rfl) ?_ rfl rfl
  rw [leader_eval]
  unfold ldX ldV ldE ldN ldF
  by_cases hd : 3 < d
  · rw [decide_eq_true hd]
    cases decide (a = 0) <;> cases decide (7 < a) <;> cases decide (4 < b) <;> cases decide (2 < c) <;> rfl
  · rw [decide_eq_false hd, wr_u8_id (by omega)]
    cases decide (a = 0) <;> cases decide (7 < a) <;> cases decide (4 < b) <;> cases decide (2 < c) <;> rfl
structure NE where
  OK : List Int → Bool
  CQ : CD → List Int → List Int → Q4
  CE : CD → List Int → List Int → Int
  LV : Q4 → Int
  LE : Q4 → Int
def nE : NE := ⟨okL, conI, conE, fun q => ldV q.a q.b q.c q.d, fun q => ldE q.a q.b q.c q.d⟩
def dCon (N : NE) : CH
  | [.agg l], [.rs _ 1 (.ints .u8 xs), .rs _ 1 (.ints .i64 ac)] => match ofCrs l with
    | some (s, .gs 0, .gs 1) => some (N.OK xs, cnV (N.CQ s xs ac) (N.CE s xs ac), [])
    | _ => none
  | _, _ => none
theorem dCon_ok : cOk 20 (dCon nE) := by
  intro args hp c v nb hq hc
  unfold dCon at hq
  split at hq
  · split at hq
    · rename_i s hs
      cases hq
      rw [ofCrs_ok hs, List.append_nil]
      exact ⟨.of Tryz.func20 (by kernel_rfl), contract23_fn _ _ hc⟩
    · cases hq
  · cases hq
def gLead (N : NE) : List V → Option (Bool × V)
  | [.agg [.int .u8 a, .int .u8 b, .int .u8 c, .int .u8 d]] => some (decide (0 ≤ d), .tuple [.int .u8 (N.LV ⟨a, b, c, d⟩), .int .i64 (N.LE ⟨a, b, c, d⟩)])
  | _ => none
theorem tabLd_ok : PTabOk Tryz.prog (addTab 70 (gLead nE) emptyTab) := by
  refine addTab_ok ?_ emptyTab_ok
  intro args c v h hc
  unfold gLead at h
  split at h
  · cases h; exact leader_p _ _ _ (of_decide_eq_true hc)
  · cases h
def dom23 : FuncId → Bool := fun f => Nat.beq f 20
noncomputable abbrev orcLd (N : NE) : Oracle := inl Tryz.prog ftab (addTab 70 (gLead N) emptyTab) plainL 100 never dom23 (hOrcX nrC (addH 20 (dCon N) emptyH)) 20
theorem orcLd_ok : OracleOk Tryz.prog (orcLd nE) := inl_ok (hOrcX_ok (addH_ok dCon_ok emptyH_ok)) ftab_ok tabLd_ok plainL_ok mixed 20
noncomputable def ldC (i : Int) (f : Q4) : Option V := bif decide (i = 0) then ldF f.a 0 else bif decide (i = 1) then ldF f.b 0 else bif decide (i = 2) then ldF f.c 0 else bif decide (i = 3) then ldF f.d 0 else none
theorem lead_eval (N : NE) (xs ac : List Int) (s : CD) : evalFn Tryz.prog (orcLd N) noLoops 100 22 Tryz.f22 [.agg (s.vs (.gs 0) (.gs 1))] (crsH false false xs ac) (fun v _ => some v) =
    bif N.OK xs then bif !decide (N.CE s xs ac = 0) then ldF 0 (N.CE s xs ac) else bif decide (0 ≤ (N.CQ s xs ac).d) then bif !decide (N.LE (N.CQ s xs ac) = 0) then ldF 0 (N.LE (N.CQ s xs ac)) else ldC (N.LV (N.CQ s xs ac)) s.f else none else none := by kernel_rfl
def leadE (s : CD) (xs ac : List Int) : Int := bif !decide (conE s xs ac = 0) then conE s xs ac else nE.LE (conI s xs ac)
def leadV (s : CD) (xs ac : List Int) : Int := bif decide (leadE s xs ac = 0) then s.f.at (nE.LV (conI s xs ac)).toNat else 0
theorem conI_d (s : CD) (xs ac : List Int) : 0 ≤ (conI s xs ac).d := by
  unfold conI
  cases decide (conE s xs ac = 0) with
  | false => exact Int.le_refl _
  | true =>
    simp only [cond_true]
    unfold conQ
    cases hasB xs with
    | false => exact Int.le_refl _
    | true =>
      simp only [cond_true]
      unfold fdQ
      split
      · exact Int.le_refl _
      · exact (mk_range _ _).1
theorem lead26_fn (n1 n2 : Bool) {s : CD} {xs ac : List Int} (h : okL xs = true) : FnOK Tryz.prog 22 [.agg (s.vs (.gs 0) (.gs 1))] (crsH n1 n2 xs ac) (.tuple [.int .u8 (leadV s xs ac), .int .i64 (leadE s xs ac)]) (crsH n1 n2 xs ac) := by
  have key := lead_eval nE xs ac s
  have hd := conI_d s xs ac
  have hv : evalFn Tryz.prog (orcLd nE) noLoops 100 22 Tryz.f22 [.agg (s.vs (.gs 0) (.gs 1))] (crsH false false xs ac) (fun v _ => some v) = some (.tuple [.int .u8 (leadV s xs ac), .int .i64 (leadE s xs ac)]) := by
    rw [key, show nE.OK xs = true from h, show nE.CE s xs ac = conE s xs ac from rfl, show nE.CQ s xs ac = conI s xs ac from rfl, decide_eq_true hd]
    unfold leadV leadE ldF
    by_cases h1 : conE s xs ac = 0
    · rw [decide_eq_true h1]
      by_cases h2 : nE.LE (conI s xs ac) = 0
      · rw [decide_eq_true h2]
        simp only [Bool.not_true, cond_false, cond_true]
        rw [decide_eq_true h2, h2]
        have hr : 0 ≤ nE.LV (conI s xs ac) ∧ nE.LV (conI s xs ac) ≤ 3 := by
          show 0 ≤ ldV _ _ _ _ ∧ ldV _ _ _ _ ≤ 3
          unfold ldV
          cases (decide ((conI s xs ac).a = 0) || ldN (conI s xs ac).a (conI s xs ac).b (conI s xs ac).c (conI s xs ac).d) with
          | true => exact ⟨Int.le_refl _, by show (0 : Int) ≤ 3; omega⟩
          | false => rw [cond_false, Int.tmod_eq_emod_of_nonneg (by omega)]; omega
        generalize nE.LV (conI s xs ac) = i at *
        unfold ldC ldF
        have : i = 0 ∨ i = 1 ∨ i = 2 ∨ i = 3 := by omega
        rcases this with rfl | rfl | rfl | rfl <;> rfl
      · rw [decide_eq_false h2]
        simp only [Bool.not_true, Bool.not_false, cond_false, cond_true]
        rw [decide_eq_false h2]; rfl
    · rw [decide_eq_false h1]
      simp only [Bool.not_false, cond_true]
      rw [decide_eq_false h1]; rfl
  obtain ⟨v1, h1, hk1, hok⟩ := evalFn_ok orcLd_ok mixed Tryz.func22 noLoops_ok hv
  cases hk1
  exact plain_crs (hok.plain rfl crs_ro)
end Go.Proofs.YtojlmpcbplepcaaGreat
