/- Texts merged: E5, E7. -/
import Derived.Test.YtpalajfcffdhoaaGreatE3
import Derived.Test.YtpalajfcffdhoaaGreatEng4
/- Chapter 6, the reference: Right, one, Left, Owner: their contracts. -/
namespace Go.Proofs.YtpalajfcffdhoaaGreat
open Go Go.Eng Go.Deal
def onI (c : Int) : Int := ((2 ^ c.toNat : Nat) : Int)
def onK (c : Int) : Bool := decide (0 ≤ c ∧ c < 52)
theorem one_p {c : Int} (h : onK c = true) : FnPure Tryz.prog 52 [.int .i64 c] (.int .u64 (onI c)) := by
  unfold onK at h
  rw [decide_eq_true_eq] at h
  obtain ⟨k, rfl⟩ : ∃ x : Nat, c = x := ⟨c.toNat, by omega⟩
  have hq := List.map_inj_left.1 one_tab k (List.mem_range.2 (by omega))
  refine fnPure_of_eval (N := 100) (orcN_ok emptyTab_ok plainL_ok) mixed Tryz.func52 (by kernel_rfl) noLoops_ok ?_ rfl rfl
  unfold onI
  rw [Int.toNat_natCast]
  exact hq
def hkI (a b c d k : Int) : Bool := in4 a b c d && decide (0 ≤ k ∧ k ≤ 1000)
noncomputable def e7 : E7 := ⟨in64, in4, parB, maI, hkI, hoI, kHas, N4.hasB, onK, onI⟩
theorem e7u (x : Int) : e7.u x = in64 x := rfl
theorem e7u4 (a b c d : Int) : e7.u4 a b c d = in4 a b c d := rfl
theorem e7p (a b c d : Int) : e7.pb a b c d = parB a b c d := rfl
theorem e7m (x : Int) : e7.ma x = maI x := rfl
theorem e7k (a b c d k : Int) : e7.hk a b c d k = hkI a b c d k := rfl
theorem e7o (a b c d k : Int) : e7.ho a b c d k = hoI a b c d k := rfl
theorem e7kh (a k : Int) : e7.kh a k = kHas a k := rfl
theorem e7hs (a k : Int) : e7.hs a k = N4.hasB a k := rfl
theorem e7ok (k : Int) : e7.ok k = onK k := rfl
theorem e7on (k : Int) : e7.on k = onI k := rfl
theorem tabF_ok : PTabOk Tryz.prog (tabF e7) := by
  refine addTab_ok ?_ (addTab_ok ?_ (addTab_ok ?_ (addTab_ok ?_ (addTab_ok ?_ emptyTab_ok))))
  · intro args c v h hc
    unfold gHas at h; split at h
    · cases h
      rw [e7kh] at hc
      rw [e7hs]
      unfold kHas at hc
      rw [decide_eq_true_eq] at hc
      exact N4.has_p ⟨hc.1, hc.2.1⟩ hc.2.2.1 hc.2.2.2
    · cases h
  · intro args c v h hc
    unfold fPa at h; split at h
    · cases h; rw [e7u4] at hc; rw [e7p]; exact rpar_p hc
    · cases h
  · intro args c v h hc
    unfold fMa at h; split at h
    · cases h; rw [e7u] at hc; rw [e7m]; exact many_p hc
    · cases h
  · intro args c v h hc
    unfold fHo at h; split at h
    · cases h
      rw [e7k, hkI, Bool.and_eq_true, decide_eq_true_eq] at hc
      rw [e7o]
      exact hold_p hc.1 hc.2
    · cases h
  · intro args c v h hc
    unfold fOn at h; split at h
    · cases h; rw [e7ok] at hc; rw [e7on]; exact one_p hc
    · cases h
theorem orcF_ok : OracleOk Tryz.prog (orcF e7) := orcN_ok tabF_ok plainL_ok
theorem rright_p {a b c d : Int} (h : in4 a b c d = true) : FnPure Tryz.prog 59 [q4 a b c d] (.bool (rgB a b c d)) := by
  have h4 := h
  obtain ⟨a, b, c, d, rfl, rfl, rfl, rfl, ha, hb, hc, hd⟩ := in4_nat h
  refine fnPure_of_eval (N := 100) orcF_ok mixed Tryz.func59 (by kernel_rfl) noLoops_ok ?_ rfl rfl
  refine (rright_eval e7 _ _ _ _).trans ?_
  have key := rgB_iff (a := a) (b := b) (c := c) (d := d)
  have u : ∀ {x : Nat}, x < 18446744073709551616 → in64 (x : Int) = true := fun hx => in64_iff.2 ⟨by omega, by omega⟩
  rw [e7u4, h4, cond_true, e7p, e7u, e7u, e7u, e7u, u ha, u hb, u hc, u hd, cond_true, cond_true, cond_true, cond_true, e7m, e7m, e7m, e7m, maI_n, maI_n, maI_n, maI_n]
  cases hp : parB (a : Int) b c d with
  | false =>
    rw [cond_false, Bool.eq_false_iff.2 (fun h => Bool.eq_false_iff.1 hp (parB_iff.2 (key.1 h).1))]; rfl
  | true =>
    rw [cond_true]
    have P := parB_iff.1 hp
    have k13 : ∀ {x : Nat}, (decide (((x : Nat) : Int) = 13)) = decide (x = 13) := by
      intro x; rw [Bool.eq_iff_iff, decide_eq_true_eq, decide_eq_true_eq]; omega
    rw [k13, k13, k13, k13]
    by_cases r1 : cnt a 52 = 13
    · by_cases r2 : cnt b 52 = 13
      · by_cases r3 : cnt c 52 = 13
        · rw [decide_eq_true r1, decide_eq_true r2, decide_eq_true r3, cond_true, cond_true, cond_true]
          refine congrArg (fun b => some (V.bool b)) ?_
          rw [Bool.eq_iff_iff, decide_eq_true_eq, key]
          exact ⟨fun r4 => ⟨P, r1, r2, r3, r4⟩, fun r => r.ed⟩
        · rw [decide_eq_true r1, decide_eq_true r2, decide_eq_false r3, Bool.eq_false_iff.2 (fun h => r3 (key.1 h).ec)]; rfl
      · rw [decide_eq_true r1, decide_eq_false r2, Bool.eq_false_iff.2 (fun h => r2 (key.1 h).eb)]; rfl
    · rw [decide_eq_false r1, Bool.eq_false_iff.2 (fun h => r1 (key.1 h).ea)]; rfl
/-! ### Left -/
theorem lf_ho {a b c d : Nat} {i : Nat} (hi : i < 52) : (lf a b c d).testBit i = decide (hoN a b c d i = 0) := by
  unfold lf hoN
  rw [nd_bit, al_bit, un_bit, decide_eq_true hi]
  cases a.testBit i <;> cases b.testBit i <;> cases c.testBit i <;> cases d.testBit i <;> decide
def lfM (a b c d i : Nat) : Nat := lf a b c d % 2 ^ i
theorem lfM_s {a b c d i : Nat} (hi : i < 52) : lfM a b c d (i + 1) = if hoN a b c d i = 0 then lfM a b c d i + 2 ^ i else lfM a b c d i := by
  have h := lf_ho (a := a) (b := b) (c := c) (d := d) hi
  unfold lfM
  rw [Nat.pow_succ, Nat.mod_mul]
  rw [Nat.testBit_eq_decide_div_mod_eq, Bool.eq_iff_iff, decide_eq_true_eq, decide_eq_true_eq] at h
  by_cases q : hoN a b c d i = 0
  · rw [if_pos q, h.2 q, Nat.mul_one]
  · rw [if_neg q, show lf a b c d / 2 ^ i % 2 = 0 by (have := fun e => q (h.1 e); omega), Nat.mul_zero, Nat.add_zero]
theorem lfM_lt (a b c d : Nat) {i : Nat} (hi : i < 52) : lfM a b c d i + 2 ^ i < 18446744073709551616 := by
  have h1 : lfM a b c d i < 2 ^ i := Nat.mod_lt _ (Nat.two_pow_pos i)
  have hp : 2 ^ i ≤ 2 ^ 52 := Nat.pow_le_pow_right (by decide) (by omega)
  have hp2 : (2 : Nat) ^ 52 = 4503599627370496 := by decide
  omega
theorem lfM_0 (a b c d : Nat) : lfM a b c d 0 = 0 := Nat.mod_one _
theorem lfM_e (a b c d : Nat) : lfM a b c d 52 = lf a b c d := Nat.mod_eq_of_lt (sub_lt (nd_sub _ _) (by decide))
theorem lf_loop (rd : Option Nat) {a b c d : Nat} (h4 : in4 (a : Int) b c d = true) (M : Nat → Nat) (hM : ∀ i, i < 52 → M (i + 1) = if hoN a b c d i = 0 then M i + 2 ^ i else M i) (hL : ∀ i, i < 52 → M i + 2 ^ i < 18446744073709551616) (e : Nat) (he : e = 52) : ∀ i : Nat, i ≤ e →
    SimC Tryz.prog 0 rd (.loop lfLp) (lfT.at [.i ((M i : Nat) : Int), .i (i : Int), .i (a : Int), .i (b : Int), .i (c : Int), .i (d : Int)]) (.exit 0) (lfX.at [.i ((M e : Nat) : Int), .i (a : Int), .i (b : Int), .i (c : Int), .i (d : Int)]) := by
  refine loop_of_rounds (C := orcF e7) (L := noLoops) (N := 100) (me := 38) (T := lfT) (T' := lfX) orcF_ok mixed noLoops_ok (by kernel_rfl) (by kernel_rfl) (X := Nat)
    (fun i => [.i ((M i : Nat) : Int), .i (i : Int), .i (a : Int), .i (b : Int), .i (c : Int), .i (d : Int)]) (fun i => i ≤ e) (fun i => e - i) (fun _ => (.exit 0, [.i ((M e : Nat) : Int), .i (a : Int), .i (b : Int), .i (c : Int), .i (d : Int)])) ?_
  intro i hi
  have hge : ¬ i < 52 → i = e := fun q => Nat.le_antisymm hi (by rw [he]; exact Nat.le_of_not_lt q)
  have h := lf_round e7 rd ((M i : Nat) : Int) (i : Int) (a : Int) (b : Int) (c : Int) (d : Int)
  by_cases hlt : i < 52
  · have hk : e7.hk (a : Int) b c d (i : Int) = true := by
      rw [e7k, hkI, h4, decide_eq_true (show 0 ≤ (i : Int) ∧ (i : Int) ≤ 1000 by omega)]; rfl
    rw [decide_eq_true (show (i : Int) < 52 by omega), cond_true, hk, cond_true, e7o, ho_n, e7ok, show onK (i : Int) = true by (unfold onK; rw [decide_eq_true_eq]; omega), cond_true, e7on, wr64 (x := (i : Int) + 1) (by omega) (by omega)] at h
    have hm := hM i hlt
    have hl := hL i hlt
    by_cases hz : hoN a b c d i = 0
    · rw [decide_eq_true (show ((hoN a b c d i : Nat) : Int) = 0 by omega), cond_true] at h
      rw [if_pos hz] at hm
      unfold onI at h
      have hl2 : M (i + 1) < 18446744073709551616 := by rw [hm]; exact hl
      rw [Int.toNat_natCast, ← Int.natCast_add, ← hm, Deal.wrU hl2] at h
      exact ⟨_, _, _, h, codesNil, .inl ⟨rfl, i + 1, rfl, by omega, by omega, rfl⟩⟩
    · rw [decide_eq_false (show ¬ ((hoN a b c d i : Nat) : Int) = 0 by omega), cond_false] at h
      rw [if_neg hz] at hm
      exact ⟨_, _, _, h, codesNil, .inl ⟨rfl, i + 1, by rw [hm]; rfl, by omega, by omega, rfl⟩⟩
  · have hie : i = e := hge hlt
    have h52 : ¬ ((e : Nat) : Int) < 52 := by rw [← hie]; omega
    rw [hie]
    rw [hie, decide_eq_false h52, cond_false] at h
    exact ⟨_, _, _, h, codesNil, .inr ⟨(fun h => by cases h), rfl⟩⟩
def lfC (m i a b c d : Int) : Bool := decide (m = 0 ∧ i = 0) && in4 a b c d
noncomputable def lfTr : List PV → Fin
  | [.i m, .i i, .i a, .i b, .i c, .i d] => .br (lfC m i a b c d) (.leaf (.exit 0) (lfX.at [.i ((lf a.toNat b.toNat c.toNat d.toNat : Nat) : Int), .i a, .i b, .i c, .i d])) .no
  | _ => .no
noncomputable def lfL : Loops := sums (fun n => match n with | 5 => some (lsumF 0 lfT lfLp lfTr) | _ => none)
theorem lfL_ok : loopsOk Tryz.prog lfL := by
  intro n g hg
  simp only [lfL, sums] at hg
  split at hg
  · cases hg
    refine lsumF_ok (by kernel_rfl) (fun rd ps e1 s1 h => ?_)
    unfold lfTr at h
    split at h
    · rename_i m i a b c d
      simp only [Fin.pick] at h
      cases hc : lfC m i a b c d with
      | false => rw [hc] at h; cases h
      | true =>
        rw [hc, cond_true] at h
        unfold lfC at hc
        rw [Bool.and_eq_true, decide_eq_true_eq] at hc
        obtain ⟨⟨rfl, rfl⟩, h4⟩ := hc
        have h5 := h4
        obtain ⟨a, b, c, d, rfl, rfl, rfl, rfl, ha, hb, hc, hd⟩ := in4_nat h4
        have hl := lf_loop rd h5 (lfM a b c d) (fun _ h => lfM_s h) (fun _ h => lfM_lt a b c d h) 52 rfl 0 (by omega)
        rw [lfM_0, lfM_e] at hl
        rw [Int.toNat_natCast, Int.toNat_natCast, Int.toNat_natCast, Int.toNat_natCast] at h
        cases h
        exact hl
    · cases h
  · cases hg
theorem rleft_eval (E : E7) (a b c d : Int) : evalFn Tryz.prog (orcF E) lfL 100 38 Tryz.f38 [q4 a b c d] [] (fun v _ => some v) =
    bif E.u4 a b c d then bif !E.pb a b c d then some (.tuple [.int .u64 0, .int .i64 60]) else cond (codesB [(lfLp, lfLp)]) (bif lfC 0 0 a b c d then some (.tuple [.int .u64 ((lf a.toNat b.toNat c.toNat d.toNat : Nat) : Int), .int .i64 0]) else none) none else none := by kernel_rfl
theorem rleft_p {a b c d : Int} (h : in4 a b c d = true) : FnPure Tryz.prog 38 [q4 a b c d] (.tuple [.int .u64 (lfI a b c d), .int .i64 (leI a b c d)]) := by
  refine fnPure_of_eval (N := 100) orcF_ok mixed Tryz.func38 (by kernel_rfl) lfL_ok ?_ rfl rfl
  refine (rleft_eval e7 _ _ _ _).trans ?_
  rw [e7u4, h, cond_true, e7p, codesD, cond_true, show lfC 0 0 a b c d = true by (unfold lfC; rw [h]; rfl), cond_true]
  unfold lfI leI
  cases parB a b c d <;> rfl
end Go.Proofs.YtpalajfcffdhoaaGreat

/- Chapter 6, the reference: choose: one round of each loop. -/
namespace Go.Proofs.YtpalajfcffdhoaaGreat
open Go Go.Eng Go.Deal
noncomputable abbrev orc0C : Oracle := orcN n6 emptyTab plainL
noncomputable def ciLp : Code := loopOf 7 Tryz.f51
def iR : TR := .ints .i64
def ciT (r : TR) : Tm := ⟨mkS [(0, .int .i64), (1, .int .i64), (5, .gs 0), (6, .int .i64), (7, .gs 1), (8, .int .i64)] 0 45, [.grow true 3 1 iR, .grow true 3 1 r], []⟩
def ciX (_ : XE) : Tm := ⟨mkS [(0, .int .i64), (1, .int .i64), (6, .int .i64), (7, .gs 1)] 0 45, [.dead, .grow true 3 1 iR], []⟩
def ccT : TR := .vs [.int .i64]
def ciS (j : Int) (xs : List Int) (K : Int → RT) : RT :=
  bif decide (0 ≤ wr .i64 (j - 1) ∧ wr .i64 (j - 1) < Int.ofNat xs.length) then (match xs[(wr .i64 (j - 1)).toNat]? with
    | some v => bif decide (0 ≤ j ∧ j < Int.ofNat xs.length) then (match xs[j.toNat]? with | some w => K (wr .i64 (v + w)) | none => none) else none
    | none => none) else none
theorem ci_round (rd : Option Nat) (n k i j : Int) (xs ys : List Int) : roundX Tryz.prog orc0C noLoops 100 0 rd 51 ciLp (ciT iR) (ciT iR) ciX [.i n, .i k, .i i, .i j, .l xs, .l ys] =
    bif decide (j < Int.ofNat xs.length) then ciS j xs fun v => bif decide ((ys ++ [v]).length * 9 ≤ 70368744177664) then some (.normal, [.i n, .i k, .i i, .i (wr .i64 (j + 1)), .l xs, .l (ys ++ [v])], []) else none
    else some (.exit 2, [.i n, .i k, .i i, .l ys], []) := by kernel_rfl
theorem ci_first (rd : Option Nat) (n k i j y : Int) (xs : List Int) : roundX Tryz.prog orc0C noLoops 100 0 rd 51 ciLp (ciT ccT) (ciT iR) ciX [.i n, .i k, .i i, .i j, .l xs, .i y] =
    bif decide (j < Int.ofNat xs.length) then ciS j xs fun v => some (.normal, [.i n, .i k, .i i, .i (wr .i64 (j + 1)), .l xs, .l [y, v]], [])
    else some (.exit 2, [.i n, .i k, .i i, .l [y]], []) := by kernel_rfl
noncomputable def coLp : Code := loopOf 3 Tryz.f51
def coT (r : TR) : Tm := ⟨mkS [(0, .int .i64), (1, .int .i64), (5, .gs 0), (6, .int .i64)] 0 45, [.grow true 3 1 r], []⟩
def coX (_ : XE) : Tm := ⟨mkS [(0, .int .i64), (1, .int .i64), (5, .gs 0)] 0 45, [.grow true 3 1 iR], []⟩
theorem co_first (rd : Option Nat) (n k y : Int) : roundX Tryz.prog orc0C noLoops 100 0 rd 51 coLp (coT ccT) (coT iR) coX [.i n, .i k, .i 0, .i y] =
    bif decide (0 < n) then some (.normal, [.i n, .i k, .i 1, .l [1, 1]], []) else some (.exit 0, [.i n, .i k, .l [y]], []) := by kernel_rfl
section
variable (C : Int → Int → List Int → Int → Bool) (R : Int → List Int)
noncomputable def ciTr : List PV → Fin
  | [.i n, .i k, .i i, .i j, .l xs, .i y] => .br (C i j xs y) (.leaf (.exit 2) ((ciX (.exit 2)).at [.i n, .i k, .i i, .l (R i)])) .no
  | _ => .no
noncomputable def ciL : Loops := sums (fun n => match n with | 7 => some (lsumF 0 (ciT ccT) ciLp (ciTr C R)) | _ => none)
end
end Go.Proofs.YtpalajfcffdhoaaGreat
