/- Chapter 2: the law NatMore is true. -/
import Derived.Test.YthpdeiolhahobaaDoorLMore2
namespace Go.Proofs.YthpdeiolhahobaaDoor
open Go Go.Eng
def NM.e4 (N : NM) (x : Int) : Bool := decide (N.w0 x = N.w0 x) && (decide (N.w1 x = N.w1 x) && (decide (N.w2 x = N.w2 x) && (decide (N.w3 x = N.w3 x) && true)))
theorem NM.e4_true (N : NM) (x : Int) : N.e4 x = true := by simp [NM.e4]
def moEnd (N : NM) (n k : Int) (xs : List Int) : Option V := bif N.e4 (N.mul xs) then bif N.e4 (N.of n) then bif N.e4 (N.ch n k) then bif decide (N.mulE xs = N.mulE xs) then bif decide (N.ofE n = N.ofE n) then some (.bool (decide (N.che n = N.che n))) else fls3 else fls3 else fls3 else fls3 else fls3
theorem moEnd_true (N : NM) (n k : Int) (xs : List Int) : moEnd N n k xs = some (.bool true) := by
  unfold moEnd
  rw [NM.e4_true, NM.e4_true, NM.e4_true]
  simp
theorem more_eval (nn : Bool) (N : NM) (n k : Int) (xs : List Int) : evalFn Tryd.prog (orcNM N) (moL nn) 200 14 Tryd.f14 [.int .i64 n, .int .i64 k, .gs 0] [.rs nn 4 (.ints .u32 xs)] (fun v _ => some v) =
    bif decide (12 < ((xs.length / 4 : Nat) : Int)) then some (.bool true) else bif decide (xs.length / 4 * 17 ≤ 70368744177664) then cond (codesB [(moLp1, moLp1)]) (bif moC xs ((xs.length / 4 : Nat) : Int) 0 && true then bif N.mulC xs then bif N.mulC xs then bif N.ofC n then bif N.ofC n then
      cond (codesB [(moLp2, moLp2)]) (bif moC xs ((xs.length / 4 : Nat) : Int) 0 && pB (xs = xs) then moEnd N n k xs else none) none else none else none else none else none else none) none else none := by cases nn <;> kernel_rfl
def moEndB (N : NM) (n k : Int) (xs : List Int) : Option V := bif N.e4 (N.mul xs) then bif N.e4 (N.of n) then bif N.e4 (N.ch n k) then bif decide (N.mulE xs = N.mulE xs) then bif decide (N.ofE n = N.ofE n) then bif decide (N.che n = N.che n) then some (.bool true) else fls3 else fls3 else fls3 else fls3 else fls3 else fls3
theorem moEndB_true (N : NM) (n k : Int) (xs : List Int) : moEndB N n k xs = some (.bool true) := by
  unfold moEndB
  rw [NM.e4_true, NM.e4_true, NM.e4_true]
  simp
theorem more_nil (N : NM) (n k : Int) : evalFn Tryd.prog (orcNM N) noLoops 200 14 Tryd.f14 [.int .i64 n, .int .i64 k, .flat (.slice none 0 0)] [] (fun v _ => some v) = bif N.ofC n then bif N.ofC n then moEnd N n k [] else none else none := by kernel_rfl
theorem natMore_nil (N : NM) (n k : Int) : evalFn Tryd.prog (orcNM N) noLoops 200 4 Tryd.f4 [.int .i64 n, .int .i64 k, .flat (.slice none 0 0)] [] (fun v _ => some v) = bif N.ofC n then bif N.ofC n then moEndB N n k [] else none else none := by kernel_rfl
theorem natMore_zero (N : NM) (n k : Int) (a : Addr) : evalFn Tryd.prog (orcNM N) noLoops 200 4 Tryd.f4 [.int .i64 n, .int .i64 k, .flat (.slice (some a) 0 0)] [] (fun v _ => some v) = bif N.ofC n then bif N.ofC n then moEndB N n k [] else none else none := by kernel_rfl
/-! ### the contracts put in -/
def ofCM (n : Int) : Bool := decide (-9223372036854775808 ≤ n ∧ n < 9223372036854775808)
def mulC0 (xs : List Int) : Bool := decide (xs.length ≤ 48) && okL xs
def M0 : NM := ⟨w0, w1, w2, w3, ofZ, ofE, ofCM, chZ, chE, fun xs => ptZ (prodL xs), fun xs => ptE (prodL xs), mulC0⟩
theorem tabNM_ok : PTabOk Tryd.prog (tabNM M0) := by
  have ofk : ∀ {f : FuncId}, (∀ {n : Int}, -9223372036854775808 ≤ n ∧ n < 9223372036854775808 → FnPure Tryd.prog f [.int .i64 n] (.tuple [nW (ofZ n), .int .i64 (ofE n)])) → ∀ args c v, gOfM M0 args = some (c, v) → c = true → FnPure Tryd.prog f args v := by
    intro f H args c v h hc
    unfold gOfM at h
    split at h
    · cases h
      exact H (of_decide_eq_true hc)
    · cases h
  have chk : ∀ {f : FuncId}, (∀ n k : Int, FnPure Tryd.prog f [.int .i64 n, .int .i64 k] (.tuple [nW (chZ n k), .int .i64 (chE n)])) → ∀ args c v, gChM M0 args = some (c, v) → c = true → FnPure Tryd.prog f args v := by
    intro f H args c v h hc
    unfold gChM at h
    split at h
    · cases h
      exact H _ _
    · cases h
  refine addTab_ok (ofk of_p) (addTab_ok (ofk rof_p) (addTab_ok (chk choose_p) (addTab_ok (chk rchoose_p) (addTab_ok ?_ emptyTab_ok))))
  intro args c v h _
  unfold gAwake at h
  split at h
  · cases h; exact awake_p
  · cases h
theorem vs4_ro {nn : Bool} {sz : Nat} {r : Row} : ∀ (b : Nat) blk, ([.rs nn sz r] : List Blk)[b]? = some blk → blk.mine = false := by
  intro b blk hb
  match b, hb with
  | 0, hb => cases hb; rfl
  | _ + 1, hb => simp at hb
theorem prod_nil : (.tuple [M0.nW (M0.mul []), .int .i64 (M0.mulE [])] : V) = .tuple [nW 1, .int .i64 0] := rfl
theorem nmul_v : FnOK Tryd.prog 21 [.gs 0] [.rs true 4 (.vs [])] (.tuple [M0.nW (M0.mul []), .int .i64 (M0.mulE [])]) [.rs true 4 (.vs [])] := by
  have key : evalFn Tryd.prog (orcP tabD plainL) noLoops 200 21 Tryd.f21 [.gs 0] [.rs true 4 (.vs [])] (fun v _ => some v) = some (.tuple [nW 1, .int .i64 0]) := by kernel_rfl
  obtain ⟨v1, h1, hk, hok⟩ := evalFn_ok (orcP_ok tabD_ok plainL_ok) mixed Tryd.func21 noLoops_ok key
  cases hk
  rw [prod_nil]
  exact hok.plain rfl vs4_ro
theorem nmul_0 : FnOK Tryd.prog 21 [.gs 0] [.rs false 1 (.ints .u32 [])] (.tuple [M0.nW (M0.mul []), .int .i64 (M0.mulE [])]) [.rs false 1 (.ints .u32 [])] := by
  have key : evalFn Tryd.prog (orcP tabD plainL) noLoops 200 21 Tryd.f21 [.gs 0] [.rs false 1 (.ints .u32 [])] (fun v _ => some v) = some (.tuple [nW 1, .int .i64 0]) := by kernel_rfl
  obtain ⟨v1, h1, hk, hok⟩ := evalFn_ok (orcP_ok tabD_ok plainL_ok) mixed Tryd.func21 noLoops_ok key
  cases hk
  rw [prod_nil]
  exact hok.plain rfl vs4_ro
theorem rone {r : Option V} (h : r = bif okP [1] then some (.tuple [nW (ptZ (val [1])), .int .i64 (ptE (val [1]))]) else none) : r = some (.tuple [nW 1, .int .i64 0]) := by
  rw [h]; rfl
theorem rmul_v : FnOK Tryd.prog 30 [.gs 0] [.rs true 4 (.vs [])] (.tuple [M0.nW (M0.mul []), .int .i64 (M0.mulE [])]) [.rs true 4 (.vs [])] := by
  have key : evalFn Tryd.prog (orcQ (hTabZ E0 ptZ ptE okP val)) noLoops 200 30 Tryd.f30 [.gs 0] [.rs true 4 (.vs [])] (fun v _ => some v) = bif okP [1] then some (.tuple [nW (ptZ (val [1])), .int .i64 (ptE (val [1]))]) else none := by kernel_rfl
  obtain ⟨v1, h1, hk, hok⟩ := evalFn_ok (orcQ_ok hTabZ_ok) mixed Tryd.func30 noLoops_ok (rone key)
  cases hk
  rw [prod_nil]
  exact hok.plain rfl vs4_ro
theorem rmul_0 : FnOK Tryd.prog 30 [.gs 0] [.rs false 1 (.ints .u32 [])] (.tuple [M0.nW (M0.mul []), .int .i64 (M0.mulE [])]) [.rs false 1 (.ints .u32 [])] := by
  have key : evalFn Tryd.prog (orcQ (hTabZ E0 ptZ ptE okP val)) noLoops 200 30 Tryd.f30 [.gs 0] [.rs false 1 (.ints .u32 [])] (fun v _ => some v) = bif okP [1] then some (.tuple [nW (ptZ (val [1])), .int .i64 (ptE (val [1]))]) else none := by kernel_rfl
  obtain ⟨v1, h1, hk, hok⟩ := evalFn_ok (orcQ_ok hTabZ_ok) mixed Tryd.func30 noLoops_ok (rone key)
  cases hk
  rw [prod_nil]
  exact hok.plain rfl vs4_ro
theorem hTabNM_ok : HTabOk Tryd.prog (hTabNM M0) := by
  refine addH_ok ?_ (addH_ok ?_ emptyH_ok)
  · intro args h c v nb hq hc
    unfold gMulM at hq
    split at hq
    · rename_i nn xs
      cases hq
      have hc : mulC0 xs = true := hc
      simp only [mulC0, Bool.and_eq_true, decide_eq_true_eq] at hc
      exact ⟨.of Tryd.func21 (by kernel_rfl), nmul_fn nn (by omega) hc.2⟩
    · cases hq; exact ⟨.of Tryd.func21 (by kernel_rfl), nmul_v⟩
    · cases hq; exact ⟨.of Tryd.func21 (by kernel_rfl), nmul_0⟩
    · cases hq
  · intro args h c v nb hq hc
    unfold gMulM at hq
    split at hq
    · rename_i nn xs
      cases hq
      have hc : mulC0 xs = true := hc
      simp only [mulC0, Bool.and_eq_true, decide_eq_true_eq] at hc
      exact ⟨.of Tryd.func30 (by kernel_rfl), rmulL_fn nn hc.1 hc.2⟩
    · cases hq; exact ⟨.of Tryd.func30 (by kernel_rfl), rmul_v⟩
    · cases hq; exact ⟨.of Tryd.func30 (by kernel_rfl), rmul_0⟩
    · cases hq
theorem orcNM_ok : OracleOk Tryd.prog (orcNM M0) := inl_ok (hOrcP_ok hTabNM_ok) ftab_ok tabNM_ok plainL_ok mixed 20
theorem more_true (nn : Bool) {n k : Int} {xs : List Int} (hn : -9223372036854775808 ≤ n ∧ n < 9223372036854775808) (hx : okL xs = true) : evalFn Tryd.prog (orcNM M0) (moL nn) 200 14 Tryd.f14 [.int .i64 n, .int .i64 k, .gs 0] [.rs nn 4 (.ints .u32 xs)] (fun v _ => some v) = some (.bool true) := by
  have c1 : codesB [(moLp1, moLp1)] = true := by rw [codesB_iff]; intro x hx; simp at hx; rw [hx]
  have c2 : codesB [(moLp2, moLp2)] = true := by rw [codesB_iff]; intro x hx; simp at hx; rw [hx]
  rw [more_eval, c1, c2]
  by_cases h12 : (12 : Int) < ((xs.length / 4 : Nat) : Int)
  · rw [decide_eq_true h12]; rfl
  · have h4 := okL_len hx
    have hC : moC xs ((xs.length / 4 : Nat) : Int) 0 = true := by
      unfold moC
      rw [hx, decide_eq_true ⟨rfl, rfl, by omega⟩]; rfl
    have hM : M0.mulC xs = true := by
      show mulC0 xs = true
      unfold mulC0
      rw [hx, decide_eq_true (by omega)]; rfl
    have hO : M0.ofC n = true := by
      show ofCM n = true
      unfold ofCM
      rw [decide_eq_true hn]
    rw [decide_eq_false h12, decide_eq_true (show xs.length / 4 * 17 ≤ 70368744177664 by omega), hC, hM, hO, pB_iff.2 rfl, moEnd_true]; rfl
theorem more_fn (nn : Bool) {n k : Int} {xs : List Int} (hn : -9223372036854775808 ≤ n ∧ n < 9223372036854775808) (hx : okL xs = true) : FnOK Tryd.prog 14 [.int .i64 n, .int .i64 k, .gs 0] [.rs nn 4 (.ints .u32 xs)] (.bool true) [.rs nn 4 (.ints .u32 xs)] := by
  obtain ⟨v1, h1, hk, hok⟩ := evalFn_ok orcNM_ok mixed Tryd.func14 (moL_ok nn M0 orcNM_ok) (more_true nn (k := k) hn hx)
  cases hk
  exact hok.plain rfl rs4_ro
theorem more_nil_p {n k : Int} (hn : -9223372036854775808 ≤ n ∧ n < 9223372036854775808) : FnPure Tryd.prog 14 [.int .i64 n, .int .i64 k, .flat (.slice none 0 0)] (.bool true) := by
  refine fnPure_of_eval (N := 200) orcNM_ok mixed Tryd.func14 (by kernel_rfl) noLoops_ok ?_ rfl rfl
  have hO : M0.ofC n = true := by
    show ofCM n = true
    unfold ofCM
    rw [decide_eq_true hn]
  rw [more_nil, hO, moEnd_true]; rfl
theorem natMore_nil_true {n : Int} (k : Int) (hn : -9223372036854775808 ≤ n ∧ n < 9223372036854775808) : evalFn Tryd.prog (orcNM M0) noLoops 200 4 Tryd.f4 [.int .i64 n, .int .i64 k, .flat (.slice none 0 0)] [] (fun v _ => some v) = some (.bool true) := by
  have hO : M0.ofC n = true := by
    show ofCM n = true
    unfold ofCM
    rw [decide_eq_true hn]
  rw [natMore_nil, hO, moEndB_true]; rfl
theorem natMore_zero_true {n : Int} (k : Int) (a : Addr) (hn : -9223372036854775808 ≤ n ∧ n < 9223372036854775808) : evalFn Tryd.prog (orcNM M0) noLoops 200 4 Tryd.f4 [.int .i64 n, .int .i64 k, .flat (.slice (some a) 0 0)] [] (fun v _ => some v) = some (.bool true) := by
  have hO : M0.ofC n = true := by
    show ofCM n = true
    unfold ofCM
    rw [decide_eq_true hn]
  rw [natMore_zero, hO, moEndB_true]; rfl
/-! ### the law over a slice that came in -/
def gMoreL : List V → List Blk → Option (Bool × V × List Blk)
  | [.int .i64 n, .int .i64 _, .gs 0], [.rs _ 4 (.ints .u32 xs)] => some (ofCM n && okL xs, .bool true, [])
  | _, _ => none
def hTabML : HTab := addH 14 gMoreL emptyH
theorem hTabML_ok : HTabOk Tryd.prog hTabML := by
  refine addH_ok ?_ emptyH_ok
  intro args h c v nb hq hc
  unfold gMoreL at hq
  split at hq
  · rename_i n k nn xs
    cases hq
    simp only [Bool.and_eq_true] at hc
    exact ⟨.of Tryd.func14 (by kernel_rfl), more_fn nn (of_decide_eq_true hc.1) hc.2⟩
  · cases hq
def tabAw : PTab := addTab 13 gAwake emptyTab
theorem tabAw_ok : PTabOk Tryd.prog tabAw := by
  refine addTab_ok ?_ emptyTab_ok
  intro args c v h _
  unfold gAwake at h
  split at h
  · cases h; exact awake_p
  · cases h
noncomputable abbrev orcML : Oracle := inl Tryd.prog ftab tabAw plainL 200 never (fun f => Nat.beq f 14) (hOrcP nrM hTabML) 20
theorem orcML_ok : OracleOk Tryd.prog orcML := inl_ok (hOrcP_ok hTabML_ok) ftab_ok tabAw_ok plainL_ok mixed 20
theorem natMore_eval (n k : Int) (xs : List Int) : evalFn Tryd.prog orcML noLoops 200 4 Tryd.f4 [.int .i64 n, .int .i64 k, .gs 0] [.rs true 4 (.ints .u32 xs)] (fun v _ => some v) = bif ofCM n && okL xs then some (.bool true) else none := by kernel_rfl
theorem natMore_true {n : Int} (k : Int) {xs : List Int} (hn : -9223372036854775808 ≤ n ∧ n < 9223372036854775808) (hx : okL xs = true) : evalFn Tryd.prog orcML noLoops 200 4 Tryd.f4 [.int .i64 n, .int .i64 k, .gs 0] [.rs true 4 (.ints .u32 xs)] (fun v _ => some v) = some (.bool true) := by
  rw [natMore_eval, hx]
  unfold ofCM
  rw [decide_eq_true hn]; rfl
end Go.Proofs.YthpdeiolhahobaaDoor
