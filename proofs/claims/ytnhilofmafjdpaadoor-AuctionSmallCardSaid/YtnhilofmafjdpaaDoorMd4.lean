/- Texts merged: Md4, Md5. -/
import Derived.Test.YtnhilofmafjdpaaDoorMd3
/- Chapter 9: Made for every list. -/
namespace Go.Proofs.YtnhilofmafjdpaaDoor
open Go Go.Eng
noncomputable def m1Tree (K : Int → List Int → Bool) (MR : Int → List Int → List Int) (nn : Bool) : List PV → Fin
  | [.i d, .b fin, .n z, .n k, .i n, .i i, .l xs, .l out] => .br (decide (z = 0 ∧ k ≤ xs.length ∧ k ≤ 319 ∧ n = Int.ofNat k ∧ i = 0 ∧ out.length = 0) && K d xs) (.leaf (.exit 0) ((m1X nn).at [.i d, .b fin, .l xs, .l (MR d (xs.take k))])) .no
  | _ => .no
noncomputable def m2Tree (K2 : Int → List Int → Bool) (FR : Int → Bool → List Int → List Int) (nn : Bool) : List PV → Fin
  | [.i d, .b fin, .i i, .l xs, .l out] => .br (decide (i = 0) && K2 d out) (.leaf (.exit 2) ((m2X nn).at [.i d, .l xs, .l (FR d fin out)])) .no
  | _ => .no
def mdA (d : Int) (xs : List Int) : List Int := mdR d xs []
def mdF (d : Int) (fin : Bool) (out : List Int) : List Int := fnR d fin 4 out
def mK1 (d : Int) (xs : List Int) : Bool := decide (0 ≤ d) && allU xs
def mK2 (d : Int) (out : List Int) : Bool := okA d out && decide (out.length ≤ 319)
structure MN where
  K1 : Int → List Int → Bool
  MR : Int → List Int → List Int
  K2 : Int → List Int → Bool
  FR : Int → Bool → List Int → List Int
def mN : MN := ⟨mK1, mdA, mK2, mdF⟩
noncomputable def mdL (M : MN) (nn : Bool) : Loops := sums (fun n => match n with
  | 4 => some (lsumF 1 (m1T nn) m1Lp (m1Tree M.K1 M.MR nn)) | 14 => some (lsumF 1 (m2T nn) m2Lp (m2Tree M.K2 M.FR nn)) | _ => none)
theorem mdL_ok (nn : Bool) : loopsOk Tryd.prog (mdL mN nn) := by
  intro n g hg
  simp only [mdL, sums, mN] at hg
  split at hg
  · cases hg
    refine lsumF_ok (by cases nn <;> kernel_rfl) (fun rd ps e1 st1 hq => ?_)
    unfold m1Tree at hq
    split at hq
    · rename_i d fin z k n i xs out
      simp only [Fin.pick] at hq
      cases hc : (decide (z = 0 ∧ k ≤ xs.length ∧ k ≤ 319 ∧ n = Int.ofNat k ∧ i = 0 ∧ out.length = 0) && mK1 d xs) with
      | false => rw [hc] at hq; cases hq
      | true =>
        rw [hc, cond_true] at hq
        simp only [mK1, Bool.and_eq_true, decide_eq_true_eq] at hc
        obtain ⟨⟨rfl, h1, h2, rfl, rfl, h3⟩, h4, h5⟩ := hc
        obtain rfl := List.eq_nil_of_length_eq_zero h3
        cases hq
        have h0 : okA d [] = true := by simp only [okA, smallL, allU, Bool.and_eq_true, decide_eq_true_eq]; exact ⟨h4, by simp, trivial⟩
        exact m1_loop nn rd d fin xs h5 k h1 h2 (0, []) ⟨Nat.zero_le _, h0, Nat.le_refl _⟩
    · cases hq
  · cases hg
    refine lsumF_ok (by cases nn <;> kernel_rfl) (fun rd ps e1 st1 hq => ?_)
    unfold m2Tree at hq
    split at hq
    · rename_i d fin i xs out
      simp only [Fin.pick] at hq
      cases hc : (decide (i = 0) && mK2 d out) with
      | false => rw [hc] at hq; cases hq
      | true =>
        rw [hc, cond_true] at hq
        simp only [mK2, Bool.and_eq_true, decide_eq_true_eq] at hc
        obtain ⟨rfl, h1, h2⟩ := hc
        cases hq
        exact m2_loop nn rd d fin xs (0, out) ⟨by simp, h1, by dsimp only; omega⟩
    · cases hq
  · cases hg
def keepQ (v : V) (h : List Blk) : Option (V × Option (Bool × TypeId × Nat × Row)) := match v with
  | .tuple [w, .gs b] => match getB h b with
    | .grow nn ty sz row => some (.tuple [w, .gs b], some (nn, ty, sz, row))
    | _ => none
  | _ => none
theorem made_eval (N : NA) (M : MN) (nn : Bool) (d : Int) (fin : Bool) (xs : List Int) : evalFn Tryd.prog (orcC N (tabO chk ovr) plainL) (mdL M nn) 100 14 Tryd.f14 [.int .u8 d, .gs 0, .bool fin] [.rs nn 1 (.ints .u8 xs)] keepQ =
    bif decide ((0 : Int) ≤ 0 ∧ (0 : Int) ≤ foldI minI (Int.ofNat xs.length) [319] ∧ foldI minI (Int.ofNat xs.length) [319] ≤ Int.ofNat xs.length) then
    cond (codesB [(m1Lp, m1Lp)]) (bif decide ((0 : Int).toNat = 0 ∧ (foldI minI (Int.ofNat xs.length) [319]).toNat - (0 : Int).toNat ≤ xs.length ∧ (foldI minI (Int.ofNat xs.length) [319]).toNat - (0 : Int).toNat ≤ 319 ∧ Int.ofNat ((foldI minI (Int.ofNat xs.length) [319]).toNat - (0 : Int).toNat) = Int.ofNat ((foldI minI (Int.ofNat xs.length) [319]).toNat - (0 : Int).toNat) ∧ (0 : Int) = 0 ∧ ([] : List Int).length = 0) && M.K1 (d.tmod 4) xs then
      cond (codesB [(m2Lp, m2Lp)]) (bif decide ((0 : Int) = 0) && M.K2 (d.tmod 4) (M.MR (d.tmod 4) (xs.take ((foldI minI (Int.ofNat xs.length) [319]).toNat - (0 : Int).toNat))) then
        some (.tuple [.int .u8 (d.tmod 4), .gs 1], some (false, 5, 1, .ints .u8 (M.FR (d.tmod 4) fin (M.MR (d.tmod 4) (xs.take ((foldI minI (Int.ofNat xs.length) [319]).toNat - (0 : Int).toNat)))))) else none) none else none) none else none := by cases nn <;> kernel_rfl
end Go.Proofs.YtnhilofmafjdpaaDoor

/- Chapter 9: Made's contract. -/
namespace Go.Proofs.YtnhilofmafjdpaaDoor
open Go Go.Eng
/-- What Made makes. -/
def made (d : Int) (xs : List Int) (fin : Bool) : List Int := mdF (d.tmod 4) fin (mdA (d.tmod 4) (xs.take 319))
theorem okA_nil {d : Int} (h : 0 ≤ d) : okA d [] = true := by
  simp only [okA, smallL, allU, Bool.and_eq_true, decide_eq_true_eq]; exact ⟨h, by simp, trivial⟩
theorem mdR_ok {d : Int} : ∀ (xs out : List Int), allU xs = true → okA d out = true → out.length + xs.length ≤ 319 → okA d (mdR d xs out) = true ∧ (mdR d xs out).length ≤ out.length + xs.length
  | [], out, _, h, _ => ⟨h, by simp [mdR]⟩
  | n :: r, out, hu, h, hl => by
    simp only [allU, Bool.and_eq_true, decide_eq_true_eq] at hu
    simp only [List.length_cons] at hl
    unfold mdR
    cases hg : goOn d out with
    | false => exact ⟨h, by simp only [cond_false]; omega⟩
    | true =>
      have hlen : (out ++ [pick (legV (fol d out)) n]).length = out.length + 1 := by simp
      obtain ⟨q1, q2⟩ := mdR_ok r (out ++ [pick (legV (fol d out)) n]) hu.2 (okA_snoc h (by omega) (pick_u8 hg hu.1)) (by rw [hlen]; omega)
      refine ⟨q1, ?_⟩
      rw [hlen] at q2
      simp only [cond_true, List.length_cons]
      omega
theorem fnR_ok {d : Int} {fin : Bool} : ∀ (k : Nat) (out : List Int), okA d out = true → out.length + k ≤ 400 → okA d (fnR d fin k out) = true ∧ (fnR d fin k out).length ≤ out.length + k
  | 0, out, h, _ => ⟨h, by simp [fnR]⟩
  | k + 1, out, h, hl => by
    obtain ⟨q1, q2⟩ := fnS_ok (fin := fin) h (by omega)
    obtain ⟨q3, q4⟩ := fnR_ok k (fnS d fin out) q1 (by omega)
    exact ⟨q3, by unfold fnR; omega⟩
theorem d4_range {d : Int} (h : 0 ≤ d) : 0 ≤ d.tmod 4 ∧ d.tmod 4 < 4 := by
  rw [Int.tmod_eq_emod_of_nonneg h]; omega
theorem allU_take {xs : List Int} (h : allU xs = true) (k : Nat) : allU (xs.take k) = true := by
  rw [allU_iff] at h ⊢
  exact fun c hc => h c (List.mem_of_mem_take hc)
theorem mdA_ok {d : Int} (hd : 0 ≤ d) {xs : List Int} (hu : allU xs = true) : okA (d.tmod 4) (mdA (d.tmod 4) (xs.take 319)) = true ∧ (mdA (d.tmod 4) (xs.take 319)).length ≤ 319 := by
  have hl : (xs.take 319).length ≤ 319 := by rw [List.length_take]; omega
  obtain ⟨q1, q2⟩ := mdR_ok (xs.take 319) [] (allU_take hu 319) (okA_nil (d4_range hd).1) (by simpa using hl)
  exact ⟨q1, by unfold mdA; simp only [List.length_nil, Nat.zero_add] at q2; omega⟩
theorem made_ok {d : Int} (hd : 0 ≤ d) {xs : List Int} (hu : allU xs = true) (fin : Bool) : okA (d.tmod 4) (made d xs fin) = true ∧ (made d xs fin).length ≤ 323 := by
  obtain ⟨q1, q2⟩ := mdA_ok hd hu
  obtain ⟨q3, q4⟩ := fnR_ok (fin := fin) 4 _ q1 (by omega)
  exact ⟨q3, by unfold made mdF; omega⟩
def mK (d : Int) (xs : List Int) : Bool := decide (0 ≤ d) && allU xs
theorem made_fn (nn fin : Bool) {d : Int} {xs : List Int} (h : mK d xs = true) : FnOK Tryd.prog 14 [.int .u8 d, .gs 0, .bool fin] [.rs nn 1 (.ints .u8 xs)] (.tuple [.int .u8 (d.tmod 4), .gs 1]) ([.rs nn 1 (.ints .u8 xs)] ++ [.grow false 5 1 (.ints .u8 (made d xs fin))]) := by
  simp only [mK, Bool.and_eq_true, decide_eq_true_eq] at h
  obtain ⟨hd, hu⟩ := h
  have key := made_eval nA mN nn d fin xs
  have hm : foldI minI (Int.ofNat xs.length) [319] = ((min xs.length 319 : Nat) : Int) := by
    unfold foldI foldI minI
    have hof : Int.ofNat xs.length = (xs.length : Int) := rfl
    by_cases h : (319 : Int) < Int.ofNat xs.length
    · rw [decide_eq_true h]; simp only [cond_true]; omega
    · rw [decide_eq_false h]; simp only [cond_false]; omega
  have ht : xs.take (((min xs.length 319 : Nat) : Int).toNat - (0 : Int).toNat) = xs.take 319 := by
    rw [show ((min xs.length 319 : Nat) : Int).toNat - (0 : Int).toNat = min xs.length 319 by omega]
    rw [Nat.min_comm, ← List.take_take, List.take_length]
  obtain ⟨q1, q2⟩ := mdA_ok hd hu
  have hof : Int.ofNat xs.length = (xs.length : Int) := rfl
  rw [hm, decide_eq_true (show (0 : Int) ≤ 0 ∧ (0 : Int) ≤ ((min xs.length 319 : Nat) : Int) ∧ ((min xs.length 319 : Nat) : Int) ≤ Int.ofNat xs.length from ⟨by omega, by omega, by omega⟩), cond_true, lpCd, cond_true,
    decide_eq_true (show (0 : Int).toNat = 0 ∧ ((min xs.length 319 : Nat) : Int).toNat - (0 : Int).toNat ≤ xs.length ∧ ((min xs.length 319 : Nat) : Int).toNat - (0 : Int).toNat ≤ 319 ∧ Int.ofNat (((min xs.length 319 : Nat) : Int).toNat - (0 : Int).toNat) = Int.ofNat (((min xs.length 319 : Nat) : Int).toNat - (0 : Int).toNat) ∧ (0 : Int) = 0 ∧ ([] : List Int).length = 0 from ⟨rfl, by omega, by omega, rfl, rfl, rfl⟩),
    show mN.K1 (d.tmod 4) xs = mK1 (d.tmod 4) xs from rfl, ht, lpCd, show mN.K2 (d.tmod 4) (mN.MR (d.tmod 4) (xs.take 319)) = mK2 (d.tmod 4) (mdA (d.tmod 4) (xs.take 319)) from rfl] at key
  have h1 : mK1 (d.tmod 4) xs = true := by unfold mK1; rw [hu, decide_eq_true (d4_range hd).1]; rfl
  have h2 : mK2 (d.tmod 4) (mdA (d.tmod 4) (xs.take 319)) = true := by unfold mK2; rw [q1, decide_eq_true q2]; rfl
  rw [h1, h2] at key
  obtain ⟨v1, e1, hk, hok⟩ := evalFn_ok (orcC_ok tabO_ok plainL_ok) mixed Tryd.func14 (mdL_ok nn) key
  unfold keepQ at hk
  split at hk
  · split at hk
    · rename_i w b nn' ty sz row hb
      simp only [Option.some.injEq, Prod.mk.injEq, V.tuple.injEq, List.cons.injEq, V.gs.injEq, and_true] at hk
      obtain ⟨⟨rfl, rfl⟩, rfl, rfl, rfl, rfl⟩ := hk
      exact FnOK.lastAtL (j := 1) (pre := [.int .u8 (d.tmod 4)]) (post := []) (n2 := false) (fun h => by cases h) rfl rfl hok (getB_some hb (by simp)) rfl rs_ro
    · cases hk
  · cases hk
def gMade (MK : Int → List Int → Bool) (MD : Int → List Int → Bool → List Int) : List V → List Blk → Option (Bool × V × List Blk)
  | [.int .u8 d, .gs 0, .bool fin], [.rs _ 1 (.ints .u8 xs)] => some (MK d xs, .tuple [.int .u8 (d.tmod 4), .gs 1], [.grow false 5 1 (.ints .u8 (MD d xs fin))])
  | _, _ => none
noncomputable def hTabM (MK : Int → List Int → Bool) (MD : Int → List Int → Bool → List Int) (N : NA) : HTab := addH 14 (gMade MK MD) (hTabA N)
def domM : FuncId → Bool := fun f => Nat.beq f 14 || domA f
theorem hTabM_ok : HTabOk Tryd.prog (hTabM mK made nA) := by
  refine addH_ok ?_ hTabA_ok
  intro args h c v nb hq hc
  unfold gMade at hq
  split at hq
  · cases hq
    exact ⟨.of Tryd.func14 (by kernel_rfl), made_fn _ _ hc⟩
  · cases hq
noncomputable abbrev orcM (MK : Int → List Int → Bool) (MD : Int → List Int → Bool → List Int) (N : NA) (T : PTab) (LL : FuncId → Loops) : Oracle := inl Tryd.prog ftab T LL 100 never domM (hOrcN glA nrB (hTabM MK MD N)) 20
theorem orcM_ok {T : PTab} (hT : PTabOk Tryd.prog T) {LL : FuncId → Loops} (hL : ∀ f, loopsOk Tryd.prog (LL f)) : OracleOk Tryd.prog (orcM mK made nA T LL) := inl_ok (hOrcN_ok hTabM_ok) ftab_ok hT hL mixed 20
end Go.Proofs.YtnhilofmafjdpaaDoor
