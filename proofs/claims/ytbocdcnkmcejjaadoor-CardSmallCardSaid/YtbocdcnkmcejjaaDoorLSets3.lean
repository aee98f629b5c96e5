/- Chapter 4: the law CardSets: 'sets' is true; the law. -/
import Derived.Test.YtbocdcnkmcejjaaDoorLSets1
namespace Go.Proofs.YtbocdcnkmcejjaaDoor
open Go Go.Eng
noncomputable def gSets (D : Int → List Int → ByteArray → Bool) : List V → List Blk → Option (Bool × V × List Blk)
  | [.int .u64 m, .gs 1, .str s], [.glob 0 (.ints .u8 l), .rs _ 1 (.ints .u8 xs)] => some (pB (l = bruijnL) && D m xs s, .bool true, [])
  | _, _ => none
noncomputable def hTabL7 (D : Int → List Int → ByteArray → Bool) : HTab := addH 24 (gSets D) (addH 12 gAwN emptyH)
def hDomL7 : FuncId → Bool := fun f => Nat.beq f 24 || Nat.beq f 12
def glL7 : FuncId → List Nat := fun f => bif Nat.beq f 24 || Nat.beq f 12 then [0] else []
noncomputable abbrev orcL7 (D : Int → List Int → ByteArray → Bool) : Oracle := inl Tryd.prog ftab emptyTab plainL 100 never hDomL7 (hOrcG glL7 (hTabL7 D)) 20
/-! ### 'sets' -/
def S70 : NS := ⟨liE, liV, mkV, fun xs => (mkN xs 0).1, fun xs => xs.all (fun c => decide (0 ≤ c)) && decide (xs.length ≤ 100000), wrV, wrE, prV, prE, fun s => decide (s.data.toList.length ≤ 1000000), toV, loV, toB, fun m => decide (0 ≤ m)⟩
theorem tabS7_ok : PTabOk Tryd.prog (tabS7 S70) := by
  refine addTab_ok ?_ (addTab_ok ?_ (addTab_ok ?_ (addTab_ok ?_ (addTab_ok ?_ (addTab_ok ?_ (addTab_ok ?_ emptyTab_ok))))))
  · intro args c v h hc
    unfold gWrN at h
    split at h
    · cases h; exact write_p (of_decide_eq_true hc)
    · cases h
  · intro args c v h hc
    unfold gWrN at h
    split at h
    · cases h; exact rwrite_p (of_decide_eq_true hc)
    · cases h
  · intro args c v h hc
    unfold gPaN at h
    split at h
    · cases h; exact parse_q _
    · cases h
  · intro args c v h hc
    unfold gPaN at h
    split at h
    · cases h; exact rparse_p (of_decide_eq_true hc)
    · cases h
  · intro args c v h hc
    unfold gTpN at h
    split at h
    · cases h
      rw [Bool.and_eq_true] at hc
      exact top_tot (of_decide_eq_true hc.1) (of_decide_eq_true hc.2)
    · cases h
  · intro args c v h hc
    unfold gTpN at h
    split at h
    · cases h
      rw [Bool.and_eq_true] at hc
      exact rtop_p (of_decide_eq_true hc.1) (of_decide_eq_true hc.2)
    · cases h
  · intro args c v h hc
    unfold gRlN at h
    split at h
    · cases h
      rw [Bool.and_eq_true] at hc
      exact rlow_p (of_decide_eq_true hc.1) (of_decide_eq_true hc.2)
    · cases h
theorem mC_ok {xs : List Int} (h : S70.mC xs = true) : (∀ c ∈ xs, 0 ≤ c) ∧ xs.length ≤ 100000 := by
  have h : (xs.all (fun c => decide (0 ≤ c)) && decide (xs.length ≤ 100000)) = true := h
  simpa only [Bool.and_eq_true, decide_eq_true_eq, List.all_eq_true] using h
theorem hTabS7_ok : HTabOk Tryd.prog (hTabS7 S70) := by
  refine addH_ok ?_ (addH_ok ?_ (addH_ok ?_ (addH_ok ?_ (addH_ok ?_ (addH_ok ?_ emptyH_ok)))))
  · intro args h c v nb hq hc
    unfold gLiN at hq
    split at hq
    · cases hq
      exact ⟨.of Tryd.func21 (by kernel_rfl), list_tot (of_decide_eq_true hc)⟩
    · cases hq
  · intro args h c v nb hq hc
    unfold gLiN at hq
    split at hq
    · cases hq
      exact ⟨.of Tryd.func26 (by kernel_rfl), rlist_fn (of_decide_eq_true hc)⟩
    · cases hq
  · intro args h c v nb hq hc
    unfold gMkN at hq
    split at hq
    · cases hq
      obtain ⟨h1, h2⟩ := mC_ok hc
      exact ⟨.of Tryd.func28 (by kernel_rfl), by rw [List.append_nil]; exact mask_fn h1 h2⟩
    · cases hq
  · intro args h c v nb hq hc
    unfold gMkN at hq
    split at hq
    · cases hq
      obtain ⟨h1, h2⟩ := mC_ok hc
      exact ⟨.of Tryd.func41 (by kernel_rfl), by rw [List.append_nil]; exact rmask_fn _ h1 h2⟩
    · cases hq
  · intro args h c v nb hq hc
    unfold gLoN at hq
    split at hq
    · cases hq
      simp only [Bool.and_eq_true, pB_iff] at hc
      obtain ⟨rfl, h1, h2⟩ := hc
      exact ⟨.of Tryd.func23 (by kernel_rfl), by rw [List.append_nil]; exact low_tot (of_decide_eq_true h1) (of_decide_eq_true h2)⟩
    · cases hq
  · intro args h c v nb hq hc
    unfold gAwN at hq
    split at hq
    · cases hq
      rw [pB_iff] at hc
      subst hc
      exact ⟨.of Tryd.func12 (by kernel_rfl), awake_fn⟩
    · cases hq
theorem orcS7_ok : OracleOk Tryd.prog (orcS7 S70) := inl_ok (hOrcG_ok hTabS7_ok) ftab_ok tabS7_ok plainL_ok mixed 20
theorem nn_bif (b : Bool) : (bif b then b else !b) = true := by cases b <;> rfl
theorem suit_true {m k : Int} (hm : 0 ≤ m) (hk : 0 ≤ k) (K : Option V) : stSuit S70 m k K = K := by
  have h1 : S70.u m = true := decide_eq_true hm
  have h2 : S70.u k = true := decide_eq_true hk
  unfold stSuit
  rw [h1, h2, pB_iff.2 rfl, nn_bif, decide_eq_true rfl, decide_eq_true rfl]
  rfl
theorem stV_is (xs : List Int) : stV xs = xs := by
  unfold stV
  rw [show (Int.ofNat xs.length).toNat - 0 = xs.length from rfl, List.drop_zero, List.take_left]
theorem sets_true (nn : Bool) {m : Int} (hm : 0 ≤ m) {xs : List Int} (h1 : ∀ c ∈ xs, 0 ≤ c) (h2 : xs.length ≤ 100000) {s : ByteArray} (hs : s.data.toList.length ≤ 1000000) :
    evalFn Tryd.prog (orcS7 S70) (stL nn) 100 24 Tryd.f24 [.int .u64 m, .gs 1, .str s] (gH ++ [.rs nn 1 (.ints .u8 xs)]) (fun v _ => some v) = some (.bool true) := by
  have cd : codesB [(stLp, stLp)] = true := by rw [codesB_iff]; intro x hx; simp at hx; rw [hx]
  have hu : S70.u m = true := decide_eq_true hm
  have hp : S70.pC s = true := decide_eq_true hs
  have hmc : S70.mC xs = true := by
    show (xs.all (fun c => decide (0 ≤ c)) && decide (xs.length ≤ 100000)) = true
    simp only [Bool.and_eq_true, decide_eq_true_eq, List.all_eq_true]
    exact ⟨h1, h2⟩
  have hl : (S70.lV m).length ≤ 1000000 := by
    show (liV m).length ≤ 1000000
    unfold liV
    have := desc_len m.toNat 52
    cases decide (4503599627370495 < m)
    · rw [cond_false]; omega
    · rw [cond_true]; decide
  have hC : stC (Int.ofNat (S70.lV m).length) 0 (S70.lV m) = true := pB_iff.2 ⟨rfl, rfl, hl⟩
  rw [sets_eval, stV_is, cd, hu, hC, hmc, strEqW.2 rfl, strEqW.2 rfl, decide_eq_true (show xs.length * 2 ≤ 70368744177664 by omega), decide_eq_true (show (xs ++ [(77 : Int)]).length * 2 ≤ 70368744177664 by rw [List.length_append, List.length_singleton]; omega),
    decide_eq_true (show (0 : Int) ≤ 0 ∧ (0 : Int) ≤ Int.ofNat xs.length ∧ Int.ofNat xs.length ≤ Int.ofNat (xs ++ [(77 : Int)]).length by rw [List.length_append, List.length_singleton]; show (0 : Int) ≤ 0 ∧ (0 : Int) ≤ (xs.length : Int) ∧ (xs.length : Int) ≤ ((xs.length + 1 : Nat) : Int); omega),
    decide_eq_true (show 0 + ((Int.ofNat xs.length).toNat - 0) ≤ (xs ++ [(77 : Int)]).length by rw [List.length_append, List.length_singleton]; show 0 + (xs.length - 0) ≤ _; omega), decide_eq_true rfl, decide_eq_true rfl, decide_eq_true rfl]
  unfold stEnd
  rw [hu, hp, strEqW.2 rfl, decide_eq_true rfl, decide_eq_true rfl, decide_eq_true rfl, suit_true hm (by decide), suit_true hm (by decide), suit_true hm (by decide), suit_true hm (by decide), suit_true hm (by decide)]
  rfl
theorem gHr_ro {nn : Bool} {xs : List Int} : ∀ (b : Nat) blk, (gH ++ [.rs nn 1 (.ints .u8 xs)])[b]? = some blk → blk.mine = false := by
  intro b blk hb
  match b, hb with
  | 0, hb => cases hb; rfl
  | 1, hb => cases hb; rfl
  | b + 2, hb => simp [gH] at hb
theorem sets_fn (nn : Bool) {m : Int} (hm : 0 ≤ m) {xs : List Int} (h1 : ∀ c ∈ xs, 0 ≤ c) (h2 : xs.length ≤ 100000) {s : ByteArray} (hs : s.data.toList.length ≤ 1000000) :
    FnOK Tryd.prog 24 [.int .u64 m, .gs 1, .str s] (gH ++ [.rs nn 1 (.ints .u8 xs)]) (.bool true) (gH ++ [.rs nn 1 (.ints .u8 xs)]) := by
  obtain ⟨v1, h', hk, hok⟩ := evalFn_ok orcS7_ok mixed Tryd.func24 (stL_ok orcS7_ok nn) (sets_true nn hm h1 h2 hs)
  cases hk
  exact hok.plain rfl gHr_ro
/-! ### the law -/
theorem cardSets_eval (D : Int → List Int → ByteArray → Bool) (nn : Bool) (m : Int) (xs : List Int) (s : ByteArray) : evalFn Tryd.prog (orcL7 D) noLoops 100 7 Tryd.f7 [.int .u64 m, .gs 1, .str s] (gH ++ [.rs nn 1 (.ints .u8 xs)]) (fun v _ => some v) =
    bif decide (100 < Int.ofNat xs.length) then bif pB (bruijnL = bruijnL) then some (.bool true) else none else bif decide (100 < Int.ofNat s.data.toList.length) then bif pB (bruijnL = bruijnL) then some (.bool true) else none else
      bif pB (bruijnL = bruijnL) && D m xs s then bif pB (bruijnL = bruijnL) then some (.bool true) else none else none := by cases nn <;> kernel_rfl
def D70 (m : Int) (xs : List Int) (s : ByteArray) : Bool := decide (0 ≤ m) && (xs.all (fun c => decide (0 ≤ c)) && (decide (xs.length ≤ 100000) && decide (s.data.toList.length ≤ 1000000)))
theorem hTabL7_ok : HTabOk Tryd.prog (hTabL7 D70) := by
  refine addH_ok ?_ (addH_ok ?_ emptyH_ok)
  · intro args h c v nb hq hc
    unfold gSets at hq
    split at hq
    · cases hq
      unfold D70 at hc
      simp only [Bool.and_eq_true, pB_iff, decide_eq_true_eq, List.all_eq_true] at hc
      obtain ⟨rfl, h1, h2, h3, h4⟩ := hc
      exact ⟨.of Tryd.func24 (by kernel_rfl), by rw [List.append_nil]; exact sets_fn _ h1 h2 h3 h4⟩
    · cases hq
  · intro args h c v nb hq hc
    unfold gAwN at hq
    split at hq
    · cases hq
      rw [pB_iff] at hc
      subst hc
      exact ⟨.of Tryd.func12 (by kernel_rfl), awake_fn⟩
    · cases hq
theorem orcL7_ok : OracleOk Tryd.prog (orcL7 D70) := inl_ok (hOrcG_ok hTabL7_ok) ftab_ok emptyTab_ok plainL_ok mixed 20
theorem cardSets_true (nn : Bool) {m : Int} (hm : 0 ≤ m) {xs : List Int} (hx : ∀ c ∈ xs, 0 ≤ c) (s : ByteArray) :
    evalFn Tryd.prog (orcL7 D70) noLoops 100 7 Tryd.f7 [.int .u64 m, .gs 1, .str s] (gH ++ [.rs nn 1 (.ints .u8 xs)]) (fun v _ => some v) = some (.bool true) := by
  rw [cardSets_eval, pB_iff.2 rfl]
  by_cases h1 : xs.length ≤ 100
  · rw [decide_eq_false (show ¬ (100 : Int) < Int.ofNat xs.length from fun h => by have : (100 : Int) < (xs.length : Int) := h; omega)]
    by_cases h2 : s.data.toList.length ≤ 100
    · rw [decide_eq_false (show ¬ (100 : Int) < Int.ofNat s.data.toList.length from fun h => by have : (100 : Int) < (s.data.toList.length : Int) := h; omega)]
      have : D70 m xs s = true := by
        unfold D70
        simp only [Bool.and_eq_true, decide_eq_true_eq, List.all_eq_true]
        exact ⟨hm, hx, by omega, by omega⟩
      rw [this]; rfl
    · rw [decide_eq_true (show (100 : Int) < Int.ofNat s.data.toList.length by show (100 : Int) < (s.data.toList.length : Int); omega)]; rfl
  · rw [decide_eq_true (show (100 : Int) < Int.ofNat xs.length by show (100 : Int) < (xs.length : Int); omega)]; rfl
end Go.Proofs.YtbocdcnkmcejjaaDoor
