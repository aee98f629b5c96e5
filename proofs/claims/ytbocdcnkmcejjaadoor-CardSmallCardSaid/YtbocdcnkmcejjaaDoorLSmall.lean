/- Chapter 4: the law CardSmall: its tables. -/
import Derived.Test.YtbocdcnkmcejjaaDoorLSets3
import Derived.Test.YtbocdcnkmcejjaaDoorLTells
namespace Go.Proofs.YtbocdcnkmcejjaaDoor
open Go Go.Eng
theorem one_all (c a b : Int) (s : ByteArray) : evalFn Tryd.prog (orcS tabT plainL) noLoops 100 11 Tryd.f11 [.int .u8 c, .int .u8 a, .int .u8 b, .str s] [] (fun v _ => some v) =
    bif inR b then bif inR b then bif inR c then bif inR c then
      bif (bif decide (c < 52) then decide (c < 52) else !decide (c < 52)) then bif inR c then bif decide (suitI c = suitI c) then bif inR c then bif decide (rankI c = rankI c) then
      bif decide (ofV a b = ofV a b) then bif decide (ofE a b = ofE a b) then bif beqBs (txt4 c).data.toList (txt4 c).data.toList then bif decide (txE4 c = txE4 c) then
      bif decide (rdV s = rdV s) then some (.bool (decide (rdE s = rdE s))) else fV else fV else fV else fV else fV else fV else none else fV else none else fV
    else none else none else none else none := by kernel_rfl
theorem one_p {c a b : Int} (s : ByteArray) (hc : inR c = true) (hb : inR b = true) : FnPure Tryd.prog 11 [.int .u8 c, .int .u8 a, .int .u8 b, .str s] (.bool true) := by
  refine fnPure_of_eval (N := 100) (orcS_ok tabT_ok plainL_ok) mixed Tryd.func11 (by kernel_rfl) noLoops_ok ?_ rfl rfl
  have e3 : beqBs (txt4 c).data.toList (txt4 c).data.toList = true := beq_iff.2 rfl
  rw [one_all, hc, hb, e3]
  cases decide (c < 52) <;> simp
structure NO where
  d1 : Int → Int → Bool
  d2 : Int → List Int → ByteArray → Bool
  lE : Int → Int
  lV : Int → List Int
  wV : Int → ByteArray
  wE : Int → Int
  u : Int → Bool
def gOneN (N : NO) : List V → Option (Bool × V)
  | [.int .u8 c, .int .u8 _, .int .u8 b, .str _] => some (N.d1 c b, .bool true)
  | _ => none
def gWrO (N : NO) : List V → Option (Bool × V)
  | [.int .u64 m] => some (N.u m, .tuple [.str (N.wV m), .int .i64 (N.wE m)])
  | _ => none
def gLiO (N : NO) : List V → List Blk → Option (Bool × V × List Blk)
  | [.int .u64 m], [] => some (N.u m, .tuple [.gs 0, .int .i64 (N.lE m)], [.grow false 5 1 (.ints .u8 (N.lV m))])
  | _, _ => none
def tabO8 (N : NO) : PTab := addTab 11 (gOneN N) (addTab 25 (gWrO N) emptyTab)
noncomputable def hTabO8 (N : NO) : HTab := addH 24 (gSets N.d2) (addH 26 (gLiO N) (addH 12 gAwN emptyH))
def hDomO8 : FuncId → Bool := fun f => Nat.beq f 24 || (Nat.beq f 26 || Nat.beq f 12)
def glO8 : FuncId → List Nat := fun f => bif Nat.beq f 24 || Nat.beq f 12 then [0] else []
def nrO8 : FuncId → Option Row := fun f => bif Nat.beq f 24 then some (.ints .u8 []) else none
noncomputable abbrev orcO8 (N : NO) : Oracle := inl Tryd.prog ftab (tabO8 N) plainL 100 never hDomO8 (hOrcN glO8 nrO8 (hTabO8 N)) 20
def O80 : NO := ⟨fun c b => inR c && inR b, D70, liE, liV, wrV, wrE, fun m => decide (0 ≤ m)⟩
theorem tabO8_ok : PTabOk Tryd.prog (tabO8 O80) := by
  refine addTab_ok ?_ (addTab_ok ?_ emptyTab_ok)
  · intro args c v h hc
    unfold gOneN at h
    split at h
    · cases h
      have hc := (Bool.and_eq_true _ _).mp hc
      exact one_p _ hc.1 hc.2
    · cases h
  · intro args c v h hc
    unfold gWrO at h
    split at h
    · cases h; exact rwrite_p (of_decide_eq_true hc)
    · cases h
theorem hTabO8_ok : HTabOk Tryd.prog (hTabO8 O80) := by
  refine addH_ok ?_ (addH_ok ?_ (addH_ok ?_ emptyH_ok))
  · intro args h c v nb hq hc
    unfold gSets at hq
    split at hq
    · cases hq
      have hc : (pB (_ = bruijnL) && D70 _ _ _) = true := hc
      unfold D70 at hc
      simp only [Bool.and_eq_true, pB_iff, decide_eq_true_eq, List.all_eq_true] at hc
      obtain ⟨rfl, h1, h2, h3, h4⟩ := hc
      exact ⟨.of Tryd.func24 (by kernel_rfl), by rw [List.append_nil]; exact sets_fn _ h1 h2 h3 h4⟩
    · cases hq
  · intro args h c v nb hq hc
    unfold gLiO at hq
    split at hq
    · cases hq
      exact ⟨.of Tryd.func26 (by kernel_rfl), rlist_fn (of_decide_eq_true hc)⟩
    · cases hq
  · intro args h c v nb hq hc
    unfold gAwN at hq
    split at hq
    · cases hq
      rw [pB_iff] at hc
      subst hc
      exact ⟨.of Tryd.func12 (by kernel_rfl), awake_fn⟩
    · cases hq
theorem orcO8_ok : OracleOk Tryd.prog (orcO8 O80) := inl_ok (hOrcN_ok hTabO8_ok) ftab_ok tabO8_ok plainL_ok mixed 20
noncomputable def csLp1 : Code := loopOf 2 Tryd.f8
noncomputable def csLp2 : Code := loopOf 5 Tryd.f8
noncomputable def csLp3 : Code := loopOf 13 Tryd.f8
def csT1 : Tm := ⟨mkS [(0, .bool), (1, .int .i64)] 0 142, [.glob 0 u8R, .ro (.vs [])], []⟩
def csX1 : Tm := ⟨mkS [(0, .bool)] 0 142, [.glob 0 u8R, .ro (.vs [])], []⟩
def csT2 : Tm := ⟨mkS [(0, .bool), (1, .int .i64), (15, .int .i64)] 0 142, [.glob 0 u8R, .ro (.vs [])], []⟩
def csT3 : Tm := ⟨mkS [(0, .bool), (3, .int .i64)] 0 142, [.glob 0 u8R, .ro (.vs [])], []⟩
theorem cs_round2 (N : NO) (rd : Option Nat) (b : Bool) (c i : Int) (t : List Int) : roundT Tryd.prog (orcO8 N) noLoops 100 2 rd 8 csLp2 csT2 csT1 [.b b, .i c, .i i, .l t] =
    bif decide (i < 20) then bif decide (0 ≤ i.tmod 16) then (match ([66, 67, 68, 69, 71, 72, 73, 82, 83, 84, 99, 100, 104, 115, 32, 50] : List UInt8)[(i.tmod 16).toNat]? with | some _ => bif N.d1 (wr .u8 c) (wr .u8 c) then some (.normal, [.b b, .i c, .i (wr .i64 (i + 1)), .l t], []) else none | none => none) else none
    else some (.exit 2, [.b b, .i c, .l t], []) := by kernel_rfl
theorem cs_loop2 (rd : Option Nat) (b : Bool) (c : Int) (t : List Int) : ∀ i : Nat, i ≤ 20 →
    SimC Tryd.prog 2 rd (.loop csLp2) (csT2.at [.b b, .i c, .i (i : Int), .l t]) (.exit 2) (csT1.at [.b b, .i c, .l t]) := by
  refine loop_of_rounds (C := orcO8 O80) (L := noLoops) (N := 100) (me := 8) (T := csT2) (T' := csT1) orcO8_ok mixed noLoops_ok (by kernel_rfl) (by kernel_rfl) (X := Nat)
    (fun i => [.b b, .i c, .i (i : Int), .l t]) (fun i => i ≤ 20) (fun i => 20 - i) (fun _ => (.exit 2, [.b b, .i c, .l t])) ?_
  intro i hi
  have h := cs_round2 O80 rd b c (i : Int) t
  rcases Nat.lt_or_ge i 20 with hlt | hge
  · have hm : ((i : Int)).tmod 16 = ((i % 16 : Nat) : Int) := by rw [Int.tmod_eq_emod_of_nonneg (by omega)]; omega
    have hd : O80.d1 (wr .u8 c) (wr .u8 c) = true := by
      show (inR (wr .u8 c) && inR (wr .u8 c)) = true
      have : inR (wr .u8 c) = true := by
        unfold inR
        rw [decide_eq_true_eq]
        show 0 ≤ c % 256 ∧ c % 256 < 256
        omega
      rw [this]; rfl
    have hg : ∃ x : UInt8, ([66, 67, 68, 69, 71, 72, 73, 82, 83, 84, 99, 100, 104, 115, 32, 50] : List UInt8)[i % 16]? = some x := ⟨_, List.getElem?_eq_getElem (show i % 16 < 16 by omega)⟩
    obtain ⟨x, hx⟩ := hg
    rw [decide_eq_true (show (i : Int) < 20 by omega), hm, decide_eq_true (show 0 ≤ ((i % 16 : Nat) : Int) by omega), show (((i % 16 : Nat) : Int)).toNat = i % 16 from rfl, hx, hd, wrI64 (by omega) (by omega)] at h
    exact ⟨_, _, _, h, codesE, .inl ⟨rfl, i + 1, rfl, by omega, by omega, rfl⟩⟩
  · rw [decide_eq_false (show ¬ (i : Int) < 20 by omega), cond_false] at h
    exact ⟨_, _, _, h, codesE, .inr ⟨by simp, rfl⟩⟩
noncomputable def csTree2 : List PV → Fin
  | [.b b, .i c, .i i, .l t] => .br (pB (i = 0)) (.leaf (.exit 2) (csT1.at [.b b, .i c, .l t])) .no
  | _ => .no
noncomputable def csL2 : Loops := sums (fun n => match n with | 5 => some (lsumF 2 csT2 csLp2 csTree2) | _ => none)
theorem csL2_ok : loopsOk Tryd.prog csL2 := by
  intro n g hg
  simp only [csL2, sums] at hg
  split at hg
  · cases hg
    refine lsumF_ok (by kernel_rfl) (fun rd ps e1 st1 hq => ?_)
    unfold csTree2 at hq
    split at hq
    · rename_i b c i t
      simp only [Fin.pick] at hq
      cases hc : pB (i = 0) with
      | false => rw [hc] at hq; cases hq
      | true =>
        rw [hc, cond_true] at hq
        cases hq
        rw [pB_iff] at hc
        subst hc
        exact cs_loop2 rd b c t 0 (by omega)
    · cases hq
  · cases hg
theorem cs_round1 (N : NO) (rd : Option Nat) (b : Bool) (c : Int) : roundT Tryd.prog (orcO8 N) csL2 100 2 rd 8 csLp1 csT1 csX1 [.b b, .i c, .l bruijnL] =
    bif decide (c < 256) then cond (codesB [(csLp2, csLp2)]) (bif pB ((0 : Int) = 0) then bif N.d1 0 3 then bif decide (c.tmod 64 < 0) then none else
      bif pB (bruijnL = bruijnL) && N.d2 (wr .u64 (1 * 2 ^ shAmt .u64 (c.tmod 64))) [wr .u8 c, 5, wr .u8 c] (bytesOf [wr .u8 c, 46, 46, 46]) then some (.normal, [.b b, .i (wr .i64 (c + 1)), .l bruijnL], []) else none else none else none) none
    else some (.exit 0, [.b b, .l bruijnL], []) := by kernel_rfl
theorem u8_nn (c : Int) : 0 ≤ wr .u8 c := by show 0 ≤ c % 256; omega
theorem cs_loop1 (rd : Option Nat) (b : Bool) : ∀ c : Nat, c ≤ 256 → SimC Tryd.prog 2 rd (.loop csLp1) (csT1.at [.b b, .i (c : Int), .l bruijnL]) (.exit 0) (csX1.at [.b b, .l bruijnL]) := by
  refine loop_of_rounds (C := orcO8 O80) (L := csL2) (N := 100) (me := 8) (T := csT1) (T' := csX1) orcO8_ok mixed csL2_ok (by kernel_rfl) (by kernel_rfl) (X := Nat)
    (fun c => [.b b, .i (c : Int), .l bruijnL]) (fun c => c ≤ 256) (fun c => 256 - c) (fun _ => (.exit 0, [.b b, .l bruijnL])) ?_
  intro c hc
  have h := cs_round1 O80 rd b (c : Int)
  rcases Nat.lt_or_ge c 256 with hlt | hge
  · have cd : codesB [(csLp2, csLp2)] = true := by rw [codesB_iff]; intro x hx; simp at hx; rw [hx]
    have hm : ((c : Int)).tmod 64 = ((c % 64 : Nat) : Int) := by rw [Int.tmod_eq_emod_of_nonneg (by omega)]; omega
    have hd : O80.d2 (wr .u64 (1 * 2 ^ shAmt .u64 ((c % 64 : Nat) : Int))) [wr .u8 c, 5, wr .u8 c] (bytesOf [wr .u8 c, 46, 46, 46]) = true := by
      rw [show O80.d2 = D70 from rfl]
      unfold D70
      simp only [Bool.and_eq_true, decide_eq_true_eq, List.all_eq_true]
      refine ⟨by show 0 ≤ _ % (18446744073709551616 : Int); omega, fun x hx => ?_, by show 3 ≤ 100000; omega, by show 4 ≤ 1000000; omega⟩
      have := u8_nn (c : Int)
      simp only [List.mem_cons, List.not_mem_nil, or_false] at hx
      rcases hx with rfl | rfl | rfl <;> omega
    have h3 : O80.d1 0 3 = true := by decide
    rw [decide_eq_true (show (c : Int) < 256 by omega), cd, pB_iff.2 rfl, h3, hm, decide_eq_false (show ¬ ((c % 64 : Nat) : Int) < 0 by omega), pB_iff.2 rfl, hd, wrI64 (by omega) (by omega)] at h
    exact ⟨_, _, _, h, codesE, .inl ⟨rfl, c + 1, rfl, by omega, by omega, rfl⟩⟩
  · rw [decide_eq_false (show ¬ (c : Int) < 256 by omega), cond_false] at h
    exact ⟨_, _, _, h, codesE, .inr ⟨by simp, rfl⟩⟩
end Go.Proofs.YtbocdcnkmcejjaaDoor
