/- Chapter 4: Of and Read: the program's are the reference's. -/
import Derived.Test.YtbocdcnkmcejjaaDoorFns
namespace Go.Proofs.YtbocdcnkmcejjaaDoor
open Go Go.Eng
theorem wr8 {x : Int} (h1 : 0 ≤ x) (h2 : x < 256) : wr .u8 x = x := by
  simp only [wr]; omega
theorem wr64 {x : Int} (h1 : -9223372036854775808 ≤ x) (h2 : x < 9223372036854775808) : wr .i64 x = x := by
  simp only [wr, sgn]
  cases h : decide (9223372036854775808 ≤ x % 18446744073709551616) with
  | true => simp only [decide_eq_true_eq] at h; simp only [cond_true]; omega
  | false => simp only [decide_eq_false_iff_not] at h; simp only [cond_false]; omega
def ofV (a b : Int) : Int := bif decide (3 < a) then 0 else bif decide (12 < b) then 0 else wr .u8 (wr .u8 (a * 13) + b)
def ofE (a b : Int) : Int := bif decide (3 < a) then 2 else bif decide (12 < b) then 2 else 0
theorem of_eval (a b : Int) : evalP tabR 13 Tryd.f13 [.int .u8 a, .int .u8 b] = bif decide (3 < a) then some (.tuple [.int .u8 0, .int .i64 2]) else bif decide (13 ≤ wr .i64 b) then some (.tuple [.int .u8 0, .int .i64 2]) else
    some (.tuple [.int .u8 (wr .u8 (wr .u8 (a * 13) + b)), .int .i64 0]) := by kernel_rfl
theorem rof_eval (a b : Int) : evalP tabR 29 Tryd.f29 [.int .u8 a, .int .u8 b] = bif decide (3 < a) then some (.tuple [.int .u8 0, .int .i64 2]) else bif decide (12 < b) then some (.tuple [.int .u8 0, .int .i64 2]) else
    some (.tuple [.int .u8 (wr .u8 (wr .u8 (a * 13) + b)), .int .i64 0]) := by kernel_rfl
theorem of_p {a b : Int} (h : 0 ≤ b ∧ b < 256) : FnPure Tryd.prog 13 [.int .u8 a, .int .u8 b] (.tuple [.int .u8 (ofV a b), .int .i64 (ofE a b)]) := by
  refine pure_at tabR_ok Tryd.func13 (by kernel_rfl) ?_ rfl rfl
  rw [of_eval, wr64 (by omega) (by omega)]
  unfold ofV ofE
  cases decide (3 < a) with
  | true => rfl
  | false =>
    by_cases h12 : 12 < b
    · rw [decide_eq_true h12, decide_eq_true (show 13 ≤ b by omega)]; rfl
    · rw [decide_eq_false h12, decide_eq_false (show ¬ 13 ≤ b by omega)]; rfl
theorem rof_p (a b : Int) : FnPure Tryd.prog 29 [.int .u8 a, .int .u8 b] (.tuple [.int .u8 (ofV a b), .int .i64 (ofE a b)]) := by
  refine pure_at tabR_ok Tryd.func29 (by kernel_rfl) ?_ rfl rfl
  rw [rof_eval]
  unfold ofV ofE
  cases decide (3 < a) <;> cases decide (12 < b) <;> rfl
/-! ### Read -/
noncomputable def rrLp : Code := loopOf 2 Tryd.f31
def rrT : Tm := ⟨mkS [(0, .str), (2, .int .u8), (3, .int .i64), (4, .int .i64)] 0 22, [], []⟩
def rrX : Tm := ⟨mkS [(0, .str), (2, .int .u8), (3, .int .i64)] 0 22, [], []⟩
noncomputable abbrev orcR : Oracle := inl Tryd.prog ftab tabR plainL 100 never never (oracleOf emptyTab) 20
theorem orcR_ok : OracleOk Tryd.prog orcR := inl_ok (oracleOf_ok emptyTab_ok) ftab_ok tabR_ok plainL_ok mixed 20
theorem rr_round (rd : Option Nat) (s : ByteArray) (r e c : Int) : roundT Tryd.prog orcR noLoops 100 0 rd 31 rrLp rrT rrX [.s s, .i r, .i e, .i c] =
    bif decide (c < 52) then cond (inR (wr .u8 c)) (bif beqBs (txt4 (wr .u8 c)).data.toList s.data.toList then some (.ret, [.s s, .i (wr .u8 c), .i 0], []) else some (.normal, [.s s, .i r, .i e, .i (wr .i64 (c + 1))], [])) none
    else some (.exit 0, [.s s, .i r, .i e], []) := by kernel_rfl
theorem own_texts : allN 52 (fun c => eqI (rdV (txt4 (Int.ofNat c))) (Int.ofNat c) && eqI (rdE (txt4 (Int.ofNat c))) 0) = true := by kernel_rfl
theorem all_texts : allN 52 (fun c => eqS (txt4 (Int.ofNat c)) ⟨⟨[sU.getD (c / 13) 0, rU.getD (c % 13) 0]⟩⟩) = true := by kernel_rfl
theorem idx_get : ∀ (l : List UInt8) (x : UInt8), 0 ≤ Lib.indexByte l x → l[(Lib.indexByte l x).toNat]? = some x ∧ (Lib.indexByte l x).toNat < l.length
  | [], x, h => by simp [Lib.indexByte] at h
  | b :: l, x, h => by
    unfold Lib.indexByte at h ⊢
    by_cases hb : (b == x) = true
    · rw [if_pos hb]; exact ⟨by simp [eq_of_beq hb], by simp⟩
    · rw [if_neg hb] at h ⊢
      by_cases hm : (Lib.indexByte l x == -1) = true
      · rw [if_pos hm] at h; omega
      · rw [if_neg hm] at h ⊢
        have hge := Lib.indexByte_ge l x
        have hne : Lib.indexByte l x ≠ -1 := fun e => hm (by rw [e]; rfl)
        obtain ⟨h1, h2⟩ := idx_get l x (by omega)
        rw [show (Lib.indexByte l x + 1).toNat = (Lib.indexByte l x).toNat + 1 by omega]
        exact ⟨by simpa using h1, by simpa using h2⟩
theorem idxI_of (l : List UInt8) (a : UInt8) : idxI ⟨⟨l⟩⟩ a.toNat = Lib.indexByte l a := by
  unfold idxI
  congr 1
  simp
theorem rd_texts {s : ByteArray} (h : ¬ rdE s = 40) : ∃ c : Nat, c < 52 ∧ txt4 (Int.ofNat c) = s := by
  unfold rdE at h
  match hs : s.data.toList with
  | [] => rw [hs] at h; exact absurd rfl h
  | [a] => rw [hs] at h; exact absurd rfl h
  | a :: b :: d :: q => rw [hs] at h; exact absurd rfl h
  | [a, b] =>
    rw [hs] at h
    dsimp only at h
    rw [idxI_of, idxI_of] at h
    by_cases h1 : Lib.indexByte sU a < 0
    · rw [decide_eq_true h1] at h; exact absurd rfl h
    · by_cases h2 : Lib.indexByte rU b < 0
      · rw [decide_eq_false h1, decide_eq_true h2] at h; exact absurd rfl h
      · obtain ⟨a1, a2⟩ := idx_get sU a (by omega)
        obtain ⟨b1, b2⟩ := idx_get rU b (by omega)
        generalize (Lib.indexByte sU a).toNat = i at *
        generalize (Lib.indexByte rU b).toNat = j at *
        have hi : i < 4 := a2
        have hj : j < 13 := b2
        refine ⟨13 * i + j, by omega, ?_⟩
        have ht := eqS_ok (allN_ok all_texts (13 * i + j) (by omega))
        rw [ht, show (13 * i + j) / 13 = i by omega, show (13 * i + j) % 13 = j by omega, List.getD_eq_getElem?_getD, List.getD_eq_getElem?_getD, a1, b1]
        apply ByteArray.ext
        apply Array.ext'
        rw [hs]; rfl
theorem beq_iff {x y : ByteArray} : beqBs x.data.toList y.data.toList = true ↔ x = y := by
  rw [beqBs_eq, beq_iff_eq]
  exact ⟨fun h => ByteArray.ext (Array.ext' h), fun h => by rw [h]⟩
theorem rd_none {s : ByteArray} (he : rdE s = 40) : rdV s = 0 := by
  unfold rdE at he
  unfold rdV
  match hs : s.data.toList with
  | [] => rfl
  | [a] => rfl
  | a :: b :: d :: q => rfl
  | [a, b] =>
    rw [hs] at he
    dsimp only at he ⊢
    cases h1 : decide (idxI ⟨⟨sU⟩⟩ a.toNat < 0) with
    | true => rfl
    | false =>
      rw [h1] at he
      cases h2 : decide (idxI ⟨⟨rU⟩⟩ b.toNat < 0) with
      | true => rfl
      | false => rw [h2] at he; cases he
theorem codes0 : codesOk [] := fun _ h => by cases h
theorem rr_loop (rd : Option Nat) (s : ByteArray) (r e : Int) : ∀ c : Nat, (c ≤ 52 ∧ ∀ i : Nat, i < c → txt4 (Int.ofNat i) ≠ s) →
    SimC Tryd.prog 0 rd (.loop rrLp) (rrT.at [.s s, .i r, .i e, .i (Int.ofNat c)]) (if rdE s = 40 then XE.exit 0 else .ret) (rrX.at (if rdE s = 40 then [.s s, .i r, .i e] else [.s s, .i (rdV s), .i 0])) := by
  refine fun c hc => loop_of_rounds (C := orcR) (L := noLoops) (N := 100) (me := 31) (T := rrT) (T' := rrX) orcR_ok mixed noLoops_ok (by kernel_rfl) (by kernel_rfl) (X := Nat)
    (fun c => [.s s, .i r, .i e, .i (Int.ofNat c)]) (fun c => c ≤ 52 ∧ ∀ i : Nat, i < c → txt4 (Int.ofNat i) ≠ s) (fun c => 52 - c)
    (fun _ => (if rdE s = 40 then XE.exit 0 else .ret, if rdE s = 40 then [.s s, .i r, .i e] else [.s s, .i (rdV s), .i 0])) ?_ c hc
  rintro c ⟨h52, hno⟩
  have h := rr_round rd s r e (Int.ofNat c)
  by_cases hlt : c < 52
  · have w1 : wr .u8 (Int.ofNat c) = Int.ofNat c := wr8 (by simp) (by simp; omega)
    have w2 : wr .i64 (Int.ofNat c + 1) = Int.ofNat (c + 1) := by rw [wr64 (by simp; omega) (by simp; omega)]; rfl
    have hr : inR (Int.ofNat c) = true := decide_eq_true ⟨by simp, by simp; omega⟩
    rw [decide_eq_true (show Int.ofNat c < 52 by simp; omega), cond_true, w1, hr, cond_true, w2] at h
    by_cases hh : txt4 (Int.ofNat c) = s
    · rw [beq_iff.2 hh, cond_true] at h
      have ho := allN_ok own_texts c hlt
      simp only [Bool.and_eq_true] at ho
      rw [hh] at ho
      refine ⟨_, _, _, h, codes0, .inr ⟨by simp, ?_⟩⟩
      rw [eqI_ok ho.1, eqI_ok ho.2]
      rfl
    · have hb : beqBs (txt4 (Int.ofNat c)).data.toList s.data.toList = false := by
        cases hb : beqBs (txt4 (Int.ofNat c)).data.toList s.data.toList with
        | false => rfl
        | true => exact absurd (beq_iff.1 hb) hh
      rw [hb, cond_false] at h
      refine ⟨_, _, _, h, codes0, .inl ⟨rfl, c + 1, rfl, ⟨by omega, fun i hi => ?_⟩, by omega, rfl⟩⟩
      by_cases e : i = c
      · subst e; exact hh
      · exact hno i (by omega)
  · have : c = 52 := by omega
    subst this
    rw [decide_eq_false (show ¬ Int.ofNat 52 < 52 by simp), cond_false] at h
    have he : rdE s = 40 := by
      by_cases h : rdE s = 40
      · exact h
      · obtain ⟨i, h1, h2⟩ := rd_texts h
        exact absurd h2 (hno i h1)
    exact ⟨_, _, _, h, codes0, .inr ⟨by simp, by rw [if_pos he, if_pos he]⟩⟩
noncomputable def rrTree : List PV → Fin
  | [.s s, .i r, .i e, .i c] => .br (pB (c = Int.ofNat 0)) (.br (decide (rdE s = 40)) (.leaf (.exit 0) (rrX.at [.s s, .i r, .i e])) (.leaf .ret (rrX.at [.s s, .i (rdV s), .i 0]))) .no
  | _ => .no
noncomputable def rrSum : LoopSum := lsumF 0 rrT rrLp rrTree
theorem rrSum_ok : LoopOk Tryd.prog rrSum := by
  refine lsumF_ok (by kernel_rfl) (fun rd ps e1 s1 h => ?_)
  unfold rrTree at h
  split at h
  · rename_i s r e c
    simp only [Fin.pick] at h
    cases hc : pB (c = Int.ofNat 0) with
    | false => rw [hc] at h; cases h
    | true =>
      rw [hc, cond_true] at h
      rw [pB_iff] at hc
      subst hc
      have := rr_loop rd s r e 0 ⟨by omega, fun i hi => by omega⟩
      by_cases he : rdE s = 40
      · rw [decide_eq_true he] at h; rw [if_pos he, if_pos he] at this; cases h; exact this
      · rw [decide_eq_false he] at h; rw [if_neg he, if_neg he] at this; cases h; exact this
  · cases h
noncomputable def rrL : Loops := sums (fun n => match n with | 2 => some rrSum | _ => none)
theorem rrL_ok : loopsOk Tryd.prog rrL := by
  intro n g hg
  simp only [rrL, sums] at hg
  split at hg
  · cases hg; exact rrSum_ok
  · cases hg
theorem rread_eval (s : ByteArray) : evalFn Tryd.prog orcR rrL 100 31 Tryd.f31 [.str s] [] (fun v _ => some v) = cond (codesB [(rrLp, rrLp)]) (bif pB ((0 : Int) = Int.ofNat 0) then bif decide (rdE s = 40) then some (.tuple [.int .u8 0, .int .i64 40]) else some (.tuple [.int .u8 (rdV s), .int .i64 0]) else none) none := by kernel_rfl
theorem rread_p (s : ByteArray) : FnPure Tryd.prog 31 [.str s] (.tuple [.int .u8 (rdV s), .int .i64 (rdE s)]) := by
  refine fnPure_of_eval (N := 100) orcR_ok mixed Tryd.func31 (by kernel_rfl) rrL_ok ?_ rfl rfl
  have hc : codesB [(rrLp, rrLp)] = true := by rw [codesB_iff]; intro x hx; simp at hx; rw [hx]
  rw [rread_eval, hc, cond_true, pB_iff.2 (show (0 : Int) = Int.ofNat 0 from rfl), cond_true]
  by_cases he : rdE s = 40
  · rw [decide_eq_true he, rd_none he, he]; rfl
  · rw [decide_eq_false he, cond_false]
    obtain ⟨i, h1, h2⟩ := rd_texts he
    have ho := allN_ok own_texts i h1
    simp only [Bool.and_eq_true] at ho
    rw [h2] at ho
    rw [eqI_ok ho.2]
def gOf : List V → Option (Bool × V)
  | [.int .u8 a, .int .u8 b] => some (inR b, .tuple [.int .u8 (ofV a b), .int .i64 (ofE a b)])
  | _ => none
def tabT : PTab := addTab 31 gRead (addTab 29 gOf (addTab 13 gOf tabR))
theorem tabT_ok : PTabOk Tryd.prog tabT := by
  refine addTab_ok ?_ (addTab_ok ?_ (addTab_ok ?_ tabR_ok))
  · intro args c v h _
    unfold gRead at h
    split at h
    · cases h; exact rread_p _
    · cases h
  · intro args c v h _
    unfold gOf at h
    split at h
    · cases h; exact rof_p _ _
    · cases h
  · intro args c v h hc
    unfold gOf at h
    split at h
    · cases h; simp only [inR, decide_eq_true_eq] at hc; exact of_p hc
    · cases h
end Go.Proofs.YtbocdcnkmcejjaaDoor
