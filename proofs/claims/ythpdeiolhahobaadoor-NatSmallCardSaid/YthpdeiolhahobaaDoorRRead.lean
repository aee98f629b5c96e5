/- Texts merged: RRead, RRead2. -/
import Derived.Test.YthpdeiolhahobaaDoorR14
import Derived.Test.YthpdeiolhahobaaDoorRead2
/- Chapter 2, the reference: Read: the states of its loop. -/
namespace Go.Proofs.YthpdeiolhahobaaDoor
open Go Go.Eng
noncomputable def rrLp : Code := loopOf 5 Tryd.f29
def rrT : Tm := ⟨mkS [(0, .str), (2, .ptr 0 0), (3, .int .i64), (4, .gs 1), (5, .int .i64)] 0 51, [.own 27 z4, .grow false 3 1 i64s], []⟩
def rrX : Tm := ⟨mkS [(2, .ptr 0 0), (3, .int .i64), (4, .gs 1)] 0 51, [.own 27 z4, .grow false 3 1 i64s], []⟩
def gParts (N : Int → Int) (E : Int → Int) (ok : List Int → Bool) (vl : List Int → Int) : List V → List Blk → Option (Bool × V × List Blk)
  | [.gs 0], [.rs _ 1 (.ints .i64 xs)] => some (ok xs, .tuple [nW (N (vl xs)), .int .i64 (E (vl xs))], [])
  | _, _ => none
def okP (xs : List Int) : Bool := isD xs && decide (xs.length ≤ 999999)
def hTabP : HTab := addH 47 (gParts ptZ ptE okP val) (hTabE E0)
theorem hTabP_ok : HTabOk Tryd.prog hTabP := by
  refine addH_ok ?_ hTabE_ok
  intro args h c v nb hq hc
  unfold gParts at hq
  split at hq
  · rename_i n1 xs
    cases hq; exact ⟨.of Tryd.func47 (by kernel_rfl), parts_fn n1 hc⟩
  · cases hq
def domP : FuncId → Bool := fun f => Nat.beq f 47 || domE f
noncomputable abbrev orcPt (LL : FuncId → Loops) : Oracle := inl Tryd.prog ftab tabA LL 200 never domP (orElse domT (resOrc rTab) (hOrcP nrI hTabP)) 20
theorem orcPt_ok {LL : FuncId → Loops} (hL : ∀ f, loopsOk Tryd.prog (LL f)) : OracleOk Tryd.prog (orcPt LL) := inl_ok (orElse_ok (resOrc_ok rTab_ok) (hOrcP_ok hTabP_ok)) ftab_ok tabA_ok hL mixed 20
end Go.Proofs.YthpdeiolhahobaaDoor

/- Chapter 2, the reference: Read's loop. -/
namespace Go.Proofs.YthpdeiolhahobaaDoor
open Go Go.Eng
def rrD (b : UInt8) : Int := wr .i64 (wr .u8 ((b.toNat : Int) - 48))
noncomputable def rrR (e i : Int) (zs : List Int) (s : ByteArray) : RT :=
  bif decide (0 ≤ i) then bif decide (0 ≤ i) then oK s.data.toList[i.toNat]? (fun b => bif decide ((b.toNat : Int) < 48) then some (.ret, [.i 20, .l zs], []) else
    bif decide (0 ≤ i) then oK s.data.toList[i.toNat]? (fun b => bif decide (57 < (b.toNat : Int)) then some (.ret, [.i 20, .l zs], []) else
      bif decide (0 ≤ i) then oK s.data.toList[i.toNat]? (fun b => bif fitL (zs ++ [rrD b]) then some (.normal, [.s s, .i e, .i (wr .i64 (i - 1)), .l (zs ++ [rrD b])], []) else none) else none) else none) else none
  else some (.exit 0, [.i e, .l zs], [])
theorem rr_round (rd : Option Nat) (s : ByteArray) (e i : Int) (zs : List Int) : roundT Tryd.prog (orcP tabA plainL) noLoops 200 0 rd 29 rrLp rrT rrX [.s s, .i e, .i i, .l zs] = rrR e i zs s := by kernel_rfl
/-- Digits are read from the back. -/
def rrW : List UInt8 → List Int → Bool × List Int
  | [], zs => (true, zs)
  | b :: r, zs => bif isDig b then rrW r (zs ++ [((b.toNat - 48 : Nat) : Int)]) else (false, zs)
theorem rr_loop (rd : Option Nat) (s : ByteArray) : ∀ x : List UInt8 × List Int, ((∃ q, s.data.toList = x.1.reverse ++ q) ∧ x.2.length + x.1.length ≤ 999999) →
    SimC Tryd.prog 0 rd (.loop rrLp) (rrT.at [.s s, .i 0, .i ((x.1.length : Int) - 1), .l x.2]) (bif (rrW x.1 x.2).1 then .exit 0 else .ret) (rrX.at [.i (bif (rrW x.1 x.2).1 then 0 else 20), .l (rrW x.1 x.2).2]) := by
  refine loop_of_rounds (C := orcP tabA plainL) (L := noLoops) (N := 200) (me := 29) (T := rrT) (T' := rrX) (orcP_ok tabA_ok plainL_ok) mixed noLoops_ok (by kernel_rfl) (by kernel_rfl) (X := List UInt8 × List Int)
    (fun x => [.s s, .i 0, .i ((x.1.length : Int) - 1), .l x.2]) (fun x => (∃ q, s.data.toList = x.1.reverse ++ q) ∧ x.2.length + x.1.length ≤ 999999) (fun x => x.1.length)
    (fun x => ((bif (rrW x.1 x.2).1 then .exit 0 else .ret), [.i (bif (rrW x.1 x.2).1 then 0 else 20), .l (rrW x.1 x.2).2])) ?_
  rintro ⟨r, zs⟩ ⟨⟨q, hq⟩, hl⟩
  dsimp only at hq hl ⊢
  have h := rr_round rd s 0 ((r.length : Int) - 1) zs
  unfold rrR at h
  cases r with
  | nil =>
    rw [decide_eq_false (show ¬ 0 ≤ (([] : List UInt8).length : Int) - 1 by simp)] at h
    exact ⟨_, _, _, h, codes0, .inr ⟨by simp, rfl⟩⟩
  | cons b r =>
    simp only [List.length_cons] at hl h ⊢
    rw [List.reverse_cons, List.append_assoc] at hq
    have hb : s.data.toList[r.length]? = some b := by
      rw [hq, List.getElem?_append_right (by simp), List.length_reverse, Nat.sub_self]; rfl
    rw [decide_eq_true (show 0 ≤ ((r.length + 1 : Nat) : Int) - 1 by omega), show (((r.length + 1 : Nat) : Int) - 1).toNat = r.length by omega, hb] at h
    rw [cond_true, cond_true, oK_some, oK_some, cond_true, oK_some, cond_true] at h
    by_cases h1 : b.toNat < 48
    · rw [decide_eq_true (show (b.toNat : Int) < 48 by omega)] at h
      have hd : isDig b = false := by unfold isDig; rw [decide_eq_false (by omega)]
      simp only [rrW, hd, cond_false]
      exact ⟨_, _, _, h, codes0, .inr ⟨by simp, rfl⟩⟩
    · rw [decide_eq_false (show ¬ (b.toNat : Int) < 48 by omega), cond_false] at h
      by_cases h2 : 57 < b.toNat
      · rw [decide_eq_true (show 57 < (b.toNat : Int) by omega)] at h
        have hd : isDig b = false := by unfold isDig; rw [decide_eq_false (by omega)]
        simp only [rrW, hd, cond_false]
        exact ⟨_, _, _, h, codes0, .inr ⟨by simp, rfl⟩⟩
      · have hd : isDig b = true := by unfold isDig; rw [decide_eq_true (by omega)]
        have hr : rrD b = ((b.toNat - 48 : Nat) : Int) := by unfold rrD; rw [show wr .u8 ((b.toNat : Int) - 48) = ((b.toNat - 48 : Nat) : Int) by simp only [wr]; omega, wr64 (by omega) (by omega)]
        rw [decide_eq_false (show ¬ 57 < (b.toNat : Int) by omega), cond_false, hr, fitL_true (by rw [List.length_append, List.length_singleton]; omega), cond_true, wr64 (by omega) (by omega)] at h
        simp only [rrW, hd, cond_true]
        refine ⟨_, _, _, h, codes0, .inl ⟨rfl, (r, zs ++ [((b.toNat - 48 : Nat) : Int)]), ?_, ⟨⟨[b] ++ q, by rw [hq]⟩, by dsimp only; rw [List.length_append, List.length_singleton]; omega⟩, by simp, rfl⟩⟩
        dsimp only
        rw [show ((r.length + 1 : Nat) : Int) - 1 - 1 = (r.length : Int) - 1 by omega]
noncomputable def rrTree : List PV → Fin
  | [.s s, .i e, .i i, .l zs] => .br (decide (e = 0 ∧ i = Int.ofNat (lenS s) - 1 ∧ zs.length = 0 ∧ lenS s ≤ 999999)) (.br (rrW s.data.toList.reverse []).1 (.leaf (.exit 0) (rrX.at [.i 0, .l (rrW s.data.toList.reverse []).2])) (.leaf .ret (rrX.at [.i 20, .l (rrW s.data.toList.reverse []).2]))) .no
  | _ => .no
noncomputable def rrL : Loops := sums (fun n => match n with | 5 => some (lsumF 0 rrT rrLp rrTree) | _ => none)
theorem rrL_ok : loopsOk Tryd.prog rrL := by
  intro n g hg
  simp only [rrL, sums] at hg
  split at hg
  · cases hg
    refine lsumF_ok (by kernel_rfl) (fun rd ps e1 st1 hq => ?_)
    unfold rrTree at hq
    split at hq
    · rename_i s e i zs
      simp only [Fin.pick] at hq
      cases hc : decide (e = 0 ∧ i = Int.ofNat (lenS s) - 1 ∧ zs.length = 0 ∧ lenS s ≤ 999999) with
      | false => rw [hc] at hq; cases hq
      | true =>
        rw [hc, cond_true] at hq
        rw [decide_eq_true_eq] at hc
        obtain ⟨rfl, rfl, hz, hlen⟩ := hc
        have hz := List.eq_nil_of_length_eq_zero hz
        subst hz
        have hl := rr_loop rd s (s.data.toList.reverse, []) ⟨⟨[], by simp⟩, by rw [List.length_reverse]; show 0 + lenS s ≤ _; omega⟩
        dsimp only at hl
        rw [List.length_reverse] at hl
        cases hr : (rrW s.data.toList.reverse []).1 with
        | true =>
          rw [hr, cond_true] at hq; cases hq
          rw [hr] at hl; exact hl
        | false =>
          rw [hr, cond_false] at hq; cases hq
          rw [hr] at hl; exact hl
    · cases hq
  · cases hg
noncomputable abbrev orcQ (HT : HTab) : Oracle := inl Tryd.prog ftab tabA plainL 200 never domP (orElse domT (resOrc rTab) (hOrcP nrI HT)) 20
end Go.Proofs.YthpdeiolhahobaaDoor
