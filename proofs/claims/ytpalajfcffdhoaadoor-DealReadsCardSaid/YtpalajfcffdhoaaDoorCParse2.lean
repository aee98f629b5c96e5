/- Chapter 4: Parse's contract. -/
import Derived.Test.YtpalajfcffdhoaaDoorCSplit2
namespace Go.Proofs.YtpalajfcffdhoaaDoor.N4
open Go Go.Eng
noncomputable def paTree : List PV → Fin
  | [.i z, .i e, .i m, .i i, .s p, .i la, .s s0, .s s1, .s s2, .s s3, .i i2, .i n, .i j] => .br (pB (z = 0 ∧ e = 0 ∧ 0 ≤ m ∧ m < 4503599627370496 ∧ 0 ≤ i ∧ i ≤ 3 ∧ la = 13 ∧ n = Int.ofNat p.data.toList.length ∧ p.data.toList.length ≤ 60 ∧ j = 0))
      (.br (pp (3 - i.toNat) p.data.toList 13 m.toNat).1 (.leaf (.exit 2) (paX.at [.i 0, .i 0, .i ((pp (3 - i.toNat) p.data.toList 13 m.toNat).2 : Nat), .s s0, .s s1, .s s2, .s s3, .i i2]))
        (.leaf .ret (paX.at [.i 0, .i 40, .i ((pp (3 - i.toNat) p.data.toList 13 m.toNat).2 : Nat), .s s0, .s s1, .s s2, .s s3, .i i2]))) .no
  | _ => .no
noncomputable def paSum : LoopSum := lsumF 0 paT paLp paTree
theorem paSum_ok : LoopOk Tryd.prog paSum := by
  refine lsumF_ok (by kernel_rfl) (fun rd ps e1 st1 h => ?_)
  unfold paTree at h
  split at h
  · rename_i z e m i p la s0 s1 s2 s3 i2 n j
    simp only [Fin.pick] at h
    cases hc : pB (z = 0 ∧ e = 0 ∧ 0 ≤ m ∧ m < 4503599627370496 ∧ 0 ≤ i ∧ i ≤ 3 ∧ la = 13 ∧ n = Int.ofNat p.data.toList.length ∧ p.data.toList.length ≤ 60 ∧ j = 0) with
    | false => rw [hc] at h; cases h
    | true =>
      rw [hc, cond_true] at h
      rw [pB_iff] at hc
      obtain ⟨rfl, rfl, h1, h2, h3, h4, rfl, rfl, h5, rfl⟩ := hc
      obtain ⟨k, rfl⟩ : ∃ k : Nat, m = k := ⟨m.toNat, by omega⟩
      obtain ⟨s, hs1, rfl⟩ : ∃ s : Nat, s ≤ 3 ∧ i = ((3 - s : Nat) : Int) := ⟨3 - i.toNat, by omega, by omega⟩
      rw [show 3 - (((3 - s : Nat) : Int)).toNat = s by omega, show ((k : Int)).toNat = k by omega] at h
      have main := pa_loop rd s hs1 p.data.toList h5 i2 s0 s1 s2 s3 (p.data.toList, 13, k) ⟨⟨[], rfl⟩, Nat.le_refl 13, by dsimp only; omega⟩
      dsimp only at main
      rw [Nat.sub_self] at main
      cases hp : (pp s p.data.toList 13 k).1 with
      | true => rw [hp] at h main; cases h; exact main
      | false => rw [hp] at h main; cases h; exact main
  · cases h
noncomputable def paL : Loops := sums (fun n => match n with | 11 => some paSum | _ => none)
theorem paL_ok : loopsOk Tryd.prog paL := by
  intro n g hg
  simp only [paL, sums] at hg
  split at hg
  · cases hg; exact paSum_ok
  · cases hg
def paErr : Option V := some (.tuple [.int .u64 0, .int .i64 40])
noncomputable def paC (i : Int) (l : List UInt8) (m : Int) (K : Int → Option V) : Option V := cond (codesB [(paLp, paLp)]) (bif pB ((0 : Int) = 0 ∧ (0 : Int) = 0 ∧ 0 ≤ m ∧ m < 4503599627370496 ∧ 0 ≤ i ∧ i ≤ 3 ∧ (13 : Int) = 13 ∧ Int.ofNat l.length = Int.ofNat l.length ∧ l.length ≤ 60 ∧ (0 : Int) = 0) then
    bif (pp (3 - i.toNat) l 13 m.toNat).1 then K ((pp (3 - i.toNat) l 13 m.toNat).2 : Nat) else paErr else none) none
def nI (s : ByteArray) : Int := foldI minI (wr .i64 (cntI s 46 + 1)) [wr .i64 (Int.ofNat s.data.toList.length + 1)]
theorem pa_eval (s : ByteArray) : evalFn Tryd.prog (orcS tabI spL) paL 100 16 Tryd.f16 [.str s] [] (fun v _ => some v) =
    bif decide (55 < Int.ofNat s.data.toList.length) then paErr else bif !decide (cntI s 46 = 3) then paErr else bif decide (0 ≤ nI s ∧ nI s ≤ nI s ∧ nI s * 17 ≤ 140737488355328) then
      cond (codesB [(spLp, spLp)]) (bif pB ((⟨#[46]⟩ : ByteArray) = ⟨⟨[46]⟩⟩ ∧ wr .i64 (nI s - 1) = 3 ∧ (0 : Int) = 0 ∧ List.replicate (nI s).toNat (⟨#[]⟩ : ByteArray) = [⟨#[]⟩, ⟨#[]⟩, ⟨#[]⟩, ⟨#[]⟩] ∧ s.data.toList.count 46 = 3 ∧ s.data.toList.length ≤ 60) then
        paC 0 (cut1 s.data.toList) 0 fun m3 => paC 1 (cut1 (rest1 s.data.toList)) m3 fun m2 => paC 2 (cut1 (rest1 (rest1 s.data.toList))) m2 fun m1 => paC 3 (rest1 (rest1 (rest1 s.data.toList))) m1 fun m0 =>
          some (.tuple [.int .u64 m0, .int .i64 0])
      else none) none
    else none := by kernel_rfl
def ppK (s : Nat) (l : List UInt8) (m : Nat) (K : Nat → Option Nat) : Option Nat := if (pp s l 13 m).1 then K (pp s l 13 m).2 else none
/-- The set with a text. -/
def parseN (l : List UInt8) : Option Nat := if 55 < l.length ∨ l.count 46 ≠ 3 then none else
  ppK 3 (cut1 l) 0 fun m3 => ppK 2 (cut1 (rest1 l)) m3 fun m2 => ppK 1 (cut1 (rest1 (rest1 l))) m2 fun m1 => ppK 0 (rest1 (rest1 (rest1 l))) m1 some
theorem pp_lt {s : Nat} (hs : s ≤ 3) : ∀ {l : List UInt8} {la m : Nat}, la ≤ 13 → m < 4503599627370496 → (pp s l la m).2 < 4503599627370496
  | [], la, m, _, hm => hm
  | b :: r, la, m, hl, hm => by
    simp only [pp]
    split
    · exact hm
    · rename_i hn
      exact pp_lt hs (by omega) (or_bit hm (by omega)).2
def resP : Option Nat → V
  | some m => .tuple [.int .u64 (m : Nat), .int .i64 0]
  | none => .tuple [.int .u64 0, .int .i64 40]
theorem codesP : codesB [(paLp, paLp)] = true := by rw [codesB_iff]; intro x hx; simp at hx; rw [hx]
theorem codesS : codesB [(spLp, spLp)] = true := by rw [codesB_iff]; intro x hx; simp at hx; rw [hx]
theorem paC_is {i : Nat} {s : Nat} (hi : i = 3 - s) (hs : s ≤ 3) {l : List UInt8} {m : Nat} (hl : l.length ≤ 60) (hm : m < 4503599627370496) {K : Int → Option V} {K' : Nat → Option Nat} (hK : ∀ m' : Nat, m' < 4503599627370496 → K (m' : Int) = some (resP (K' m'))) :
    paC (i : Int) l (m : Int) K = some (resP (ppK s l m K')) := by
  unfold paC ppK
  rw [codesP, pB_iff.2 ⟨rfl, rfl, by omega, by omega, by omega, by omega, rfl, rfl, hl, rfl⟩, show 3 - ((i : Int)).toNat = s by omega, show ((m : Int)).toNat = m by omega]
  have hlt := pp_lt hs (l := l) (la := 13) (m := m) (by omega) hm
  cases hp : (pp s l 13 m).1 with
  | true => simp only [cond_true]; rw [hK _ hlt]; rfl
  | false => rfl
theorem rest_len : ∀ l : List UInt8, (rest1 l).length ≤ l.length
  | [] => by simp [rest1]
  | b :: l => by
    unfold rest1
    have := rest_len l
    split <;> simp <;> omega
theorem cut_len : ∀ l : List UInt8, (cut1 l).length ≤ l.length
  | [] => by simp [cut1]
  | b :: l => by
    unfold cut1
    have := cut_len l
    split <;> simp; omega
theorem parse_p (s : ByteArray) : FnPure Tryd.prog 16 [.str s] (resP (parseN s.data.toList)) := by
  refine fnPure_of_eval (N := 100) (orcS_ok tabI_ok spL_ok) mixed Tryd.func16 (by kernel_rfl) paL_ok ?_ rfl (by unfold resP; split <;> rfl)
  rw [pa_eval]
  generalize hl : s.data.toList = l
  have hcnt : cntI s 46 = ((l.count 46 : Nat) : Int) := by unfold cntI Lib.countByte; rw [hl]
  unfold parseN
  by_cases h1 : 55 < l.length
  · rw [decide_eq_true (show (55 : Int) < Int.ofNat l.length by simp; omega), if_pos (.inl h1)]; rfl
  · rw [decide_eq_false (show ¬ (55 : Int) < Int.ofNat l.length by simp; omega), hcnt]
    by_cases h2 : l.count 46 = 3
    · have hle : l.count 46 ≤ l.length := List.count_le_length
      have hn : nI s = 4 := by
        unfold nI
        rw [hcnt, hl, h2, wr64 (x := ((3 : Nat) : Int) + 1) (by omega) (by omega), wr64 (by simp; omega) (by simp; omega)]
        simp only [foldI, minI]
        rw [decide_eq_false (by simp; omega)]
        rfl
      have r1 := rest_len l; have r2 := rest_len (rest1 l); have r3 := rest_len (rest1 (rest1 l))
      have c1 := cut_len l; have c2 := cut_len (rest1 l); have c3 := cut_len (rest1 (rest1 l))
      rw [if_neg (by omega), hn, h2, decide_eq_true (show ((3 : Nat) : Int) = 3 from rfl), decide_eq_true (show (0 : Int) ≤ 4 ∧ (4 : Int) ≤ 4 ∧ (4 : Int) * 17 ≤ 140737488355328 by decide), codesS, pB_iff.2 ⟨rfl, rfl, rfl, rfl, rfl, by omega⟩]
      simp only [Bool.not_true, cond_false, cond_true]
      refine paC_is (i := 0) (s := 3) (m := 0) rfl (by decide) (by omega) (by decide) fun m3 h3 => ?_
      refine paC_is (i := 1) (s := 2) rfl (by decide) (by omega) h3 fun m2 h2 => ?_
      refine paC_is (i := 2) (s := 1) rfl (by decide) (by omega) h2 fun m1 h1 => ?_
      exact paC_is (i := 3) (s := 0) rfl (by decide) (by omega) h1 fun m0 h0 => rfl
    · rw [if_pos (.inr h2), decide_eq_false (show ¬ ((l.count 46 : Nat) : Int) = 3 by omega)]; rfl
end Go.Proofs.YtpalajfcffdhoaaDoor.N4
