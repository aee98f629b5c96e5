/- Texts merged: CSplit, CSplit2. -/
import Derived.Test.YtpalajfcffdhoaaGreatDoorCWrite3
/- Chapter 4: a string cut at its points: one round. -/
namespace Go.Proofs.YtpalajfcffdhoaaGreatDoor.N4
open Go Go.Eng
theorem codes0 : codesOk [] := fun x h => by cases h
def idxI (s : ByteArray) (c : Int) : Int := Lib.indexByte s.data.toList c.toNat.toUInt8
def gIdx : List V → Option (Bool × V)
  | [.str s, .int .u8 c] => some (true, .int .i64 (idxI s c))
  | _ => none
def cntI (s : ByteArray) (c : UInt8) : Int := Lib.countByte s.data.toList c
def gCount : List V → Option (Bool × V)
  | [.str s, .str ⟨⟨[c]⟩⟩] => some (true, .int .i64 (cntI s c))
  | _ => none
def gIdx1 : List V → Option (Bool × V)
  | [.str s, .str ⟨⟨[c]⟩⟩] => some (true, .int .i64 (idxI s c.toNat))
  | _ => none
def tabI : PTab := addTab 101 gCount (addTab 121 gIdx1 (addTab 102 gIdx tabO))
theorem tabI_ok : PTabOk Tryz.prog tabI := by
  refine addTab_ok ?_ (addTab_ok ?_ (addTab_ok ?_ tabO_ok))
  · intro args c v h _
    unfold gCount at h
    split at h
    · cases h
      exact pure_of_same (.of Tryz.func101 (by kernel_rfl)) rfl rfl fun w => Tryz.strings_Count_one _ _ w
    · cases h
  · intro args c v h _
    unfold gIdx1 at h
    split at h
    · rename_i s c
      cases h
      have e : idxI s (c.toNat : Int) = Lib.indexByte s.data.toList c := by unfold idxI; simp
      rw [e]
      exact pure_of_same (.of Tryz.func121 (by kernel_rfl)) rfl rfl fun w => Tryz.strings_Index_one _ _ w
    · cases h
  · intro args c v h _
    unfold gIdx at h
    split at h
    · cases h
      exact pure_of_same (.of Tryz.func102 (by kernel_rfl)) rfl rfl fun w => Tryz.strings_IndexByte _ _ w
    · cases h
noncomputable def spLp : Code := loopOf 11 Tryz.f100
def spT : Tm := ⟨mkS [(0, .str), (1, .str), (2, .lit .i64 0), (3, .int .i64), (9, .gs 1), (10, .int .i64)] 0 66, [.own 85 .strs, .grow true 9 1 .strs], []⟩
noncomputable def spR (n i : Int) (k : Int) (s : ByteArray) (ps ss : List ByteArray) : RT := bif decide (i < n) then bif decide (k < 0) then some (.exit 0, [.s s, .s ⟨⟨[46]⟩⟩, .i n, .i i, .ss ps, .ss ss], []) else
    bif decide (0 ≤ (0 : Int) ∧ 0 ≤ wr .i64 (k + 0) ∧ wr .i64 (k + 0) ≤ Int.ofNat s.data.toList.length) then bif decide (0 ≤ i ∧ i < Int.ofNat ss.length) then bif decide (i.toNat < ss.length) then
      bif decide (0 ≤ wr .i64 (k + 1) ∧ wr .i64 (k + 1) ≤ Int.ofNat s.data.toList.length ∧ Int.ofNat s.data.toList.length ≤ Int.ofNat s.data.toList.length) then
        some (.normal, [.s (extS s (wr .i64 (k + 1)).toNat (Int.ofNat s.data.toList.length).toNat), .s ⟨⟨[46]⟩⟩, .i n, .i (wr .i64 (i + 1)), .ss ps, .ss (ss.set i.toNat (extS s (0 : Int).toNat (wr .i64 (k + 0)).toNat))], [])
      else none else none else none else none
  else some (.exit 0, [.s s, .s ⟨⟨[46]⟩⟩, .i n, .i i, .ss ps, .ss ss], [])
theorem sp_round (rd : Option Nat) (s : ByteArray) (n i : Int) (ps ss : List ByteArray) : roundT Tryz.prog (orcS tabI plainL) noLoops 100 1 rd 100 spLp spT spT [.s s, .s ⟨⟨[46]⟩⟩, .i n, .i i, .ss ps, .ss ss] = spR n i (idxI s 46) s ps ss := by kernel_rfl
end Go.Proofs.YtpalajfcffdhoaaGreatDoor.N4

/- Chapter 4: a string with three points is cut into four parts. -/
namespace Go.Proofs.YtpalajfcffdhoaaGreatDoor.N4
open Go Go.Eng
def cut1 : List UInt8 → List UInt8
  | [] => []
  | b :: l => if b == 46 then [] else b :: cut1 l
def rest1 : List UInt8 → List UInt8
  | [] => []
  | b :: l => if b == 46 then l else rest1 l
theorem cut_eq : ∀ {l : List UInt8}, 0 < l.count 46 → l = cut1 l ++ 46 :: rest1 l ∧ Lib.indexByte l 46 = ((cut1 l).length : Int) ∧ l.count 46 = (rest1 l).count 46 + 1
  | [], h => by simp at h
  | b :: l, h => by
    unfold cut1 rest1 Lib.indexByte
    by_cases hb : (b == 46) = true
    · have : b = 46 := by simpa using hb
      subst this
      simp
    · have hb' : (b == 46) = false := by simpa using hb
      rw [List.count_cons, hb'] at h
      simp only [Bool.false_eq_true, if_false, Nat.add_zero] at h
      obtain ⟨h1, h2, h3⟩ := cut_eq h
      simp only [hb', Bool.false_eq_true, if_false]
      refine ⟨?_, ?_, ?_⟩
      · conv => lhs; rw [h1]
        rfl
      · rw [h2]
        rw [if_neg (by simp)]
        simp
      · rw [List.count_cons, hb', h3]; simp
theorem idx_bA (l : List UInt8) : idxI (bA l) 46 = Lib.indexByte l 46 := rfl
def spF : Nat → Nat → List UInt8 → List ByteArray → List UInt8 × List ByteArray
  | 0, _, l, ss => (l, ss)
  | k + 1, i, l, ss => spF k (i + 1) (rest1 l) (ss.set i (bA (cut1 l)))
theorem sp_step {i : Nat} {l : List UInt8} {ps ss : List ByteArray} (hi : i < 3) (hs : ss.length = 4) (hl : l.length ≤ 60) (hc : 0 < l.count 46) :
    spR 3 i (idxI (bA l) 46) (bA l) ps ss = some (.normal, [.s (bA (rest1 l)), .s ⟨⟨[46]⟩⟩, .i 3, .i ((i + 1 : Nat) : Int), .ss ps, .ss (ss.set i (bA (cut1 l)))], []) ∧ (rest1 l).length ≤ 60 ∧ (rest1 l).count 46 = l.count 46 - 1 := by
  obtain ⟨h1, h2, h3⟩ := cut_eq hc
  have hlen : l.length = (cut1 l).length + (rest1 l).length + 1 := by
    have := congrArg List.length h1
    simp only [List.length_append, List.length_cons] at this
    omega
  rw [idx_bA, h2]
  unfold spR
  have w0 : wr .i64 (((cut1 l).length : Int) + 0) = ((cut1 l).length : Int) := by rw [wr64 (by omega) (by omega)]; omega
  have w1 : wr .i64 (((cut1 l).length : Int) + 1) = (((cut1 l).length + 1 : Nat) : Int) := by rw [wr64 (by omega) (by omega)]; omega
  have wi : wr .i64 ((i : Int) + 1) = ((i + 1 : Nat) : Int) := by rw [wr64 (by omega) (by omega)]; omega
  have hd : (bA l).data.toList = l := rfl
  rw [w0, w1, wi, hd, decide_eq_true (show (i : Int) < 3 by omega), decide_eq_false (show ¬ ((cut1 l).length : Int) < 0 by omega), decide_eq_true (show 0 ≤ (0 : Int) ∧ 0 ≤ ((cut1 l).length : Int) ∧ ((cut1 l).length : Int) ≤ Int.ofNat l.length by simp; omega),
    decide_eq_true (show 0 ≤ (i : Int) ∧ (i : Int) < Int.ofNat ss.length by simp; omega), show ((i : Int)).toNat = i by omega, decide_eq_true (show i < ss.length by omega),
    decide_eq_true (show 0 ≤ (((cut1 l).length + 1 : Nat) : Int) ∧ (((cut1 l).length + 1 : Nat) : Int) ≤ Int.ofNat l.length ∧ Int.ofNat l.length ≤ Int.ofNat l.length by simp; omega)]
  have e1 : extS (bA l) (0 : Int).toNat (((cut1 l).length : Int)).toNat = bA (cut1 l) := by
    unfold extS bA
    have : l.take (cut1 l).length = cut1 l := by
      rw [show l.take (cut1 l).length = (cut1 l ++ 46 :: rest1 l).take (cut1 l).length from congrArg _ h1]
      simp
    simp only [Int.toNat_natCast, Int.toNat_zero, Nat.sub_zero, List.drop_zero]
    rw [this]
  have e2 : extS (bA l) ((((cut1 l).length + 1 : Nat) : Int)).toNat (Int.ofNat l.length).toNat = bA (rest1 l) := by
    unfold extS bA
    have : (l.drop ((cut1 l).length + 1)) = rest1 l := by
      rw [show l.drop ((cut1 l).length + 1) = (cut1 l ++ 46 :: rest1 l).drop ((cut1 l).length + 1) from congrArg _ h1, List.drop_append]
      simp
    rw [show (((((cut1 l).length + 1 : Nat) : Int))).toNat = (cut1 l).length + 1 by omega, show (Int.ofNat l.length).toNat = l.length from rfl, this, List.take_of_length_le (by omega)]
  rw [e1, e2]
  exact ⟨rfl, by omega, by omega⟩
theorem sp_loop (rd : Option Nat) (ps : List ByteArray) : ∀ x : Nat × List UInt8 × List ByteArray, (x.1 ≤ 3 ∧ x.2.1.count 46 = 3 - x.1 ∧ x.2.2.length = 4 ∧ x.2.1.length ≤ 60) →
    SimC Tryz.prog 1 rd (.loop spLp) (spT.at [.s (bA x.2.1), .s ⟨⟨[46]⟩⟩, .i 3, .i (x.1 : Int), .ss ps, .ss x.2.2]) (.exit 0)
      (spT.at [.s (bA (spF (3 - x.1) x.1 x.2.1 x.2.2).1), .s ⟨⟨[46]⟩⟩, .i 3, .i 3, .ss ps, .ss (spF (3 - x.1) x.1 x.2.1 x.2.2).2]) := by
  refine loop_of_rounds (C := orcS tabI plainL) (L := noLoops) (N := 100) (me := 100) (T := spT) (T' := spT) (orcS_ok tabI_ok plainL_ok) mixed noLoops_ok (by kernel_rfl) (by kernel_rfl) (X := Nat × List UInt8 × List ByteArray)
    (fun x => [.s (bA x.2.1), .s ⟨⟨[46]⟩⟩, .i 3, .i (x.1 : Int), .ss ps, .ss x.2.2]) (fun x => x.1 ≤ 3 ∧ x.2.1.count 46 = 3 - x.1 ∧ x.2.2.length = 4 ∧ x.2.1.length ≤ 60) (fun x => 3 - x.1)
    (fun x => (.exit 0, [.s (bA (spF (3 - x.1) x.1 x.2.1 x.2.2).1), .s ⟨⟨[46]⟩⟩, .i 3, .i 3, .ss ps, .ss (spF (3 - x.1) x.1 x.2.1 x.2.2).2])) ?_
  rintro ⟨i, l, ss⟩ ⟨hi, hc, hs, hl⟩
  dsimp only at hi hc hs hl ⊢
  have h := sp_round rd (bA l) 3 i ps ss
  by_cases h3 : i < 3
  · obtain ⟨e1, e2, e3⟩ := sp_step (ps := ps) h3 hs hl (by omega)
    refine ⟨_, _, _, h.trans e1, codes0, .inl ⟨rfl, (i + 1, rest1 l, ss.set i (bA (cut1 l))), rfl, ⟨by dsimp only; omega, by dsimp only; omega, by dsimp only; rw [List.length_set]; exact hs, e2⟩, by dsimp only; omega, ?_⟩⟩
    dsimp only
    rw [show 3 - i = (3 - (i + 1)) + 1 by omega]
    rfl
  · have : i = 3 := by omega
    subst this
    exact ⟨_, _, _, h.trans (show spR _ _ _ _ _ _ = some (.exit 0, [.s (bA l), .s ⟨⟨[46]⟩⟩, .i 3, .i ((3 : Nat) : Int), .ss ps, .ss ss], []) from rfl), codes0, .inr ⟨by simp, rfl⟩⟩
noncomputable def spTree : List PV → Fin
  | [.s s, .s d, .i n, .i i, .ss ps, .ss ss] => .br (pB (d = ⟨⟨[46]⟩⟩ ∧ n = 3 ∧ i = 0 ∧ ss = [⟨#[]⟩, ⟨#[]⟩, ⟨#[]⟩, ⟨#[]⟩] ∧ s.data.toList.count 46 = 3 ∧ s.data.toList.length ≤ 60))
      (.leaf (.exit 0) (spT.at [.s (bA (rest1 (rest1 (rest1 s.data.toList)))), .s ⟨⟨[46]⟩⟩, .i 3, .i 3, .ss ps, .ss [bA (cut1 s.data.toList), bA (cut1 (rest1 s.data.toList)), bA (cut1 (rest1 (rest1 s.data.toList))), ⟨#[]⟩]])) .no
  | _ => .no
noncomputable def spSum : LoopSum := lsumF 1 spT spLp spTree
theorem spSum_ok : LoopOk Tryz.prog spSum := by
  refine lsumF_ok (by kernel_rfl) (fun rd ps e1 s1 h => ?_)
  unfold spTree at h
  split at h
  · rename_i s d n i qs ss
    simp only [Fin.pick] at h
    cases hc : pB (d = ⟨⟨[46]⟩⟩ ∧ n = 3 ∧ i = 0 ∧ ss = [⟨#[]⟩, ⟨#[]⟩, ⟨#[]⟩, ⟨#[]⟩] ∧ s.data.toList.count 46 = 3 ∧ s.data.toList.length ≤ 60) with
    | false => rw [hc] at h; cases h
    | true =>
      rw [hc, cond_true] at h
      rw [pB_iff] at hc
      obtain ⟨rfl, rfl, rfl, rfl, h4, h5⟩ := hc
      cases h
      exact sp_loop rd qs (0, s.data.toList, [⟨#[]⟩, ⟨#[]⟩, ⟨#[]⟩, ⟨#[]⟩]) ⟨by dsimp only; omega, by dsimp only; omega, rfl, h5⟩
  · cases h
noncomputable def spL : FuncId → Loops := fun f => match f with
  | 100 => sums (fun n => match n with | 11 => some spSum | _ => none)
  | _ => noLoops
theorem spL_ok : ∀ f, loopsOk Tryz.prog (spL f) := fun f => by
  unfold spL
  split
  · intro n g hg
    simp only [sums] at hg
    split at hg
    · cases hg; exact spSum_ok
    · cases hg
  · exact noLoops_ok
end Go.Proofs.YtpalajfcffdhoaaGreatDoor.N4
