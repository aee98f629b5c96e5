/- Chapter 6: a string is cut at its spaces; what deal.Read answers. -/
import Derived.Test.YtpalajfcffdhoaaGreatDoorCRParse2
namespace Go.Proofs.YtpalajfcffdhoaaGreatDoor
open Go Go.Eng
abbrev bA := N4.bA
def ctZ : List UInt8 → List UInt8
  | [] => []
  | b :: l => if b == 32 then [] else b :: ctZ l
def rsS : List UInt8 → List UInt8
  | [] => []
  | b :: l => if b == 32 then l else rsS l
theorem ctZ_eq : ∀ {l : List UInt8}, 0 < l.count 32 → l = ctZ l ++ 32 :: rsS l ∧ Lib.indexByte l 32 = ((ctZ l).length : Int) ∧ l.count 32 = (rsS l).count 32 + 1
  | [], h => by simp at h
  | b :: l, h => by
    unfold ctZ rsS Lib.indexByte
    by_cases hb : (b == 32) = true
    · have : b = 32 := by simpa using hb
      subst this
      simp
    · have hb' : (b == 32) = false := by simpa using hb
      rw [List.count_cons, hb'] at h
      simp only [Bool.false_eq_true, if_false, Nat.add_zero] at h
      obtain ⟨h1, h2, h3⟩ := ctZ_eq h
      simp only [hb', Bool.false_eq_true, if_false]
      refine ⟨?_, ?_, ?_⟩
      · conv => lhs; rw [h1]
        rfl
      · rw [h2]
        rw [if_neg (by simp)]
        simp
      · rw [List.count_cons, hb', h3]; simp
theorem idx_S (l : List UInt8) : N4.idxI (bA l) 32 = Lib.indexByte l 32 := rfl
def frS : Nat → List UInt8 → List ByteArray
  | 0, _ => []
  | k + 1, l => bA (ctZ l) :: frS k (rsS l)
def laS : Nat → List UInt8 → List UInt8
  | 0, l => l
  | k + 1, l => laS k (rsS l)
theorem frS_len : ∀ (k : Nat) (l : List UInt8), (frS k l).length = k
  | 0, _ => rfl
  | k + 1, l => by rw [frS, List.length_cons, frS_len k]
def emp : ByteArray := ⟨#[]⟩
theorem ss_step {n i : Nat} {l : List UInt8} {pre : List ByteArray} {r : R8} (hn : n ≤ 69) (hp : pre.length = i) (hi : i < n) (hl : l.length ≤ 69) (hc : l.count 32 = n - i) :
    ssR (n : Int) (i : Int) (N4.idxI (bA l) 32) (bA l) r (pre ++ List.replicate (n - i + 1) emp) = some (.normal, ssP (bA (rsS l)) (n : Int) ((i + 1 : Nat) : Int) r ((pre ++ [bA (ctZ l)]) ++ List.replicate (n - (i + 1) + 1) emp), []) ∧ (rsS l).length ≤ 69 ∧ (rsS l).count 32 = n - (i + 1) := by
  obtain ⟨h1, h2, h3⟩ := ctZ_eq (l := l) (by omega)
  have hle : l.count 32 ≤ l.length := List.count_le_length
  have hlen : l.length = (ctZ l).length + (rsS l).length + 1 := by
    have := congrArg List.length h1
    simp only [List.length_append, List.length_cons] at this
    omega
  rw [idx_S, h2]
  unfold ssR
  have w0 : wr .i64 (((ctZ l).length : Int) + 0) = ((ctZ l).length : Int) := by rw [N4.wr64 (by omega) (by omega)]; omega
  have w1 : wr .i64 (((ctZ l).length : Int) + 1) = (((ctZ l).length + 1 : Nat) : Int) := by rw [N4.wr64 (by omega) (by omega)]; omega
  have wi : wr .i64 ((i : Int) + 1) = ((i + 1 : Nat) : Int) := by rw [N4.wr64 (by omega) (by omega)]; omega
  have hd : (bA l).data.toList = l := rfl
  have hs : (pre ++ List.replicate (n - i + 1) emp).length = n + 1 := by rw [List.length_append, List.length_replicate]; omega
  rw [w0, w1, wi, hd, hs, decide_eq_true (show (i : Int) < (n : Int) by omega), decide_eq_false (show ¬ ((ctZ l).length : Int) < 0 by omega), decide_eq_true (show 0 ≤ (0 : Int) ∧ 0 ≤ ((ctZ l).length : Int) ∧ ((ctZ l).length : Int) ≤ Int.ofNat l.length by simp; omega),
    decide_eq_true (show 0 ≤ (i : Int) ∧ (i : Int) < Int.ofNat (n + 1) by simp; omega), show ((i : Int)).toNat = i by omega, decide_eq_true (show i < n + 1 by omega),
    decide_eq_true (show 0 ≤ (((ctZ l).length + 1 : Nat) : Int) ∧ (((ctZ l).length + 1 : Nat) : Int) ≤ Int.ofNat l.length ∧ Int.ofNat l.length ≤ Int.ofNat l.length by simp; omega)]
  have e1 : extS (bA l) (0 : Int).toNat (((ctZ l).length : Int)).toNat = bA (ctZ l) := by
    unfold extS bA N4.bA
    have : l.take (ctZ l).length = ctZ l := by
      rw [show l.take (ctZ l).length = (ctZ l ++ 32 :: rsS l).take (ctZ l).length from congrArg _ h1]
      simp
    simp only [Int.toNat_natCast, Int.toNat_zero, Nat.sub_zero, List.drop_zero]
    rw [this]
  have e2 : extS (bA l) ((((ctZ l).length + 1 : Nat) : Int)).toNat (Int.ofNat l.length).toNat = bA (rsS l) := by
    unfold extS bA N4.bA
    have : (l.drop ((ctZ l).length + 1)) = rsS l := by
      rw [show l.drop ((ctZ l).length + 1) = (ctZ l ++ 32 :: rsS l).drop ((ctZ l).length + 1) from congrArg _ h1, List.drop_append]
      simp
    rw [show (((((ctZ l).length + 1 : Nat) : Int))).toNat = (ctZ l).length + 1 by omega, show (Int.ofNat l.length).toNat = l.length from rfl, this, List.take_of_length_le (by omega)]
  have e3 : (pre ++ List.replicate (n - i + 1) emp).set i (bA (ctZ l)) = (pre ++ [bA (ctZ l)]) ++ List.replicate (n - (i + 1) + 1) emp := by
    rw [show n - (i + 1) + 1 = n - i by omega, List.replicate_succ, ← hp, List.append_assoc]
    simp
  rw [e1, e2, e3]
  exact ⟨rfl, by omega, by omega⟩
def ssFin (l : List UInt8) (pre : List ByteArray) : List UInt8 × List ByteArray := (laS (l.count 32) l, pre ++ frS (l.count 32) l ++ [emp])
theorem ss_loop (rd : Option Nat) (n : Nat) (r : R8) (hn : n ≤ 69) : ∀ x : Nat × List UInt8 × List ByteArray, (x.2.2.length = x.1 ∧ x.1 ≤ n ∧ x.2.1.count 32 = n - x.1 ∧ x.2.1.length ≤ 69) →
    SimC Tryz.prog 2 rd (.loop ssLp) (ssT.at (ssP (bA x.2.1) (n : Int) (x.1 : Int) r (x.2.2 ++ List.replicate (n - x.1 + 1) emp))) (.exit 0)
      (ssT.at (ssP (bA (ssFin x.2.1 x.2.2).1) (n : Int) (n : Int) r (ssFin x.2.1 x.2.2).2)) := by
  refine loop_of_rounds (C := N4.orcS N4.tabI plainL) (L := noLoops) (N := 100) (me := 100) (T := ssT) (T' := ssT) (N4.orcS_ok N4.tabI_ok plainL_ok) mixed noLoops_ok (by kernel_rfl) (by kernel_rfl) (X := Nat × List UInt8 × List ByteArray)
    (fun x => ssP (bA x.2.1) (n : Int) (x.1 : Int) r (x.2.2 ++ List.replicate (n - x.1 + 1) emp)) (fun x => x.2.2.length = x.1 ∧ x.1 ≤ n ∧ x.2.1.count 32 = n - x.1 ∧ x.2.1.length ≤ 69) (fun x => n - x.1)
    (fun x => (.exit 0, ssP (bA (ssFin x.2.1 x.2.2).1) (n : Int) (n : Int) r (ssFin x.2.1 x.2.2).2)) ?_
  rintro ⟨i, l, pre⟩ ⟨hp, hi, hc, hl⟩
  dsimp only at hp hi hc hl ⊢
  have h := ss_round rd (bA l) (n : Int) (i : Int) r (pre ++ List.replicate (n - i + 1) emp)
  rcases Nat.lt_or_ge i n with h3 | h3
  · obtain ⟨e1, e2, e3⟩ := ss_step (r := r) hn hp h3 hl hc
    refine ⟨_, _, _, h.trans e1, N4.codes0, .inl ⟨rfl, (i + 1, rsS l, pre ++ [bA (ctZ l)]), rfl, ⟨by dsimp only; rw [List.length_append, hp]; rfl, by dsimp only; omega, e3, e2⟩, by dsimp only; omega, ?_⟩⟩
    have ec : l.count 32 = (rsS l).count 32 + 1 := by omega
    unfold ssFin
    dsimp only
    rw [ec, laS, frS, List.append_assoc pre, List.singleton_append]
  · have hin : i = n := by omega
    have hz : l.count 32 = 0 := by omega
    refine ⟨_, _, _, h.trans (show ssR _ _ _ _ _ _ = some (.exit 0, ssP (bA l) (n : Int) (i : Int) r (pre ++ List.replicate (n - i + 1) emp), []) from ?_), N4.codes0, .inr ⟨by simp, ?_⟩⟩
    · unfold ssR
      rw [decide_eq_false (show ¬ (i : Int) < (n : Int) by omega)]; rfl
    · unfold ssFin
      rw [hz, hin, Nat.sub_self, laS, frS, List.append_nil]
      rfl
theorem strEq_iff {a b : ByteArray} : strEq a b = true ↔ a = b := by
  unfold strEq
  rw [beqBs_eq]
  constructor
  · intro h
    have h2 := eq_of_beq h
    cases a; cases b
    congr 1
    exact Array.toList_inj.1 h2
  · rintro rfl; simp
def cpI (l : List UInt8) : Bool := beqBs (l.take 2) [78, 58]
def ctP (s : ByteArray) : ByteArray := bif cpI s.data.toList then bA (s.data.toList.drop 2) else s
theorem cp_eval (s : ByteArray) : evalFn Tryz.prog (N4.orcS N4.tabI plainL) noLoops 100 71 Tryz.f71 [.str s, .str ⟨⟨[78, 58]⟩⟩] [] (fun v _ => some v) =
   bif decide (2 ≤ Int.ofNat s.data.toList.length) then
     bif decide (0 ≤ (0 : Int) ∧ (0 : Int) ≤ 2 ∧ 2 ≤ Int.ofNat s.data.toList.length) then
       bif !(beqBs (extS s 0 2).data.toList [78, 58]) then some (.tuple [.str s, .bool false])
       else bif decide (0 ≤ (2 : Int) ∧ (2 : Int) ≤ Int.ofNat s.data.toList.length ∧ Int.ofNat s.data.toList.length ≤ Int.ofNat s.data.toList.length) then some (.tuple [.str (extS s 2 (Int.ofNat s.data.toList.length).toNat), .bool true]) else none
     else none
   else some (.tuple [.str s, .bool false]) := by kernel_rfl
theorem cpI_short {l : List UInt8} (h : l.length < 2) : cpI l = false := by
  match l, h with
  | [], _ => rfl
  | [a], _ => show cond _ _ false = false; cases decide (a.toNat = (78 : UInt8).toNat) <;> rfl
  | _ :: _ :: _, h => simp at h; omega
theorem cp_p (s : ByteArray) : FnPure Tryz.prog 71 [.str s, .str ⟨⟨[78, 58]⟩⟩] (.tuple [.str (ctP s), .bool (cpI s.data.toList)]) := by
  refine fnPure_of_eval (N := 100) (N4.orcS_ok N4.tabI_ok plainL_ok) mixed Tryz.func71 (by kernel_rfl) noLoops_ok ?_ rfl rfl
  rw [cp_eval]
  unfold ctP
  by_cases h : 2 ≤ s.data.toList.length
  · have hx : (extS s 0 2).data.toList = s.data.toList.take 2 := by unfold extS; simp
    have hy : extS s 2 (Int.ofNat s.data.toList.length).toNat = bA (s.data.toList.drop 2) := by
      unfold extS bA N4.bA
      rw [show (Int.ofNat s.data.toList.length).toNat = s.data.toList.length from rfl, List.take_of_length_le (by simp)]
    rw [decide_eq_true (show (2 : Int) ≤ Int.ofNat s.data.toList.length by show (2 : Int) ≤ ((s.data.toList.length : Nat) : Int); omega), decide_eq_true (show 0 ≤ (0 : Int) ∧ (0 : Int) ≤ 2 ∧ 2 ≤ Int.ofNat s.data.toList.length by refine ⟨by omega, by omega, ?_⟩; show (2 : Int) ≤ ((s.data.toList.length : Nat) : Int); omega),
      decide_eq_true (show 0 ≤ (2 : Int) ∧ (2 : Int) ≤ Int.ofNat s.data.toList.length ∧ Int.ofNat s.data.toList.length ≤ Int.ofNat s.data.toList.length by refine ⟨by omega, ?_, by omega⟩; show (2 : Int) ≤ ((s.data.toList.length : Nat) : Int); omega), hx, hy]
    show (cond (!(cpI s.data.toList)) _ _) = _
    cases cpI s.data.toList <;> rfl
  · rw [decide_eq_false (show ¬ (2 : Int) ≤ Int.ofNat s.data.toList.length by show ¬ (2 : Int) ≤ ((s.data.toList.length : Nat) : Int); omega), cpI_short (by omega)]
    rfl
noncomputable def ES0 : ES where
  pk _ := true
  pv := N4.prV
  pe := N4.prE
  u4 := in4
  pb := parB
  C s n i ss := pB (n = Int.ofNat (s.data.toList.count 32) ∧ i = 0 ∧ ss = List.replicate (s.data.toList.count 32 + 1) emp ∧ s.data.toList.length ≤ 69)
  S s := bA (laS (s.data.toList.count 32) s.data.toList)
  L s := frS (s.data.toList.count 32) s.data.toList ++ [emp]
  I s := Int.ofNat (s.data.toList.count 32)
  cs := ctP
  cb s := cpI s.data.toList
theorem ssTr_sum : LoopOk Tryz.prog (lsumF 2 ssT ssLp (ssTr ES0)) := by
  refine lsumF_ok (by kernel_rfl) (fun rd ps e1 s1 h => ?_)
  unfold ssTr at h
  split at h
  · rename_i s sep n i r0 r1 r2 r3 p0 p1 p2 p3 ss
    simp only [Fin.pick] at h
    cases hc : (strEq sep ⟨⟨[32]⟩⟩ && ES0.C s n i ss) with
    | false => rw [hc] at h; cases h
    | true =>
      rw [hc, cond_true] at h
      rw [Bool.and_eq_true, strEq_iff] at hc
      obtain ⟨rfl, hc⟩ := hc
      obtain ⟨rfl, rfl, rfl, h4⟩ := pB_iff.1 hc
      cases h
      have hle : s.data.toList.count 32 ≤ s.data.toList.length := List.count_le_length
      exact ss_loop rd (s.data.toList.count 32) ⟨r0, r1, r2, r3, p0, p1, p2, p3⟩ (by omega) (0, s.data.toList, []) ⟨rfl, Nat.zero_le _, rfl, h4⟩
  · cases h
theorem ssL_ok : ∀ f, loopsOk Tryz.prog (ssL ES0 f) := fun f => by
  unfold ssL
  split
  · intro n g hg
    simp only [sums] at hg
    split at hg
    · cases hg; exact ssTr_sum
    · cases hg
  · exact noLoops_ok
theorem tabSp_ok : PTabOk Tryz.prog (tabSp ES0) := by
  refine addTab_ok ?_ (addTab_ok ?_ (addTab_ok ?_ N4.tabI_ok))
  · intro args c v h _
    unfold sCp at h
    split at h
    · cases h; exact cp_p _
    · cases h
  · intro args c v h _
    unfold sPa at h
    split at h
    · rename_i s
      cases h
      have e : N4.resP (N4.parseN s.data.toList) = .tuple [.int .u64 (ES0.pv s), .int .i64 (ES0.pe s)] := by
        show _ = V.tuple [.int .u64 (N4.prV s), .int .i64 (N4.prE s)]
        unfold N4.prV N4.prE
        cases N4.parseN s.data.toList <;> rfl
      rw [← e]
      exact N4.parse_p s
    · cases h
  · intro args c v h hc
    unfold sPb at h
    split at h
    · cases h; exact par_p hc
    · cases h
end Go.Proofs.YtpalajfcffdhoaaGreatDoor
