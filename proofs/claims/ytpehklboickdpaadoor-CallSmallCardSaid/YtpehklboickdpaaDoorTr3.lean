/- Chapter 8: TrimSpace of a string of calls and blanks: its contract. -/
import Derived.Test.YtpehklboickdpaaDoorTr2
namespace Go.Proofs.YtpehklboickdpaaDoor
open Go Go.Eng
def trF (e : ByteArray) (l : List UInt8) : XE × List PV := if ltrim l = [] then (.exit 0, [.s e, .l spL]) else (.ret, [.s (bA (rtrim (ltrim l))), .l spL])
def nums (t : List UInt8) : List Int := t.map fun b => (b.toNat : Int)
theorem dropW_nil : ∀ {l : List UInt8}, List.dropWhile (· == 32) l = [] → ∀ x ∈ l, x = 32
  | [], _, x, hx => by cases hx
  | y :: l, h, x, hx => by
    rw [List.dropWhile_cons] at h
    by_cases hy : y = 32
    · subst hy
      rcases List.mem_cons.1 hx with rfl | hx
      · rfl
      · exact dropW_nil (by simpa using h) x hx
    · simp [hy] at h
theorem ltrim_last {b : UInt8} {l : List UInt8} (h : b ≠ 32) : rtrim (b :: l) ≠ [] := by
  unfold rtrim
  intro hh
  have h2 : (List.dropWhile (· == 32) (b :: l).reverse) = [] := by
    have := congrArg List.reverse hh
    simpa using this
  exact h (dropW_nil h2 b (by simp))
theorem ts_loop1 (rd : Option Nat) (t : List UInt8) (e : ByteArray) (hl : t.length ≤ 1000000) (ho : ∀ b ∈ t, okc b = true) : ∀ i : Nat, i ≤ t.length →
    SimC Tryd.prog 1 rd (.loop tsLp1) (tsT1.at [.s (bA t), .s e, .i (t.length : Int), .i (i : Int), .l spL, .l (nums t)]) (trF e (t.drop i)).1 (tsX1.at (trF e (t.drop i)).2) := by
  refine loop_of_rounds (C := oracleOf emptyTab) (L := tsL2) (N := 100) (me := 25) (T := tsT1) (T' := tsX1) (oracleOf_ok emptyTab_ok) mixed tsL2_ok (by kernel_rfl) (by kernel_rfl) (X := Nat)
    (fun i => [.s (bA t), .s e, .i (t.length : Int), .i (i : Int), .l spL, .l (nums t)]) (fun i => i ≤ t.length) (fun i => t.length - i) (fun i => trF e (t.drop i)) ?_
  intro i hi
  have q := ts_round1 rd spL (nums t) (bA t) e (t.length : Int) (i : Int)
  have hln : (nums t).length = t.length := by unfold nums; rw [List.length_map]
  rcases Nat.lt_or_ge i t.length with hlt | hge
  · have hb := ho t[i] (List.getElem_mem hlt)
    obtain ⟨h1, _⟩ := okc_tab hb
    have hni : (nums t)[i]'(by omega) = (t[i].toNat : Int) := by unfold nums; rw [List.getElem_map]
    have hd : t.drop i = t[i] :: t.drop (i + 1) := List.drop_eq_getElem_cons hlt
    rw [decide_eq_true (show (i : Int) < (t.length : Int) by omega), cond_true, atU_at (show i < (nums t).length by omega), hni, decide_eq_false (show ¬ (128 : Int) ≤ (t[i].toNat : Int) by omega), cond_false, tab_ok hb] at q
    by_cases h32 : t[i] = 32
    · rw [if_pos h32, decide_eq_false (by decide), Bool.not_false, cond_true, wr64 (by omega) (by omega)] at q
      refine ⟨_, _, _, q, codes0, .inl ⟨rfl, i + 1, rfl, by omega, by omega, ?_⟩⟩
      rw [hd]
      unfold trF
      rw [ltrim_cons, if_pos h32]
    · have cd : codesB [(tsLp2, tsLp2)] = true := by rw [codesB_iff]; intro x hx; simp at hx; rw [hx]
      have he : extS (bA t) ((i : Int)).toNat (Int.ofNat (lenS (bA t))).toNat = bA (t.drop i) := by
        rw [ext_bA, show ((i : Int)).toNat = i from rfl, show (Int.ofNat (lenS (bA t))).toNat = t.length from rfl, List.take_of_length_le (by rw [List.length_drop]; omega)]
      have hlt2 : ltrim (t.drop i) = t.drop i := by rw [hd, ltrim_cons, if_neg h32]
      have hp : ts2P (bA (t.drop i)) (wr .i64 (Int.ofNat (lenS (bA (t.drop i))) - 1)) := by
        have hlen : (t.drop i).length = t.length - i := List.length_drop
        refine ⟨?_, ?_, fun b hb => ho b (List.mem_of_mem_drop hb), ?_⟩
        · show (t.drop i).length ≤ 1000000; omega
        · show wr .i64 (((t.drop i).length : Int) - 1) = ((t.drop i).length : Int) - 1
          rw [wr64 (by omega) (by omega)]
        · show rtrim (t.drop i) ≠ []
          rw [hd]; exact ltrim_last h32
      rw [if_neg h32, he, decide_eq_true (show (0 : Int) = 0 from rfl), Bool.not_true, cond_false, decide_eq_true (show 0 ≤ (i : Int) ∧ (i : Int) ≤ Int.ofNat (lenS (bA t)) ∧ Int.ofNat (lenS (bA t)) ≤ Int.ofNat (lenS (bA t)) from ⟨by omega, by show (i : Int) ≤ (t.length : Int); omega, Int.le_refl _⟩), cond_true, cd, cond_true, pB_iff.2 rfl, pB_iff.2 hp] at q
      refine ⟨_, _, _, q, codes0, .inr ⟨by simp, ?_⟩⟩
      unfold trF
      rw [hlt2, if_neg (fun hn => by rw [hd] at hn; cases hn)]
      rfl
  · rw [decide_eq_false (show ¬ (i : Int) < (t.length : Int) by omega), cond_false] at q
    refine ⟨_, _, _, q, codes0, .inr ⟨by simp, ?_⟩⟩
    rw [List.drop_eq_nil_of_le hge]; rfl
def ts1P (s : ByteArray) (n i : Int) (bs : List Int) : Prop := s.data.toList.length ≤ 1000000 ∧ n = (s.data.toList.length : Int) ∧ i = 0 ∧ bs = nums s.data.toList ∧ (∀ b ∈ s.data.toList, okc b = true)
def trB (s : ByteArray) : Bool := (ltrim s.data.toList).isEmpty
noncomputable def tsTree1 : List PV → Fin
  | [.s s, .s e, .i n, .i i, .l tl, .l bs] => .br (pB (tl = spL) && pB (ts1P s n i bs)) (.br (trB s) (.leaf (.exit 0) (tsX1.at [.s e, .l tl])) (.leaf .ret (tsX1.at [.s (bA (rtrim (ltrim s.data.toList))), .l tl]))) .no
  | _ => .no
noncomputable def tsL1 : Loops := sums (fun n => match n with | 2 => some (lsumF 1 tsT1 tsLp1 tsTree1) | _ => none)
theorem tsL1_ok : loopsOk Tryd.prog tsL1 := by
  intro n g hg
  simp only [tsL1, sums] at hg
  split at hg
  · cases hg
    refine lsumF_ok (by kernel_rfl) (fun rd ps e1 st1 hq => ?_)
    unfold tsTree1 at hq
    split at hq
    · rename_i s e n i tl bs
      simp only [Fin.pick] at hq
      cases hc : (pB (tl = spL) && pB (ts1P s n i bs)) with
      | false => rw [hc] at hq; cases hq
      | true =>
        rw [hc, cond_true] at hq
        simp only [Bool.and_eq_true, pB_iff] at hc
        obtain ⟨rfl, h1, rfl, rfl, rfl, h3⟩ := hc
        have := ts_loop1 rd s.data.toList e h1 h3 0 (Nat.zero_le _)
        rw [show s.data.toList.drop 0 = s.data.toList from rfl] at this
        unfold trF at this
        cases hb : trB s with
        | true =>
          rw [hb] at hq
          cases hq
          unfold trB at hb
          rw [if_pos (List.isEmpty_iff.1 hb)] at this
          exact this
        | false =>
          rw [hb] at hq
          cases hq
          rw [if_neg (fun hn => by unfold trB at hb; rw [hn] at hb; cases hb)] at this
          exact this
    · cases hq
  · cases hg
theorem trim_eval (s : ByteArray) : evalFn Tryd.prog (oracleOf emptyTab) tsL1 100 25 Tryd.f25 [.str s] [.glob 1 (.ints .u8 spL)] (fun v _ => some v) =
    cond (codesB [(tsLp1, tsLp1)]) (bif pB (spL = spL) && pB (ts1P s (Int.ofNat (nums s.data.toList).length) 0 (nums s.data.toList)) then bif trB s then some (.str ⟨#[]⟩) else some (.str (bA (rtrim (ltrim s.data.toList)))) else none) none := by kernel_rfl
/-- What is left of a string of calls and blanks. -/
def trimW (s : ByteArray) : ByteArray := bA (rtrim (ltrim s.data.toList))
def allOk (s : ByteArray) : Bool := s.data.toList.all okc
theorem trim_fn {s : ByteArray} (hl : lenS s ≤ 1000000) (ho : allOk s = true) : FnOK Tryd.prog 25 [.str s] [.glob 1 (.ints .u8 spL)] (.str (trimW s)) [.glob 1 (.ints .u8 spL)] := by
  have cd : codesB [(tsLp1, tsLp1)] = true := by rw [codesB_iff]; intro x hx; simp at hx; rw [hx]
  have hP : ts1P s (Int.ofNat (nums s.data.toList).length) 0 (nums s.data.toList) := by
    refine ⟨hl, ?_, rfl, rfl, fun b hb => List.all_eq_true.1 ho b hb⟩
    show ((nums s.data.toList).length : Int) = _
    unfold nums
    rw [List.length_map]
  have key : evalFn Tryd.prog (oracleOf emptyTab) tsL1 100 25 Tryd.f25 [.str s] [.glob 1 (.ints .u8 spL)] (fun v _ => some v) = some (.str (trimW s)) := by
    rw [trim_eval, cd, pB_iff.2 rfl, pB_iff.2 hP]
    unfold trimW
    cases hb : trB s with
    | true =>
      unfold trB at hb
      rw [List.isEmpty_iff.1 hb]
      rfl
    | false => rfl
  obtain ⟨v1, h1, hk, hok⟩ := evalFn_ok (oracleOf_ok emptyTab_ok) mixed Tryd.func25 tsL1_ok key
  cases hk
  refine hok.plain rfl fun b blk hb => ?_
  match b, hb with
  | 0, hb => cases hb; rfl
  | _ + 1, hb => simp at hb
end Go.Proofs.YtpehklboickdpaaDoor
