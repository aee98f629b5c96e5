/- Chapter 8: TrimSpace of a string of calls and blanks. -/
import Derived.Test.YtpehklboickdpaaDoorTr
namespace Go.Proofs.YtpehklboickdpaaDoor
open Go Go.Eng
def spL : List Int := List.replicate 9 0 ++ (List.replicate 5 1 ++ (List.replicate 18 0 ++ ([1] ++ List.replicate 223 0)))
def tabAt {α : Type} (tl : List Int) (c : Int) (K : Int → Option α) : Option α := bif decide (0 ≤ c ∧ c < 256) then (match tl[c.toNat]? with | some z => K z | none => none) else none
theorem ts_round2 (rd : Option Nat) (tl : List Int) (s e : ByteArray) (i : Int) : roundT Tryd.prog (oracleOf emptyTab) noLoops 100 1 rd 25 tsLp2 tsT2 tsX2 [.s s, .s e, .i i, .l tl] =
    bif decide (0 ≤ i) then bif decide (0 ≤ i) then (match s.data.toList[i.toNat]? with
      | some b => bif decide (128 ≤ (b.toNat : Int)) then (bif decide (0 ≤ (0 : Int) ∧ 0 ≤ wr .i64 (i + 1) ∧ wr .i64 (i + 1) ≤ Int.ofNat (lenS s)) then none else none) else
        tabAt tl (b.toNat : Int) (fun z => bif decide (z = 0) then bif decide (0 ≤ (0 : Int) ∧ 0 ≤ wr .i64 (i + 1) ∧ wr .i64 (i + 1) ≤ Int.ofNat (lenS s)) then some (.ret, [.s (extS s (0 : Int).toNat (wr .i64 (i + 1)).toNat), .l tl], []) else none else some (.normal, [.s s, .s e, .i (wr .i64 (i - 1)), .l tl], []))
      | none => none) else none else some (.exit 2, [.s e, .l tl], []) := by kernel_rfl
def charL : List UInt8 := [80, 88, 49, 50, 51, 52, 53, 54, 55, 67, 68, 72, 83, 78, 84]
def okc (b : UInt8) : Bool := (32 :: charL).contains b
theorem okc_tab {b : UInt8} (h : okc b = true) : b.toNat < 128 ∧ spL[b.toNat]? = some (if b = 32 then 1 else 0) := by
  have key : ∀ c ∈ (32 :: charL : List UInt8), c.toNat < 128 ∧ spL[c.toNat]? = some (if c = 32 then 1 else 0) := by decide
  exact key b (by simpa [okc] using h)
theorem tab_ok {α : Type} {b : UInt8} (h : okc b = true) (K : Int → Option α) : tabAt spL (b.toNat : Int) K = K (if b = 32 then 1 else 0) := by
  obtain ⟨h1, h2⟩ := okc_tab h
  unfold tabAt
  rw [decide_eq_true (show 0 ≤ (b.toNat : Int) ∧ (b.toNat : Int) < 256 by omega), cond_true, show ((b.toNat : Int)).toNat = b.toNat from rfl, h2]
/-- Without the blanks at its end, at its beginning. -/
def rtrim (l : List UInt8) : List UInt8 := (l.reverse.dropWhile (· == 32)).reverse
def ltrim (l : List UInt8) : List UInt8 := l.dropWhile (· == 32)
theorem rtrim_snoc (l : List UInt8) (b : UInt8) : rtrim (l ++ [b]) = if b = 32 then rtrim l else l ++ [b] := by
  unfold rtrim
  rw [List.reverse_append, List.reverse_singleton, List.singleton_append, List.dropWhile_cons]
  by_cases h : b = 32
  · subst h; simp
  · simp [h]
theorem ltrim_cons (b : UInt8) (l : List UInt8) : ltrim (b :: l) = if b = 32 then ltrim l else b :: l := by
  unfold ltrim
  rw [List.dropWhile_cons]
  by_cases h : b = 32
  · subst h; simp
  · simp [h]
theorem rtrim_nil : rtrim [] = [] := rfl
theorem ts_loop2 (rd : Option Nat) (t : List UInt8) (e : ByteArray) (hl : t.length ≤ 1000000) (ho : ∀ b ∈ t, okc b = true) : ∀ h : Nat, (h ≤ t.length ∧ rtrim (t.take h) ≠ []) →
    SimC Tryd.prog 1 rd (.loop tsLp2) (tsT2.at [.s (bA t), .s e, .i ((h : Int) - 1), .l spL]) .ret (tsX2.at [.s (bA (rtrim (t.take h))), .l spL]) := by
  refine loop_of_rounds (C := oracleOf emptyTab) (L := noLoops) (N := 100) (me := 25) (T := tsT2) (T' := tsX2) (oracleOf_ok emptyTab_ok) mixed noLoops_ok (by kernel_rfl) (by kernel_rfl) (X := Nat)
    (fun h => [.s (bA t), .s e, .i ((h : Int) - 1), .l spL]) (fun h => h ≤ t.length ∧ rtrim (t.take h) ≠ []) (fun h => h) (fun h => (.ret, [.s (bA (rtrim (t.take h))), .l spL])) ?_
  rintro h ⟨hh, hr⟩
  have q := ts_round2 rd spL (bA t) e ((h : Int) - 1)
  cases h with
  | zero => exact absurd rtrim_nil hr
  | succ k =>
    have hk : k < t.length := by omega
    have hb := ho t[k] (List.getElem_mem hk)
    obtain ⟨h1, _⟩ := okc_tab hb
    have htk : t.take (k + 1) = t.take k ++ [t[k]] := List.take_succ_eq_append_getElem hk
    rw [htk, rtrim_snoc] at hr ⊢
    rw [show (((k + 1 : Nat) : Int) - 1) = (k : Int) by omega] at q ⊢
    rw [decide_eq_true (show 0 ≤ (k : Int) by omega), cond_true, cond_true, show ((k : Int)).toNat = k from rfl, show (bA t).data.toList = t from rfl, List.getElem?_eq_getElem hk] at q
    dsimp only at q
    rw [decide_eq_false (show ¬ (128 : Int) ≤ (t[k].toNat : Int) by omega), cond_false, tab_ok hb] at q
    by_cases h32 : t[k] = 32
    · rw [if_pos h32] at q hr ⊢
      rw [decide_eq_false (by decide), cond_false, wr64 (by omega) (by omega)] at q
      exact ⟨_, _, _, q, codes0, .inl ⟨rfl, k, rfl, ⟨by omega, hr⟩, by omega, rfl⟩⟩
    · rw [if_neg h32] at q hr ⊢
      rw [decide_eq_true (by decide), cond_true, wr64 (by omega) (by omega), decide_eq_true (show 0 ≤ (0 : Int) ∧ 0 ≤ (k : Int) + 1 ∧ (k : Int) + 1 ≤ Int.ofNat (lenS (bA t)) from ⟨by omega, by omega, by show (k : Int) + 1 ≤ (t.length : Int); omega⟩), cond_true] at q
      refine ⟨_, _, _, q, codes0, .inr ⟨by simp, ?_⟩⟩
      rw [ext_bA, show ((k : Int) + 1).toNat = k + 1 by omega, ← htk]
      simp
def ts2P (s : ByteArray) (i : Int) : Prop := s.data.toList.length ≤ 1000000 ∧ i = (s.data.toList.length : Int) - 1 ∧ (∀ b ∈ s.data.toList, okc b = true) ∧ rtrim s.data.toList ≠ []
noncomputable def tsTree2 : List PV → Fin
  | [.s s, .s _, .i i, .l tl] => .br (pB (tl = spL) && pB (ts2P s i)) (.leaf .ret (tsX2.at [.s (bA (rtrim s.data.toList)), .l tl])) .no
  | _ => .no
noncomputable def tsL2 : Loops := sums (fun n => match n with | 9 => some (lsumF 1 tsT2 tsLp2 tsTree2) | _ => none)
theorem tsL2_ok : loopsOk Tryd.prog tsL2 := by
  intro n g hg
  simp only [tsL2, sums] at hg
  split at hg
  · cases hg
    refine lsumF_ok (by kernel_rfl) (fun rd ps e1 st1 hq => ?_)
    unfold tsTree2 at hq
    split at hq
    · rename_i s e i tl
      simp only [Fin.pick] at hq
      cases hc : (pB (tl = spL) && pB (ts2P s i)) with
      | false => rw [hc] at hq; cases hq
      | true =>
        rw [hc, cond_true] at hq
        cases hq
        simp only [Bool.and_eq_true, pB_iff] at hc
        obtain ⟨rfl, h1, rfl, h3, h4⟩ := hc
        have := ts_loop2 rd s.data.toList e h1 h3 s.data.toList.length ⟨Nat.le_refl _, by rw [List.take_length]; exact h4⟩
        rw [List.take_length] at this
        exact this
    · cases hq
  · cases hg
theorem ts_round1 (rd : Option Nat) (tl bs : List Int) (s e : ByteArray) (n i : Int) : roundT Tryd.prog (oracleOf emptyTab) tsL2 100 1 rd 25 tsLp1 tsT1 tsX1 [.s s, .s e, .i n, .i i, .l tl, .l bs] =
    bif decide (i < n) then atU bs i (fun c => bif decide (128 ≤ c) then (bif decide (0 ≤ i ∧ i ≤ Int.ofNat (lenS s) ∧ Int.ofNat (lenS s) ≤ Int.ofNat (lenS s)) then none else none) else
      tabAt tl c (fun z => bif !decide (z = 0) then some (.normal, [.s s, .s e, .i n, .i (wr .i64 (i + 1)), .l tl, .l bs], []) else
        bif decide (0 ≤ i ∧ i ≤ Int.ofNat (lenS s) ∧ Int.ofNat (lenS s) ≤ Int.ofNat (lenS s)) then cond (codesB [(tsLp2, tsLp2)]) (bif pB (tl = spL) && pB (ts2P (extS s i.toNat (Int.ofNat (lenS s)).toNat) (wr .i64 (Int.ofNat (lenS (extS s i.toNat (Int.ofNat (lenS s)).toNat)) - 1))) then
          some (.ret, [.s (bA (rtrim (extS s i.toNat (Int.ofNat (lenS s)).toNat).data.toList)), .l tl], []) else none) none else none)) else some (.exit 0, [.s e, .l tl], []) := by kernel_rfl
end Go.Proofs.YtpehklboickdpaaDoor
