/- Texts merged: Rr3, Rr4. -/
import Derived.Test.YtpalajfcffdhoaaGreatDoorRr2
/- Chapter 6: the reference's Read answers as deal.Read does. -/
namespace Go.Proofs.YtpalajfcffdhoaaGreatDoor
open Go Go.Eng Go.Deal
def zQ : DQ := ⟨0, 0, 0, 0⟩
theorem rrG_no : ∀ (r : List UInt8) (k : Nat) (q : DQ) (w : List UInt8), r.count 32 = 0 → rrG r k q w = rrG [] k q (w ++ r)
  | [], k, q, w, _ => by rw [List.append_nil]
  | b :: r, k, q, w, h => by
    rw [List.count_cons] at h
    have hb : (b == 32) = false := by
      cases hb : (b == 32) with
      | false => rfl
      | true => rw [hb] at h; simp at h
    have ih := rrG_no r k q (w ++ [b]) (by omega)
    rw [List.append_assoc, List.singleton_append] at ih
    rw [← ih]
    show (if b == 32 then _ else rrG r k q (w ++ [b])) = _
    rw [hb]; rfl
theorem rrG_sp : ∀ (r : List UInt8) (k : Nat) (q : DQ) (w : List UInt8), 0 < r.count 32 → rrG r k q w = rrE k q (w ++ ctZ r) fun m => rrG (rsS r) (k + 1) (putQ k (m : Nat) q) []
  | [], k, q, w, h => by simp at h
  | b :: r, k, q, w, h => by
    show (if b == 32 then _ else rrG r k q (w ++ [b])) = _
    rw [List.count_cons] at h
    cases hb : (b == 32) with
    | true =>
      rw [if_pos rfl]
      unfold ctZ rsS
      rw [hb, if_pos rfl, if_pos rfl, List.append_nil]
    | false =>
      rw [hb] at h
      have ih := rrG_sp r k q (w ++ [b]) (by simpa using h)
      unfold ctZ rsS
      rw [hb, if_neg (by simp), if_neg (by simp), if_neg (by simp), ih, List.append_assoc, List.singleton_append]
theorem rrG_k : ∀ (r : List UInt8) (k : Nat) (q : DQ) (w : List UInt8) (k' : Nat) (q' : DQ), rrG r k q w = (true, k', q') → k' = k + r.count 32 + 1
  | [], k, q, w, k', q', h => by
    have h2 : rrE k q w (fun m => (true, k + 1, putQ k (m : Nat) q)) = (true, k', q') := h
    unfold rrE at h2
    cases hp : N4.parseN w with
    | none => rw [hp] at h2; cases h2
    | some m =>
      rw [hp] at h2
      dsimp only at h2
      split at h2
      · cases h2
      · cases h2; simp
  | b :: r, k, q, w, k', q', h => by
    have h2 : (if b == 32 then rrE k q w (fun m => rrG r (k + 1) (putQ k (m : Nat) q) []) else rrG r k q (w ++ [b])) = (true, k', q') := h
    rw [List.count_cons]
    cases hb : (b == 32) with
    | false =>
      rw [hb, if_neg (by simp)] at h2
      have := rrG_k r k q _ k' q' h2
      simp; omega
    | true =>
      rw [hb, if_pos rfl] at h2
      unfold rrE at h2
      cases hp : N4.parseN w with
      | none => rw [hp] at h2; cases h2
      | some m =>
        rw [hp] at h2
        dsimp only at h2
        split at h2
        · cases h2
        · have := rrG_k r (k + 1) _ _ k' q' h2
          simp; omega
noncomputable def quad (r : List UInt8) : Option (Nat × Nat × Nat × Nat) := pK (ctZ r) fun a => pK (ctZ (rsS r)) fun b => pK (ctZ (rsS (rsS r))) fun c => pK (rsS (rsS (rsS r))) fun d => some (a, b, c, d)
theorem rrG_quad {r : List UInt8} (h : r.count 32 = 3) : (∃ k q, rrG r 0 zQ [] = (false, k, q) ∧ quad r = none) ∨ (∃ a b c d : Nat, rrG r 0 zQ [] = (true, 4, DQ.n a b c d) ∧ quad r = some (a, b, c, d)) := by
  obtain ⟨_, _, x3⟩ := ctZ_eq (l := r) (by omega)
  obtain ⟨_, _, y3⟩ := ctZ_eq (l := rsS r) (by omega)
  obtain ⟨_, _, z3⟩ := ctZ_eq (l := rsS (rsS r)) (by omega)
  rw [rrG_sp r 0 zQ [] (by omega), List.nil_append]
  unfold quad pK rrE
  cases p0 : N4.parseN (ctZ r) with
  | none => exact .inl ⟨_, _, rfl, rfl⟩
  | some a =>
    dsimp only
    rw [if_neg (by omega), rrG_sp (rsS r) _ _ [] (by omega), List.nil_append]
    unfold rrE
    cases p1 : N4.parseN (ctZ (rsS r)) with
    | none => exact .inl ⟨_, _, rfl, rfl⟩
    | some b =>
      dsimp only
      rw [if_neg (by omega), rrG_sp (rsS (rsS r)) _ _ [] (by omega), List.nil_append]
      unfold rrE
      cases p2 : N4.parseN (ctZ (rsS (rsS r))) with
      | none => exact .inl ⟨_, _, rfl, rfl⟩
      | some c =>
        dsimp only
        rw [if_neg (by omega), rrG_no (rsS (rsS (rsS r))) _ _ [] (by omega), List.nil_append]
        unfold rrG rrE
        cases p3 : N4.parseN (rsS (rsS (rsS r))) with
        | none => exact .inl ⟨_, _, rfl, rfl⟩
        | some d =>
          dsimp only
          rw [if_neg (by omega)]
          exact .inr ⟨a, b, c, d, rfl, rfl⟩
noncomputable def pqK : Option (Nat × Nat × Nat × Nat) → Option (Nat × Nat × Nat × Nat)
  | some (a, b, c, d) => if parB a b c d = true then some (a, b, c, d) else none
  | none => none
theorem readN_quad {l : List UInt8} (hc : cpI l = true) (h3 : (l.drop 2).count 32 = 3) (hl : l.length ≤ 69) : readN l = pqK (quad (l.drop 2)) := by
  unfold readN quad pK
  rw [if_pos ⟨hc, hl, h3⟩]
  cases N4.parseN (ctZ (l.drop 2)) with
  | none => rfl
  | some a =>
    dsimp only
    cases N4.parseN (ctZ (rsS (l.drop 2))) with
    | none => rfl
    | some b =>
      dsimp only
      cases N4.parseN (ctZ (rsS (rsS (l.drop 2)))) with
      | none => rfl
      | some c =>
        dsimp only
        cases N4.parseN (rsS (rsS (rsS (l.drop 2)))) with
        | none => rfl
        | some d => rfl
theorem quad_only {l : List UInt8} {a b c d : Nat} (hc : cpI l = true) (h3 : (l.drop 2).count 32 = 3) (h : quad (l.drop 2) = some (a, b, c, d)) : l = txL a b c d := by
  have hl := cpI_is hc
  unfold quad at h
  generalize l.drop 2 = r at h h3 hl
  obtain ⟨x1, _, x3⟩ := ctZ_eq (l := r) (by omega)
  obtain ⟨y1, _, y3⟩ := ctZ_eq (l := rsS r) (by omega)
  obtain ⟨z1, _, z3⟩ := ctZ_eq (l := rsS (rsS r)) (by omega)
  obtain ⟨a', p0, h⟩ := pK_some h
  obtain ⟨b', p1, h⟩ := pK_some h
  obtain ⟨c', p2, h⟩ := pK_some h
  obtain ⟨d', p3, h⟩ := pK_some h
  cases h
  unfold txL
  rw [← (N4.parse_only p0).1, ← (N4.parse_only p1).1, ← (N4.parse_only p2).1, ← (N4.parse_only p3).1, ← z1, ← y1, ← x1]
  exact hl
theorem quad_lt {r : List UInt8} {a b c d : Nat} (h : quad r = some (a, b, c, d)) : a < 4503599627370496 ∧ b < 4503599627370496 ∧ c < 4503599627370496 ∧ d < 4503599627370496 := by
  unfold quad at h
  obtain ⟨a', p0, h⟩ := pK_some h
  obtain ⟨b', p1, h⟩ := pK_some h
  obtain ⟨c', p2, h⟩ := pK_some h
  obtain ⟨d', p3, h⟩ := pK_some h
  cases h
  exact ⟨(N4.parse_only p0).2, (N4.parse_only p1).2, (N4.parse_only p2).2, (N4.parse_only p3).2⟩
theorem readN_any {l : List UInt8} (hc : cpI l = true) (h3 : (l.drop 2).count 32 = 3) : readN l = pqK (quad (l.drop 2)) := by
  by_cases hl : l.length ≤ 69
  · exact readN_quad hc h3 hl
  · have e : readN l = none := by unfold readN; rw [if_neg (fun h => hl h.2.1)]
    rw [e]
    cases hq : quad (l.drop 2) with
    | none => rfl
    | some p =>
      obtain ⟨a, b, c, d⟩ := p
      unfold pqK
      dsimp only
      by_cases hp : parB (a : Int) b c d = true
      · have := txL_len (parB_iff.1 hp)
        rw [← quad_only hc h3 hq] at this
        exact absurd this hl
      · rw [if_neg hp]
theorem readN_not {l : List UInt8} (h3 : (l.drop 2).count 32 ≠ 3) : readN l = none := by unfold readN; rw [if_neg (fun h => h3 h.2.2)]
theorem readN_cp {l : List UInt8} (hc : cpI l = false) : readN l = none := by unfold readN; rw [hc, if_neg (fun h => by cases h.1)]
end Go.Proofs.YtpalajfcffdhoaaGreatDoor

/- Chapter 6: the reference's Read: its contract; reads answers true. -/
namespace Go.Proofs.YtpalajfcffdhoaaGreatDoor
open Go Go.Eng Go.Deal
noncomputable def rrO (s : ByteArray) : Bool × Nat × DQ := rrG (s.data.toList.drop 2) 0 zQ []
noncomputable def rrC (s : ByteArray) (k fr i : Int) (q : DQ) : Bool := pB (k = 0 ∧ fr = 2 ∧ i = 2 ∧ q = zQ ∧ 2 ≤ s.data.toList.length ∧ s.data.toList.length ≤ 1000)
noncomputable abbrev rrLL : Loops := rrL rrC (fun s => (rrO s).1) (fun _ => 61) (fun s => ((rrO s).2.1 : Int)) (fun s => ((rrO s).2.1 : Int)) (fun s => (rrO s).2.2) (fun s => (rrO s).2.2)
theorem rrLL_ok : loopsOk Tryz.prog rrLL := by
  intro n g hg
  simp only [rrLL, rrL, sums] at hg
  split at hg
  · cases hg
    refine lsumF_ok (by kernel_rfl) (fun rd ps e1 s1 h => ?_)
    unfold rrTr at h
    split at h
    · rename_i s k fr i a b c d
      simp only [Fin.pick] at h
      cases hc : rrC s k fr i ⟨a, b, c, d⟩ with
      | false => rw [hc] at h; cases h
      | true =>
        rw [hc, cond_true] at h
        obtain ⟨rfl, rfl, rfl, hq, h2, h3⟩ := pB_iff.1 hc
        cases hq
        have hs : s.data.toList = s.data.toList.take 2 ++ ([] ++ s.data.toList.drop 2) := (List.take_append_drop 2 _).symm
        have main := rr_loop rd s h3 (.run 0 zQ (s.data.toList.take 2) [] (s.data.toList.drop 2)) ⟨by omega, hs⟩
        have e2 : (s.data.toList.take 2).length = 2 := by rw [List.length_take]; omega
        have ee : RS.enc s (.run 0 zQ (s.data.toList.take 2) [] (s.data.toList.drop 2)) = rrPs s 0 2 2 zQ := by
          show rrPs s _ _ _ _ = _
          rw [e2]; rfl
        have eo : RS.out (.run 0 zQ (s.data.toList.take 2) [] (s.data.toList.drop 2)) = rrO s := rfl
        rw [ee, eo] at main
        cases ho : rrO s with
        | mk o kq =>
          obtain ⟨k, q⟩ := kq
          rw [ho] at h main
          cases o with
          | true => cases h; exact main
          | false => cases h; exact main
    · cases h
  · cases hg
theorem codesRR : codesB [(rrLp, rrLp)] = true := by rw [codesB_iff]; intro x hx; simp at hx; rw [hx]
theorem rread_p {s : ByteArray} (h : s.data.toList.length ≤ 1000) : FnPure Tryz.prog 39 [.str s] (resR (readN s.data.toList)) := by
  refine fnPure_of_eval (N := 100) orcRr_ok mixed Tryz.func39 (by kernel_rfl) rrLL_ok ?_ rfl (by unfold resR; split <;> rfl)
  refine (rread_eval ES1 _ _ _ _ _ _ _ s).trans ?_
  by_cases h2 : 2 ≤ s.data.toList.length
  · have hx : (extS s 0 2).data.toList = s.data.toList.take 2 := by unfold extS; simp
    have hcp : strEq (extS s 0 2) ⟨⟨[78, 58]⟩⟩ = cpI s.data.toList := by unfold strEq cpI; rw [hx]
    rw [decide_eq_false (show ¬ Int.ofNat s.data.toList.length < 2 by show ¬ ((s.data.toList.length : Nat) : Int) < 2; omega), cond_false, decide_eq_true (show 0 ≤ (0 : Int) ∧ (0 : Int) ≤ 2 ∧ 2 ≤ Int.ofNat s.data.toList.length by refine ⟨by omega, by omega, ?_⟩; show (2 : Int) ≤ ((s.data.toList.length : Nat) : Int); omega), cond_true, hcp]
    cases hc : cpI s.data.toList with
    | false => rw [readN_cp hc]; rfl
    | true =>
      rw [Bool.not_true, cond_false, codesRR, cond_true, show rrC s 0 2 2 ⟨0, 0, 0, 0⟩ = true from pB_iff.2 ⟨rfl, rfl, rfl, rfl, h2, h⟩, cond_true]
      by_cases h3 : (s.data.toList.drop 2).count 32 = 3
      · rw [readN_any hc h3]
        rcases rrG_quad h3 with ⟨k, q, e1, e2⟩ | ⟨a, b, c, d, e1, e2⟩
        · have eo : rrO s = (false, k, q) := e1
          rw [eo, e2]; rfl
        · have eo : rrO s = (true, 4, DQ.n a b c d) := e1
          obtain ⟨la, lb, lc, ld⟩ := quad_lt e2
          rw [eo, e2]
          have i4 : in4 (DQ.n a b c d).a (DQ.n a b c d).b (DQ.n a b c d).c (DQ.n a b c d).d = true := in4_lt la lb lc ld
          have ip : parB (DQ.n a b c d).a (DQ.n a b c d).b (DQ.n a b c d).c (DQ.n a b c d).d = parB (a : Int) (b : Int) (c : Int) (d : Int) := rfl
          have e4 : ∀ x : Option V, (bif !decide (((true, 4, DQ.n a b c d) : Bool × Nat × DQ).2.1 = (4 : Int)) then e61 else x) = x := fun x => rfl
          rw [e4]
          unfold rrF
          rw [ES1_u4, ES1_pb, i4, ip]
          unfold pqK
          dsimp only
          cases parB (a : Int) (b : Int) (c : Int) (d : Int) with
          | true => rfl
          | false => rfl
      · rw [readN_not h3]
        cases ho : rrO s with
        | mk o kq =>
          obtain ⟨k, q⟩ := kq
          cases o with
          | false => rfl
          | true =>
            have hk := rrG_k _ _ _ _ _ _ ho
            show (bif !decide ((k : Int) = 4) then e61 else _) = _
            rw [decide_eq_false (by omega)]
            rfl
  · rw [decide_eq_true (show Int.ofNat s.data.toList.length < 2 by show ((s.data.toList.length : Nat) : Int) < 2; omega), readN_cp (cpI_short (by omega))]; rfl
structure DR where
  rd : ByteArray → DQ
  re : ByteArray → Int
section
variable (D : DR)
def hRea : List V → Option (Bool × V)
  | [.str s] => some (true, .tuple [q4 (D.rd s).a (D.rd s).b (D.rd s).c (D.rd s).d, .int .i64 (D.re s)])
  | _ => none
def hRR : List V → Option (Bool × V)
  | [.str s] => some (decide (s.data.toList.length ≤ 1000), .tuple [q4 (D.rd s).a (D.rd s).b (D.rd s).c (D.rd s).d, .int .i64 (D.re s)])
  | _ => none
def tab9 : PTab := addTab 38 (hRea D) (addTab 39 (hRR D) emptyTab)
noncomputable abbrev orc9 : Oracle := N4.orcS (tab9 D) plainL
theorem reads_eval (s : ByteArray) : evalFn Tryz.prog (orc9 D) noLoops 100 10 Tryz.f10 [.str s] [] (fun v _ => some v) =
    bif decide (s.data.toList.length ≤ 1000) then bif eqQ (D.rd s) (D.rd s) then some (.bool (decide (D.re s = D.re s))) else flsV else none := by kernel_rfl
end
noncomputable def dR : DR := ⟨rdQ, reI⟩
theorem tab9_ok : PTabOk Tryz.prog (tab9 dR) := by
  refine addTab_ok ?_ (addTab_ok ?_ emptyTab_ok)
  · intro args c v h hc
    unfold hRea at h; split at h
    · rename_i s
      cases h
      have e := read_p s
      rw [resR_is] at e
      exact e
    · cases h
  · intro args c v h hc
    unfold hRR at h; split at h
    · rename_i s
      cases h
      have e := rread_p (s := s) (of_decide_eq_true hc)
      rw [resR_is] at e
      exact e
    · cases h
theorem reads_p {s : ByteArray} (h : s.data.toList.length ≤ 1000) : FnPure Tryz.prog 10 [.str s] (.bool true) := by
  refine fnPure_of_eval (N := 100) (N4.orcS_ok tab9_ok plainL_ok) mixed Tryz.func10 (by kernel_rfl) noLoops_ok ?_ rfl rfl
  refine (reads_eval dR s).trans ?_
  rw [decide_eq_true h, eqQ_iff.2 rfl, decide_eq_true rfl]; rfl
end Go.Proofs.YtpalajfcffdhoaaGreatDoor
