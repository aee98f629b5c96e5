/- Texts merged: Rr4, FrameD. -/
import Derived.Test.YtpalajfcffdhoaaDoorRr3
import Derived.Test.YtpalajfcffdhoaaDoorTx3
import Derived.Lay
import Derived.SevenTiedAt
import Derived.ChangeMaps5
import Derived.Test.YtpalajfcffdhoaaDoorTie
import Derived.Test.YtpalajfcffdhoaaDoorCards
import Derived.Test.YtpalajfcffdhoaaDoorEng4
import Derived.Test.YtpalajfcffdhoaaDoorEng5
/- Chapter 6: the reference's Read: its contract; the law DealReads answers true. -/
namespace Go.Proofs.YtpalajfcffdhoaaDoor
open Go Go.Eng Go.Deal
noncomputable def rrO (s : ByteArray) : Bool × Nat × DQ := rrG (s.data.toList.drop 2) 0 zQ []
noncomputable def rrC (s : ByteArray) (k fr i : Int) (q : DQ) : Bool := pB (k = 0 ∧ fr = 2 ∧ i = 2 ∧ q = zQ ∧ 2 ≤ s.data.toList.length ∧ s.data.toList.length ≤ 1000)
noncomputable abbrev rrLL : Loops := rrL rrC (fun s => (rrO s).1) (fun _ => 61) (fun s => ((rrO s).2.1 : Int)) (fun s => ((rrO s).2.1 : Int)) (fun s => (rrO s).2.2) (fun s => (rrO s).2.2)
theorem rrLL_ok : loopsOk Tryd.prog rrLL := by
  intro n g hg
  simp only [rrLL, rrL, sums] at hg
  split at hg
  · cases hg
    refine lsumF_ok (by kernel_rfl) (fun rd ps e1 s1 h => ?_)
    unfold rrTr at h
    split at h
    · rename_i s k fr i a b c d
      simp only [Fin.pick] at h
      cases hc : rrC s k fr i ⟨a, b, c, d⟩ with
      | false => rw [hc] at h; cases h
      | true =>
        rw [hc, cond_true] at h
        obtain ⟨rfl, rfl, rfl, hq, h2, h3⟩ := pB_iff.1 hc
        cases hq
        have hs : s.data.toList = s.data.toList.take 2 ++ ([] ++ s.data.toList.drop 2) := (List.take_append_drop 2 _).symm
        have main := rr_loop rd s h3 (.run 0 zQ (s.data.toList.take 2) [] (s.data.toList.drop 2)) ⟨by omega, hs⟩
        have e2 : (s.data.toList.take 2).length = 2 := by rw [List.length_take]; omega
        have ee : RS.enc s (.run 0 zQ (s.data.toList.take 2) [] (s.data.toList.drop 2)) = rrPs s 0 2 2 zQ := by
          show rrPs s _ _ _ _ = _
          rw [e2]; rfl
        have eo : RS.out (.run 0 zQ (s.data.toList.take 2) [] (s.data.toList.drop 2)) = rrO s := rfl
        rw [ee, eo] at main
        cases ho : rrO s with
        | mk o kq =>
          obtain ⟨k, q⟩ := kq
          rw [ho] at h main
          cases o with
          | true => cases h; exact main
          | false => cases h; exact main
    · cases h
  · cases hg
theorem codesRR : codesB [(rrLp, rrLp)] = true := by rw [codesB_iff]; intro x hx; simp at hx; rw [hx]
theorem rread_p {s : ByteArray} (h : s.data.toList.length ≤ 1000) : FnPure Tryd.prog 26 [.str s] (resR (readN s.data.toList)) := by
  refine fnPure_of_eval (N := 100) orcR_ok mixed Tryd.func26 (by kernel_rfl) rrLL_ok ?_ rfl (by unfold resR; split <;> rfl)
  refine (rread_eval ES1 _ _ _ _ _ _ _ s).trans ?_
  by_cases h2 : 2 ≤ s.data.toList.length
  · have hx : (extS s 0 2).data.toList = s.data.toList.take 2 := by unfold extS; simp
    have hcp : strEq (extS s 0 2) ⟨⟨[78, 58]⟩⟩ = cpI s.data.toList := by unfold strEq cpI; rw [hx]
    rw [decide_eq_false (show ¬ Int.ofNat s.data.toList.length < 2 by show ¬ ((s.data.toList.length : Nat) : Int) < 2; omega), cond_false, decide_eq_true (show 0 ≤ (0 : Int) ∧ (0 : Int) ≤ 2 ∧ 2 ≤ Int.ofNat s.data.toList.length by refine ⟨by omega, by omega, ?_⟩; show (2 : Int) ≤ ((s.data.toList.length : Nat) : Int); omega), cond_true, hcp]
    cases hc : cpI s.data.toList with
    | false => rw [readN_cp hc]; rfl
    | true =>
      rw [Bool.not_true, cond_false, codesRR, cond_true, show rrC s 0 2 2 ⟨0, 0, 0, 0⟩ = true from pB_iff.2 ⟨rfl, rfl, rfl, rfl, h2, h⟩, cond_true]
      by_cases h3 : (s.data.toList.drop 2).count 32 = 3
      · rw [readN_any hc h3]
        rcases rrG_quad h3 with ⟨k, q, e1, e2⟩ | ⟨a, b, c, d, e1, e2⟩
        · have eo : rrO s = (false, k, q) := e1
          rw [eo, e2]; rfl
        · have eo : rrO s = (true, 4, DQ.n a b c d) := e1
          obtain ⟨la, lb, lc, ld⟩ := quad_lt e2
          rw [eo, e2]
          have i4 : in4 (DQ.n a b c d).a (DQ.n a b c d).b (DQ.n a b c d).c (DQ.n a b c d).d = true := in4_lt la lb lc ld
          have ip : parB (DQ.n a b c d).a (DQ.n a b c d).b (DQ.n a b c d).c (DQ.n a b c d).d = parB (a : Int) (b : Int) (c : Int) (d : Int) := rfl
          have e4 : ∀ x : Option V, (bif !decide (((true, 4, DQ.n a b c d) : Bool × Nat × DQ).2.1 = (4 : Int)) then e61 else x) = x := fun x => rfl
          rw [e4]
          unfold rrF
          rw [ES1_u4, ES1_pb, i4, ip]
          unfold pqK
          dsimp only
          cases parB (a : Int) (b : Int) (c : Int) (d : Int) with
          | true => rfl
          | false => rfl
      · rw [readN_not h3]
        cases ho : rrO s with
        | mk o kq =>
          obtain ⟨k, q⟩ := kq
          cases o with
          | false => rfl
          | true =>
            have hk := rrG_k _ _ _ _ _ _ ho
            show (bif !decide ((k : Int) = 4) then e61 else _) = _
            rw [decide_eq_false (by omega)]
            rfl
  · rw [decide_eq_true (show Int.ofNat s.data.toList.length < 2 by show ((s.data.toList.length : Nat) : Int) < 2; omega), readN_cp (cpI_short (by omega))]; rfl
section
variable (D : D8)
def hRR : List V → Option (Bool × V)
  | [.str s] => some (decide (s.data.toList.length ≤ 1000), .tuple [q4 (D.rd s).a (D.rd s).b (D.rd s).c (D.rd s).d, .int .i64 (D.re s)])
  | _ => none
def tab9 : PTab := addTab 7 (hRea D) (addTab 26 (hRR D) (addTab 9 hAwa emptyTab))
noncomputable abbrev orc9 : Oracle := N4.orcS (tab9 D) plainL
theorem reads_eval (s : ByteArray) : evalFn Tryd.prog (orc9 D) noLoops 100 4 Tryd.f4 [.str s] [] (fun v _ => some v) =
    bif decide (300 < Int.ofNat s.data.toList.length) then truV else bif decide (s.data.toList.length ≤ 1000) then bif eqQ (D.rd s) (D.rd s) then bif decide (D.re s = D.re s) then truV else flsV else flsV else none := by kernel_rfl
end
theorem tab9_ok : PTabOk Tryd.prog (tab9 d8) := by
  refine addTab_ok ?_ (addTab_ok ?_ (addTab_ok ?_ emptyTab_ok))
  · intro args c v h hc
    unfold hRea at h; split at h
    · rename_i s
      cases h
      have e := read_p s
      rw [resR_is] at e
      exact e
    · cases h
  · intro args c v h hc
    unfold hRR at h; split at h
    · rename_i s
      cases h
      have e := rread_p (s := s) (of_decide_eq_true hc)
      rw [resR_is] at e
      exact e
    · cases h
  · intro args c v h hc
    unfold hAwa at h; split at h
    · cases h; exact awake_p
    · cases h
theorem orc9_ok : OracleOk Tryd.prog (orc9 d8) := N4.orcS_ok tab9_ok plainL_ok
theorem reads_true (s : ByteArray) : evalFn Tryd.prog (orc9 d8) noLoops 100 4 Tryd.f4 [.str s] [] (fun v _ => some v) = some (.bool true) := by
  refine (reads_eval d8 s).trans ?_
  by_cases h : 300 < s.data.toList.length
  · rw [decide_eq_true (show (300 : Int) < Int.ofNat s.data.toList.length by show (300 : Int) < ((s.data.toList.length : Nat) : Int); omega)]; rfl
  · rw [decide_eq_false (show ¬ (300 : Int) < Int.ofNat s.data.toList.length by show ¬ (300 : Int) < ((s.data.toList.length : Nat) : Int); omega), decide_eq_true (show s.data.toList.length ≤ 1000 by omega), eqQ_iff.2 rfl, decide_eq_true rfl]; rfl
end Go.Proofs.YtpalajfcffdhoaaDoor

/- Chapter 6: the frame of a law over a slice of bytes. -/
namespace Go.Proofs.YtpalajfcffdhoaaDoor
open Go Go.Eng Go.ChangeShapes Go.WideShapes Go.ChangeAt Go.RowKit Go.WideMaps
set_option linter.unusedVariables false
def laidL : List (String × DataW Unit) := [("unicode/utf8.acceptRanges", Rows.laid_unicode_utf8_acceptRanges), ("unicode/utf8.first", Rows.laid_unicode_utf8_first)]
theorem own10 : ownKnob Tryd.prog.godebug = none := by kernel_rfl
theorem laidOut10 : laidOutB Tryd.prog = true := by kernel_rfl
def envZ (a : Option Addr) : Env := { blk := fun _ => 0, delta := fun _ => 0, len := fun _ => 0, cap := fun _ => 0, isnil := fun _ => true, base := fun _ => a }
theorem u8_pos {a : Int} (w : (Lit.int .u8 a).wf = true) : 0 ≤ a ∧ a < 256 := by
  simp only [Lit.wf, IntKind.min, IntKind.max, IntKind.signed, IntKind.bits, Bool.and_eq_true] at w
  simp at w
  omega
theorem u64_rg {a : Int} (w : (Lit.int .u64 a).wf = true) : 0 ≤ a ∧ a < 18446744073709551616 := by
  simp only [Lit.wf, IntKind.min, IntKind.max, IntKind.signed, IntKind.bits, Bool.and_eq_true] at w
  simp at w
  omega
theorem u32_rg {a : Int} (w : (Lit.int .u32 a).wf = true) : 0 ≤ a ∧ a < 4294967296 := by
  simp only [Lit.wf, IntKind.min, IntKind.max, IntKind.signed, IntKind.bits, Bool.and_eq_true] at w
  simp at w
  omega
theorem inN_of {a b c d : Int} (h0 : (Lit.int .u32 a).wf = true) (h1 : (Lit.int .u32 b).wf = true) (h2 : (Lit.int .u32 c).wf = true) (h3 : (Lit.int .u32 d).wf = true) : N2.inN a b c d = true :=
  N2.inN_iff.2 ⟨u32_rg h0, u32_rg h1, u32_rg h2, u32_rg h3⟩
def bytesH (ws : List Int) : List Blk := [.rs false 1 (.ints .u8 ws)]
theorem bytes_ro {ws : List Int} : ∀ (b : Nat) blk, (bytesH ws)[b]? = some blk → blk.mine = false := by
  intro b blk hb
  match b, hb with
  | 0, hb => cases hb; rfl
  | _ + 1, hb => simp [bytesH] at hb
theorem holdsZB {W : World} (a : Option Addr) : Holds (envZ a) (bytesH []) W := by
  refine ⟨fun i blk hb => ?_, fun i j x y hi _ hm => ?_⟩
  · cases i with
    | zero =>
      simp only [bytesH, List.getElem?_cons_zero, Option.some.injEq] at hb
      subst hb
      exact ⟨rfl, by omega, rfl, Nat.le_refl _, fun _ => ⟨rfl, rfl⟩, fun h => by cases h⟩
    | succ i => simp [bytesH] at hb
  · cases i with
    | zero => simp only [bytesH, List.getElem?_cons_zero, Option.some.injEq] at hi; subst hi; cases hm
    | succ i => simp [bytesH] at hi
theorem holdsB {W : World} {b off len cap : Nat} {xs : List Int} (hx : xs.length = len) (hc : len ≤ cap) (hcell : ∀ (i : Nat) x, xs[i]? = some x → W.cell? ⟨b, off + i, none⟩ = some (.int .u8 x)) : Holds (envS b off len cap) (bytesH xs) W := by
  have h := soft_holds (holdsS (k := .u8) hx hc hcell)
  exact h
theorem okU_of {ws : List Int} (hw : ∀ n ∈ ws, (Lit.int .u8 n).wf = true) : okV ws := by
  intro c hc
  have := hw c hc
  simp only [Lit.wf, IntKind.min, IntKind.max, IntKind.signed, IntKind.bits, Bool.and_eq_true] at this
  simp at this
  omega
theorem open_bytes {H : Type} {enc : TypeId × Value → H} {W : World} {base : Nat} {ba : Option Addr} {n c : Nat} {d : DataW H} {p : List MemPlace} (h : DataW.Trod enc Tryd.prog W base (fun _ => true) true 22 (.slice ba n c) d p) :
    ∃ (ws : List Int) (E : Env), okV ws ∧ Holds E (bytesH ws) W ∧ conc E (.gs 0) = .slice ba n c := by
  obtain ⟨fuel, hf⟩ := h
  rcases open_ints Tryd.underlying22 Tryd.underlying5 (by kernel_rfl) hf with ⟨hcs, _⟩ | ⟨a, len, cap, zs, hcs, _, hl, hm, hz, _, hcell, hwz⟩
  · have hv1 := slice_cells hcs
    cases hv1
    exact ⟨[], envZ none, (fun _ h => by cases h), holdsZB none, rfl⟩
  · have hv1 := slice_cells hcs
    obtain ⟨e1, e2, e3⟩ : some a = ba ∧ len = n ∧ cap = c := by simp only [Value.slice.injEq] at hv1; exact ⟨hv1.1.symm, hv1.2.1.symm, hv1.2.2.symm⟩
    subst e1; subst e2; subst e3
    simp only [if_true] at hz
    rcases Nat.eq_zero_or_pos cap with hc0 | hc0
    · subst hc0
      obtain rfl : len = 0 := by omega
      exact ⟨[], envZ (some a), (fun _ h => by cases h), holdsZB (some a), rfl⟩
    · obtain ⟨b, off, rfl, hat⟩ := ints_at hcell (by omega)
      refine ⟨zs.take len, envS b off len cap, okU_of (fun n hn => hwz n (List.mem_of_mem_take hn)), holdsB (by rw [List.length_take]; omega) hl (fun i x hi => ?_), by simp [conc, envS]⟩
      rw [List.getElem?_take] at hi
      split at hi
      · have hlt := getElem?_lt hi
        rw [hat i hlt, List.getD_eq_getElem?_getD, hi]
        rfl
      · cases hi
theorem calls_bytes {O : Oracle} (hO : OracleOk Tryd.prog O) {L : Loops} (hL : loopsOk Tryd.prog L) {N : Nat} {f : FuncId} {fn : Func} (hf : Tryd.prog.funcs[f]? = some fn) {args : List V} {ws : List Int} (he : evalFn Tryd.prog O L N f fn args (bytesH ws) (fun v _ => some v) = some (.bool true)) {E : Env} {W : World} (hh : Holds E (bytesH ws) W) (hin : inSs (bytesH ws).length args = true) :
    Calls Tryd.prog f (concs E args).toArray W fun e w' => e = .returned (.bool true) ∧ RowKit.Below W.heap.size W w' := by
  obtain ⟨v1, h1, hk, hok⟩ := evalFn_ok hO mixed hf hL he
  cases hk
  refine (hok E W hh hin).mono ?_
  rintro e w' ⟨x, E', rfl, hx, _, ht⟩
  exact ⟨by rw [hx.bool], ht.below_ro bytes_ro⟩
end Go.Proofs.YtpalajfcffdhoaaDoor
