/- Texts merged: Sp4, Tx2, Tq, Rr1. -/
import Derived.Test.YtpalajfcffdhoaaGreatDoorSp3
import Derived.Test.YtpalajfcffdhoaaGreatDoorCWrite3
/- Chapter 6: deal.Read's contract. -/
namespace Go.Proofs.YtpalajfcffdhoaaGreatDoor
open Go Go.Eng
def pK (w : List UInt8) {α : Type} (K : Nat → Option α) : Option α := match N4.parseN w with
  | some m => K m
  | none => none
noncomputable def readN (l : List UInt8) : Option (Nat × Nat × Nat × Nat) := if cpI l = true ∧ l.length ≤ 69 ∧ (l.drop 2).count 32 = 3 then
    pK (ctZ (l.drop 2)) fun a => pK (ctZ (rsS (l.drop 2))) fun b => pK (ctZ (rsS (rsS (l.drop 2)))) fun c => pK (rsS (rsS (rsS (l.drop 2)))) fun d => if parB a b c d = true then some (a, b, c, d) else none
  else none
def resR : Option (Nat × Nat × Nat × Nat) → V
  | some (a, b, c, d) => .tuple [.agg [.int .u64 (a : Nat), .int .u64 (b : Nat), .int .u64 (c : Nat), .int .u64 (d : Nat)], .int .i64 0]
  | none => .tuple [.agg [.int .u64 0, .int .u64 0, .int .u64 0, .int .u64 0], .int .i64 61]
theorem rdI_at {i vl : Nat} {L : List ByteArray} {w : List UInt8} {K : Int → Option V} {F : Option V} {K' : Nat → Option (Nat × Nat × Nat × Nat)} (hi : i < vl) (hL : L.length = vl) (hx : L[i]? = some (bA w)) (hK : ∀ m : Nat, m < 4503599627370496 → K (m : Int) = some (resR (K' m))) :
    rdI ES0 (i : Int) vl L K F = some (resR (pK w K')) := by
  unfold rdI pK
  rw [decide_eq_true (show (i : Int) < Int.ofNat vl by show (i : Int) < (vl : Int); omega), decide_eq_true (show 0 ≤ (i : Int) ∧ (i : Int) < Int.ofNat vl ∧ 0 + vl ≤ L.length by refine ⟨by omega, ?_, by omega⟩; show (i : Int) < (vl : Int); omega), show (i : Int).toNat = i by omega, hx]
  show (bif !decide (N4.prE (bA w) = 0) then e61 else K (N4.prV (bA w))) = _
  unfold N4.prE N4.prV
  rw [show (bA w).data.toList = w from rfl]
  cases hp : N4.parseN w with
  | none => rfl
  | some m => exact hK m (N4.parse_only hp).2
theorem rdI_out {E : ES} {L : List ByteArray} {K : Int → Option V} {F : Option V} : rdI E 4 4 L K F = F := by
  unfold rdI
  rw [decide_eq_false (show ¬ (4 : Int) < Int.ofNat 4 by decide)]; rfl
theorem ES0_u4 : ES0.u4 = in4 := rfl
theorem ES0_pb : ES0.pb = parB := rfl
theorem in4_lt {a b c d : Nat} (ha : a < 4503599627370496) (hb : b < 4503599627370496) (hc : c < 4503599627370496) (hd : d < 4503599627370496) : in4 (a : Int) (b : Int) (c : Int) (d : Int) = true := by
  unfold in4
  rw [in64_iff.2 ⟨by omega, by omega⟩, in64_iff.2 ⟨by omega, by omega⟩, in64_iff.2 ⟨by omega, by omega⟩, in64_iff.2 ⟨by omega, by omega⟩]; rfl
theorem rdX_is {w0 w1 w2 w3 : List UInt8} : rdX ES0 4 [bA w0, bA w1, bA w2, bA w3] = some (resR (pK w0 fun a => pK w1 fun b => pK w2 fun c => pK w3 fun d => if parB a b c d = true then some (a, b, c, d) else none)) := by
  unfold rdX
  refine rdI_at (i := 0) (by decide) rfl rfl fun a ha => ?_
  refine rdI_at (i := 1) (by decide) rfl rfl fun b hb => ?_
  refine rdI_at (i := 2) (by decide) rfl rfl fun c hc => ?_
  refine rdI_at (i := 3) (by decide) rfl rfl fun d hd => ?_
  rw [rdI_out]
  unfold rdF
  rw [ES0_u4, in4_lt ha hb hc hd, cond_true, ES0_pb]
  cases parB (a : Int) (b : Int) (c : Int) (d : Int) with
  | true => rfl
  | false => rfl
theorem codesSS : codesB [(ssLp, ssLp)] = true := by rw [codesB_iff]; intro x hx; simp at hx; rw [hx]
theorem frS_set (k : Nat) (l : List UInt8) : (frS k l ++ [emp]).set k (bA (laS k l)) = frS k l ++ [bA (laS k l)] := by
  have h := frS_len k l
  rw [List.set_append_right _ _ (by omega), h, Nat.sub_self]; rfl
theorem rdS_is {s : ByteArray} {K : Nat → List ByteArray → Option V} (hl : s.data.toList.length ≤ 69) : rdS ES0 s K = K (s.data.toList.count 32 + 1) (frS (s.data.toList.count 32) s.data.toList ++ [bA (laS (s.data.toList.count 32) s.data.toList)]) := by
  have hle : s.data.toList.count 32 ≤ s.data.toList.length := List.count_le_length
  have hn : nZ s = ((s.data.toList.count 32 + 1 : Nat) : Int) := by
    unfold nZ
    rw [show N4.cntI s 32 = ((s.data.toList.count 32 : Nat) : Int) from rfl, N4.wr64 (x := ((s.data.toList.count 32 : Nat) : Int) + 1) (by omega) (by omega), show Int.ofNat s.data.toList.length = ((s.data.toList.length : Nat) : Int) from rfl, N4.wr64 (by omega) (by omega)]
    simp only [foldI, minI]
    rw [decide_eq_false (by omega)]
    rfl
  unfold rdS
  generalize hk : s.data.toList.count 32 = k at hle hn ⊢
  have hI : ES0.I s = (k : Int) := by show Int.ofNat (s.data.toList.count 32) = _; rw [hk]; rfl
  have hL : ES0.L s = frS k s.data.toList ++ [emp] := by show frS (s.data.toList.count 32) s.data.toList ++ [emp] = _; rw [hk]
  have hS : ES0.S s = bA (laS k s.data.toList) := by show bA (laS (s.data.toList.count 32) s.data.toList) = _; rw [hk]
  have hC : ES0.C s (wr .i64 (((k + 1 : Nat) : Int) - 1)) 0 (List.replicate ((k + 1 : Nat) : Int).toNat ⟨#[]⟩) = true := by
    refine pB_iff.2 ⟨?_, rfl, ?_, hl⟩
    · rw [hk, N4.wr64 (by omega) (by omega)]; show _ = (k : Int); omega
    · rw [hk]; rfl
  have hlen : (frS k s.data.toList ++ [emp]).length = k + 1 := by rw [List.length_append, frS_len]; rfl
  rw [hn, decide_eq_true (show 0 ≤ ((k + 1 : Nat) : Int) ∧ ((k + 1 : Nat) : Int) ≤ ((k + 1 : Nat) : Int) ∧ ((k + 1 : Nat) : Int) * 17 ≤ 140737488355328 by omega), codesSS, hC, hI, hL, hS, show ((k : Int)).toNat = k by omega, frS_set, hlen,
    decide_eq_true (show 0 ≤ (k : Int) ∧ (k : Int) < Int.ofNat (k + 1) by refine ⟨by omega, ?_⟩; show (k : Int) < ((k + 1 : Nat) : Int); omega), decide_eq_true (show k < k + 1 by omega), N4.wr64 (x := (k : Int) + 1) (by omega) (by omega),
    decide_eq_true (show 0 ≤ (0 : Int) ∧ 0 ≤ (k : Int) + 1 ∧ (k : Int) + 1 ≤ Int.ofNat (frS k s.data.toList ++ [bA (laS k s.data.toList)]).length by
      refine ⟨by omega, by omega, ?_⟩
      rw [List.length_append, frS_len]; show (k : Int) + 1 ≤ ((k + 1 : Nat) : Int); omega), show ((k : Int) + 1).toNat = k + 1 by omega]
  rfl
theorem read_p (s : ByteArray) : FnPure Tryz.prog 38 [.str s] (resR (readN s.data.toList)) := by
  refine fnPure_of_eval (N := 100) (N4.orcS_ok tabSp_ok ssL_ok) mixed Tryz.func38 (by kernel_rfl) noLoops_ok ?_ rfl (by unfold resR; split <;> rfl)
  rw [read_eval]
  show (bif !(cpI s.data.toList) then _ else _) = _
  unfold readN
  cases hc : cpI s.data.toList with
  | false => rw [if_neg (fun h => by cases h.1)]; rfl
  | true =>
    simp only [Bool.not_true, cond_false]
    by_cases hl : s.data.toList.length ≤ 69
    · rw [decide_eq_false (show ¬ (69 : Int) < Int.ofNat s.data.toList.length by show ¬ (69 : Int) < ((s.data.toList.length : Nat) : Int); omega), cond_false, show ES0.cs s = bA (s.data.toList.drop 2) by show ctP s = _; unfold ctP; rw [hc]; rfl,
        rdS_is (by show (s.data.toList.drop 2).length ≤ 69; rw [List.length_drop]; omega), show (bA (s.data.toList.drop 2)).data.toList = s.data.toList.drop 2 from rfl]
      generalize s.data.toList.drop 2 = r
      by_cases h3 : r.count 32 = 3
      · rw [if_pos ⟨trivial, hl, h3⟩, h3]
        exact rdX_is
      · rw [if_neg (fun h => h3 h.2.2), decide_eq_false (show ¬ Int.ofNat (r.count 32 + 1) = 4 by show ¬ ((r.count 32 + 1 : Nat) : Int) = 4; omega)]; rfl
    · rw [if_neg (fun h => hl h.2.1), decide_eq_true (show (69 : Int) < Int.ofNat s.data.toList.length by show (69 : Int) < ((s.data.toList.length : Nat) : Int); omega)]; rfl
end Go.Proofs.YtpalajfcffdhoaaGreatDoor

/- Chapter 6: texts of partial deals, plainly: Read and Text are the opposite of one another. -/
namespace Go.Proofs.YtpalajfcffdhoaaGreatDoor
open Go Go.Eng Go.Deal
theorem suf_cnt (m s : Nat) : ∀ n, (N4.suf m s n).length + cnt m (13 * s) = cnt m (13 * s + n)
  | 0 => by simp [N4.suf]
  | n + 1 => by
    have ih := suf_cnt m s n
    have e : cnt m (13 * s + n + 1) = if m.testBit (13 * s + n) then cnt m (13 * s + n) + 1 else cnt m (13 * s + n) := rfl
    simp only [N4.suf]
    rw [← Nat.add_assoc, e]
    split
    · rw [List.length_cons]; omega
    · exact ih
theorem wtxt_cnt (m : Nat) : (N4.wtxt m).length = cnt m 52 + 3 := by
  have h3 := suf_cnt m 3 13; have h2 := suf_cnt m 2 13; have h1 := suf_cnt m 1 13; have h0 := suf_cnt m 0 13
  have e : cnt m (13 * 0) = 0 := rfl
  simp only [Nat.reduceMul, Nat.reduceAdd] at h3 h2 h1 h0 e
  simp only [N4.wtxt, List.length_append, List.length_cons]
  omega
theorem part_cnt {a b c d : Nat} (P : PartD a b c d) : cnt a 52 + cnt b 52 + cnt c 52 + cnt d 52 ≤ 52 := by
  have h := cnt_le (a ||| b ||| c ||| d) 52
  rw [cnt_or (Dis.symm (dis_or.2 ⟨dis_or.2 ⟨P.ad.symm, P.bd.symm⟩, P.cd'.symm⟩)), cnt_or (Dis.symm (dis_or.2 ⟨P.ac.symm, P.bc.symm⟩)), cnt_or P.ab] at h
  exact h
theorem txL_len {a b c d : Nat} (P : PartD a b c d) : (txL a b c d).length ≤ 69 := by
  have h := part_cnt P
  unfold txL
  simp only [List.length_cons, List.length_append, wtxt_cnt]
  omega
theorem pK_some {w : List UInt8} {α : Type} {K : Nat → Option α} {x : α} (h : pK w K = some x) : ∃ m, N4.parseN w = some m ∧ K m = some x := by
  unfold pK at h
  cases hp : N4.parseN w with
  | none => rw [hp] at h; cases h
  | some m => rw [hp] at h; exact ⟨m, rfl, h⟩
theorem cpI_is {l : List UInt8} (h : cpI l = true) : l = 78 :: 58 :: l.drop 2 := by
  unfold cpI at h
  rw [beqBs_eq] at h
  have h2 := eq_of_beq h
  have h3 := List.take_append_drop 2 l
  rw [h2] at h3
  exact h3.symm
end Go.Proofs.YtpalajfcffdhoaaGreatDoor

/- Chapter 6: deals as four numbers; what a text says. -/
namespace Go.Proofs.YtpalajfcffdhoaaGreatDoor
open Go Go.Eng Go.Deal
def z64 : TR := .vs [.lit .u64 0, .lit .u64 0, .lit .u64 0, .lit .u64 0]
structure DQ where
  a : Int
  b : Int
  c : Int
  d : Int
def DQ.n (a b c d : Nat) : DQ := ⟨a, b, c, d⟩
def qOf : Option (Nat × Nat × Nat × Nat) → DQ
  | some (a, b, c, d) => DQ.n a b c d
  | none => ⟨0, 0, 0, 0⟩
def eOf : Option (Nat × Nat × Nat × Nat) → Int
  | some _ => 0
  | none => 61
noncomputable def rdQ (s : ByteArray) : DQ := qOf (readN s.data.toList)
noncomputable def reI (s : ByteArray) : Int := eOf (readN s.data.toList)
theorem resR_is (r : Option (Nat × Nat × Nat × Nat)) : resR r = .tuple [q4 (qOf r).a (qOf r).b (qOf r).c (qOf r).d, .int .i64 (eOf r)] := by
  cases r with
  | none => rfl
  | some p => obtain ⟨a, b, c, d⟩ := p; rfl
def eqQ (p q : DQ) : Bool := decide (p.a = q.a) && (decide (p.b = q.b) && (decide (p.c = q.c) && (decide (p.d = q.d) && true)))
theorem eqQ_iff {p q : DQ} : eqQ p q = true ↔ p = q := by
  obtain ⟨_, _, _, _⟩ := p; obtain ⟨_, _, _, _⟩ := q
  unfold eqQ
  simp [Bool.and_eq_true]
end Go.Proofs.YtpalajfcffdhoaaGreatDoor

/- Chapter 6: the reference's Read: a round of its loop, at each literal seat. -/
namespace Go.Proofs.YtpalajfcffdhoaaGreatDoor
open Go Go.Eng Go.Deal
noncomputable def rrLp : Code := loopOf 7 Tryz.f39
def rrT : Tm := ⟨mkS [(0, .str), (2, .ptr 0 0), (3, .lit .i64 0), (4, .ptr 1 0), (5, .int .i64), (6, .int .i64), (7, .int .i64)] 0 66, [.own 23 z64, .own 23 u64t], []⟩
def rrX : Tm := ⟨mkS [(2, .ptr 0 0), (3, .int .i64), (4, .ptr 1 0), (5, .int .i64)] 0 66, [.own 23 z64, .own 23 u64t], []⟩
section
variable (E : ES)
def tabRr : PTab := addTab 74 (sPa E) (addTab 21 (sPb E) N4.tabI)
noncomputable abbrev orcRr : Oracle := N4.orcS (tabRr E) plainL
def rrPs (s : ByteArray) (k fr i : Int) (q : DQ) : List PV := [.s s, .i k, .i fr, .i i, .i q.a, .i q.b, .i q.c, .i q.d]
def rrX61 (k : Int) (q : DQ) : RT := some (.ret, [.i 61, .i k, .i q.a, .i q.b, .i q.c, .i q.d], [])
def rrP (s : ByteArray) (k fr i : Int) (q : DQ) (K : Int → RT) : RT := bif decide (0 ≤ fr ∧ fr ≤ i ∧ i ≤ Int.ofNat s.data.toList.length) then bif E.pk (extS s fr.toNat i.toNat) then
  bif !decide (E.pe (extS s fr.toNat i.toNat) = 0) then rrX61 k q else K (E.pv (extS s fr.toNat i.toNat)) else none else none
def rrR (s : ByteArray) (k fr i : Int) (q : DQ) (K : Int → RT) : RT := bif decide (i ≤ Int.ofNat s.data.toList.length) then
    bif decide (i < Int.ofNat s.data.toList.length) then N4.chAt s i fun b => bif !decide ((b.toNat : Int) = 32) then some (.normal, rrPs s k fr (wr .i64 (i + 1)) q, []) else rrP E s k fr i q K
    else rrP E s k fr i q K
  else some (.exit 0, [.i 0, .i k, .i q.a, .i q.b, .i q.c, .i q.d], [])
theorem rr_0 (rd : Option Nat) (s : ByteArray) (fr i : Int) (q : DQ) : roundT Tryz.prog (orcRr E) noLoops 100 0 rd 39 rrLp rrT rrX (rrPs s 0 fr i q) = rrR E s 0 fr i q fun v => some (.normal, rrPs s 1 (wr .i64 (i + 1)) (wr .i64 (i + 1)) ⟨v, q.b, q.c, q.d⟩, []) := by kernel_rfl
theorem rr_1 (rd : Option Nat) (s : ByteArray) (fr i : Int) (q : DQ) : roundT Tryz.prog (orcRr E) noLoops 100 0 rd 39 rrLp rrT rrX (rrPs s 1 fr i q) = rrR E s 1 fr i q fun v => some (.normal, rrPs s 2 (wr .i64 (i + 1)) (wr .i64 (i + 1)) ⟨q.a, v, q.c, q.d⟩, []) := by kernel_rfl
theorem rr_2 (rd : Option Nat) (s : ByteArray) (fr i : Int) (q : DQ) : roundT Tryz.prog (orcRr E) noLoops 100 0 rd 39 rrLp rrT rrX (rrPs s 2 fr i q) = rrR E s 2 fr i q fun v => some (.normal, rrPs s 3 (wr .i64 (i + 1)) (wr .i64 (i + 1)) ⟨q.a, q.b, v, q.d⟩, []) := by kernel_rfl
theorem rr_3 (rd : Option Nat) (s : ByteArray) (fr i : Int) (q : DQ) : roundT Tryz.prog (orcRr E) noLoops 100 0 rd 39 rrLp rrT rrX (rrPs s 3 fr i q) = rrR E s 3 fr i q fun v => some (.normal, rrPs s 4 (wr .i64 (i + 1)) (wr .i64 (i + 1)) ⟨q.a, q.b, q.c, v⟩, []) := by kernel_rfl
theorem rr_4 (rd : Option Nat) (s : ByteArray) (fr i : Int) (q : DQ) : roundT Tryz.prog (orcRr E) noLoops 100 0 rd 39 rrLp rrT rrX (rrPs s 4 fr i q) = rrR E s 4 fr i q fun _ => rrX61 4 q := by kernel_rfl
noncomputable def rrTr (C : ByteArray → Int → Int → Int → DQ → Bool) (OK : ByteArray → Bool) (EE SE SK : ByteArray → Int) (QE QK : ByteArray → DQ) : List PV → Fin
  | [.s s, .i k, .i fr, .i i, .i a, .i b, .i c, .i d] => .br (C s k fr i ⟨a, b, c, d⟩) (.br (OK s) (.leaf (.exit 0) (rrX.at [.i 0, .i (SK s), .i (QK s).a, .i (QK s).b, .i (QK s).c, .i (QK s).d])) (.leaf .ret (rrX.at [.i (EE s), .i (SE s), .i (QE s).a, .i (QE s).b, .i (QE s).c, .i (QE s).d]))) .no
  | _ => .no
noncomputable def rrL (C : ByteArray → Int → Int → Int → DQ → Bool) (OK : ByteArray → Bool) (EE SE SK : ByteArray → Int) (QE QK : ByteArray → DQ) : Loops := sums (fun n => match n with | 7 => some (lsumF 0 rrT rrLp (rrTr C OK EE SE SK QE QK)) | _ => none)
def rrF (q : DQ) : Option V := bif E.u4 q.a q.b q.c q.d then bif !E.pb q.a q.b q.c q.d then e61 else some (.tuple [q4 q.a q.b q.c q.d, .int .i64 0]) else none
theorem rread_eval (C : ByteArray → Int → Int → Int → DQ → Bool) (OK : ByteArray → Bool) (EE SE SK : ByteArray → Int) (QE QK : ByteArray → DQ) (s : ByteArray) : evalFn Tryz.prog (orcRr E) (rrL C OK EE SE SK QE QK) 100 39 Tryz.f39 [.str s] [] (fun v _ => some v) =
    bif decide (Int.ofNat s.data.toList.length < 2) then e61 else bif decide (0 ≤ (0 : Int) ∧ (0 : Int) ≤ 2 ∧ 2 ≤ Int.ofNat s.data.toList.length) then bif !strEq (extS s 0 2) ⟨⟨[78, 58]⟩⟩ then e61 else
      cond (codesB [(rrLp, rrLp)]) (bif C s 0 2 2 ⟨0, 0, 0, 0⟩ then bif OK s then bif !decide (SK s = 4) then e61 else rrF E (QK s) else some (.tuple [q4 0 0 0 0, .int .i64 (EE s)]) else none) none else none := by kernel_rfl
end
end Go.Proofs.YtpalajfcffdhoaaGreatDoor
