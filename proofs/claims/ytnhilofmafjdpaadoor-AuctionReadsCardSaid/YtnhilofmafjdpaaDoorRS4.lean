/- Texts merged: RS4, FrameN. -/
import Derived.Test.YtnhilofmafjdpaaDoorRW
import Derived.Test.YtnhilofmafjdpaaDoorRB
import Derived.Test.YtnhilofmafjdpaaDoorEng4
import Derived.Lay
import Derived.WideKeyArgs
/- Chapter 9: the law AuctionReads. -/
namespace Go.Proofs.YtnhilofmafjdpaaDoor
open Go Go.Eng
noncomputable def gRds (C : List ByteArray → Bool) : List V → List Blk → Option (Bool × V × List Blk)
  | [.gs 1], [.glob 0 (.strs l), .rs _ 1 (.strs tb)] => some (pB (l = textsL) && C tb, .bool true, [])
  | _, _ => none
def rdsC (tb : List ByteArray) : Bool := decide (tb.length ≤ 100000)
noncomputable def hTab9 (C : List ByteArray → Bool) (N : NA) : HTab := addH 28 (gRds C) (hTabA N)
def dom9 : FuncId → Bool := fun f => Nat.beq f 28 || domA f
def gl9 : FuncId → List Nat := fun f => bif Nat.beq f 28 || (Nat.beq f 20 || Nat.beq f 13) then [0] else []
def nr9 : FuncId → Option Row := fun f => bif Nat.beq f 28 then some (.strs []) else some (.ints .u8 [])
theorem hTab9_ok : HTabOk Tryd.prog (hTab9 rdsC nA) := by
  refine addH_ok ?_ hTabA_ok
  intro args h c v nb hq hc
  unfold gRds at hq
  split at hq
  · cases hq
    simp only [Bool.and_eq_true, pB_iff, rdsC, decide_eq_true_eq] at hc
    obtain ⟨rfl, h1⟩ := hc
    exact ⟨.of Tryd.func28 (by kernel_rfl), by rw [List.append_nil]; exact reads_fn _ h1⟩
  · cases hq
noncomputable abbrev orc9 (C : List ByteArray → Bool) (N : NA) (T : PTab) (LL : FuncId → Loops) : Oracle := inl Tryd.prog ftab T LL 100 never dom9 (hOrcN gl9 nr9 (hTab9 C N)) 20
theorem orc9_ok {T : PTab} (hT : PTabOk Tryd.prog T) {LL : FuncId → Loops} (hL : ∀ f, loopsOk Tryd.prog (LL f)) : OracleOk Tryd.prog (orc9 rdsC nA T LL) := inl_ok (hOrcN_ok hTab9_ok) ftab_ok hT hL mixed 20
noncomputable def z1Lp : Code := loopOf 4 Tryd.f9
def z1T (nn : Bool) : Tm := ⟨mkS [(0, .gs 1), (2, .bool), (9, .gs 1), (10, .int .i64), (11, .int .i64)] 0 25, [.glob 0 strsT, .rs nn 1 strsT], []⟩
def z1X (nn : Bool) : Tm := ⟨mkS [(0, .gs 1), (2, .bool)] 0 25, [.glob 0 strsT, .rs nn 1 strsT], []⟩
theorem z1_round (C : List ByteArray → Bool) (N : NA) (nn : Bool) (rd : Option Nat) (b : Bool) (n i : Int) (tl tb : List ByteArray) : roundT Tryd.prog (orc9 C N emptyTab plainL) noLoops 100 2 rd 9 z1Lp (z1T nn) (z1X nn) [.b b, .i n, .i i, .ss tl, .ss tb] =
    bif decide (i < n) then atS tb i (fun s => bif decide (60 < Int.ofNat (lenS s)) then bif pB (tl = textsL) then some (.ret, [.b true, .ss tl, .ss tb], []) else none else some (.normal, [.b b, .i n, .i (wr .i64 (i + 1)), .ss tl, .ss tb], [])) else some (.exit 0, [.b b, .ss tl, .ss tb], []) := by cases nn <;> kernel_rfl
def lgS (tb : List ByteArray) : Bool := tb.any fun s => decide (60 < lenS s)
def z1Fin (b : Bool) (tl tb : List ByteArray) (q : Bool) : XE × List PV := if q = true then (.ret, [.b true, .ss tl, .ss tb]) else (.exit 0, [.b b, .ss tl, .ss tb])
theorem z1_loop (nn : Bool) (rd : Option Nat) (b : Bool) (tb : List ByteArray) (hl : tb.length ≤ 1000000) : ∀ i : Nat, i ≤ tb.length →
    SimC Tryd.prog 2 rd (.loop z1Lp) ((z1T nn).at [.b b, .i (tb.length : Int), .i (i : Int), .ss textsL, .ss tb]) (z1Fin b textsL tb (lgS (tb.drop i))).1 ((z1X nn).at (z1Fin b textsL tb (lgS (tb.drop i))).2) := by
  refine loop_of_rounds (C := orc9 rdsC nA emptyTab plainL) (L := noLoops) (N := 100) (me := 9) (T := z1T nn) (T' := z1X nn) (orc9_ok emptyTab_ok plainL_ok) mixed noLoops_ok (by cases nn <;> kernel_rfl) (by cases nn <;> kernel_rfl) (X := Nat)
    (fun i => [.b b, .i (tb.length : Int), .i (i : Int), .ss textsL, .ss tb]) (fun i => i ≤ tb.length) (fun i => tb.length - i) (fun i => z1Fin b textsL tb (lgS (tb.drop i))) ?_
  intro i hi
  have h := z1_round rdsC nA nn rd b (tb.length : Int) (i : Int) textsL tb
  rcases Nat.lt_or_ge i tb.length with hlt | hge
  · rw [decide_eq_true (show (i : Int) < (tb.length : Int) by omega), cond_true, atS_at hlt, wr64 (by omega) (by omega), pB_iff.2 rfl] at h
    have e : lgS (tb.drop i) = (decide (60 < lenS tb[i]) || lgS (tb.drop (i + 1))) := by rw [List.drop_eq_getElem_cons hlt]; rfl
    rw [e]
    by_cases hb : 60 < lenS tb[i]
    · rw [decide_eq_true (show 60 < Int.ofNat (lenS tb[i]) by show 60 < (lenS tb[i] : Int); omega)] at h
      rw [decide_eq_true hb]
      exact ⟨_, _, _, h, codes0, .inr ⟨by simp, rfl⟩⟩
    · rw [decide_eq_false (show ¬ 60 < Int.ofNat (lenS tb[i]) from fun e2 => hb (by have : 60 < (lenS tb[i] : Int) := e2; omega))] at h
      rw [decide_eq_false hb]
      exact ⟨_, _, _, h, codes0, .inl ⟨rfl, i + 1, rfl, by omega, by omega, by rw [Bool.false_or]⟩⟩
  · rw [decide_eq_false (show ¬ (i : Int) < (tb.length : Int) by omega), cond_false] at h
    refine ⟨_, _, _, h, codes0, .inr ⟨by simp, ?_⟩⟩
    rw [List.drop_eq_nil_of_le (by omega)]; rfl
noncomputable def z1Tree (LG : List ByteArray → Bool) (nn : Bool) : List PV → Fin
  | [.b b, .i n, .i i, .ss tl, .ss tb] => .br (decide (i = 0 ∧ n = Int.ofNat tb.length ∧ tb.length ≤ 1000000) && pB (tl = textsL)) (.br (LG tb) (.leaf .ret ((z1X nn).at [.b true, .ss tl, .ss tb])) (.leaf (.exit 0) ((z1X nn).at [.b b, .ss tl, .ss tb]))) .no
  | _ => .no
noncomputable def z1L (LG : List ByteArray → Bool) (nn : Bool) : Loops := sums (fun n => match n with | 4 => some (lsumF 2 (z1T nn) z1Lp (z1Tree LG nn)) | _ => none)
theorem z1L_ok (nn : Bool) : loopsOk Tryd.prog (z1L lgS nn) := by
  intro n g hg
  simp only [z1L, sums] at hg
  split at hg
  · cases hg
    refine lsumF_ok (by cases nn <;> kernel_rfl) (fun rd ps e1 st1 hq => ?_)
    unfold z1Tree at hq
    split at hq
    · rename_i b n i tl tb
      simp only [Fin.pick] at hq
      cases hc : (decide (i = 0 ∧ n = Int.ofNat tb.length ∧ tb.length ≤ 1000000) && pB (tl = textsL)) with
      | false => rw [hc] at hq; cases hq
      | true =>
        rw [hc, cond_true] at hq
        simp only [Bool.and_eq_true, decide_eq_true_eq, pB_iff] at hc
        obtain ⟨⟨rfl, rfl, h1⟩, rfl⟩ := hc
        have h := z1_loop nn rd b tb h1 0 (Nat.zero_le _)
        rw [List.drop_zero] at h
        unfold z1Fin at h
        cases hb : lgS tb with
        | true => rw [hb] at h hq; cases hq; exact h
        | false => rw [hb] at h hq; cases hq; exact h
    · cases hq
  · cases hg
theorem reads9_eval (C : List ByteArray → Bool) (N : NA) (LG : List ByteArray → Bool) (nn : Bool) (tb : List ByteArray) : evalFn Tryd.prog (orc9 C N emptyTab plainL) (z1L LG nn) 100 9 Tryd.f9 [.gs 1] (gH ++ [.rs nn 1 (.strs tb)]) (fun v _ => some v) =
    bif decide (110 < Int.ofNat tb.length) then bif pB (textsL = textsL) then some (.bool true) else none else cond (codesB [(z1Lp, z1Lp)]) (bif decide ((0 : Int) = 0 ∧ Int.ofNat tb.length = Int.ofNat tb.length ∧ tb.length ≤ 1000000) && pB (textsL = textsL) then bif LG tb then some (.bool true) else
      bif pB (textsL = textsL) && C tb then bif pB (textsL = textsL) then some (.bool true) else none else none else none) none := by cases nn <;> kernel_rfl
theorem auctionReads_true (nn : Bool) (tb : List ByteArray) : evalFn Tryd.prog (orc9 rdsC nA emptyTab plainL) (z1L lgS nn) 100 9 Tryd.f9 [.gs 1] (gH ++ [.rs nn 1 (.strs tb)]) (fun v _ => some v) = some (.bool true) := by
  rw [reads9_eval, pB_iff.2 rfl, lpCd]
  by_cases h : 110 < tb.length
  · rw [decide_eq_true (show 110 < Int.ofNat tb.length by show 110 < (tb.length : Int); omega)]; rfl
  · rw [decide_eq_false (show ¬ 110 < Int.ofNat tb.length from fun e => by have : 110 < (tb.length : Int) := e; omega), decide_eq_true (show (0 : Int) = 0 ∧ Int.ofNat tb.length = Int.ofNat tb.length ∧ tb.length ≤ 1000000 from ⟨rfl, rfl, by omega⟩), show rdsC tb = true from decide_eq_true (by omega)]
    cases lgS tb <;> rfl
end Go.Proofs.YtnhilofmafjdpaaDoor

/- Chapter 9: the frame of a law over the table and any number of slices of bytes. -/
namespace Go.Proofs.YtnhilofmafjdpaaDoor
open Go Go.Eng Go.ChangeShapes Go.WideShapes Go.ChangeAt Go.RowKit
theorem u8_range {a : Int} (w : (Lit.int .u8 a).wf = true) : 0 ≤ a ∧ a < 256 := by
  simp only [Lit.wf, IntKind.min, IntKind.max, IntKind.signed, IntKind.bits, Bool.and_eq_true] at w
  simp at w
  omega
def laidL : List (String × DataW Unit) := [("finesse/call.texts", Rows.laid_finesse_call_texts)]
def textsB : List (List UInt8) := textsL.map fun b => b.data.toList
theorem texts_datum : (Rows.laid_finesse_call_texts : DataW Unit) = .agg (textsB.map fun s => .lit (.string s)) := by kernel_rfl
theorem own : ownKnob Tryd.prog.godebug = none := by kernel_rfl
theorem gTexts : Tryd.prog.globalNamed "finesse/call.texts" = some 0 := by kernel_rfl
theorem tTexts : (Tryd.prog.globals[0]?).map (·.type) = some 106 := by kernel_rfl
theorem cells9 : Tryd.prog.cellsOf 9 = 1 := by kernel_rfl
theorem cells5 : Tryd.prog.cellsOf 5 = 1 := by kernel_rfl
theorem door_met (os : Os) (args : Array Value) : laidMetH Tryd.prog laidL ((World.doorLaid Tryd.prog 400 os).forCall (fun _ _ => 0) ⟨#[], args, []⟩).memory :=
  laidMetH_of_parts3 (fuel := 8) (laidMet_of_run' 8 (by kernel_rfl) (by kernel_rfl)) (by kernel_rfl) (by kernel_rfl)
/-- The table's cells. -/
def TextsAt (W : World) : Prop := ∀ (i : Nat) x, textsL[i]? = some x → W.cell? ⟨0, i, none⟩ = some (.string x)
theorem texts_of {W : World} (h : laidMetH Tryd.prog laidL W) : TextsAt W := by
  rw [MakeChecks.laidMetH_plain _ _ _ (by kernel_rfl)] at h
  obtain ⟨ps, ⟨g0, t0, cs0, f0, p0, q0, hg0, ht0, hv0, hd0, _, _⟩, _, _⟩ := h
  obtain rfl := Option.some.inj (gTexts.symm.trans hg0)
  obtain rfl := Option.some.inj (tTexts.symm.trans ht0)
  intro i x hx
  rw [World.var?_cell hg0 hv0 i]
  have := laid_strs Tryd.underlying106 Tryd.underlying9 cells9 hd0 texts_datum i x.data.toList (by rw [textsB, List.getElem?_map, hx]; rfl)
  simpa using this
/-- A slice of bytes that came in. -/
structure Sl where
  blk : Nat
  delta : Nat
  len : Nat
  cap : Nat
  nil : Bool
  base : Option Addr
def Sl.val (s : Sl) : Value := bif s.nil then .slice s.base 0 0 else .slice (some ⟨s.blk, s.delta, none⟩) s.len s.cap
def Sl.Ok (W : World) (s : Sl) (xs : List Int) : Prop := s.len = xs.length ∧ s.len ≤ s.cap ∧ (s.nil = true → xs = []) ∧ (s.nil = false → ∀ (i : Nat) x, xs[i]? = some x → W.cell? ⟨s.blk, s.delta + i, none⟩ = some (.int .u8 x))
def sl0 : Sl := ⟨0, 0, 0, 0, true, none⟩
def slAt (ss : List (Sl × List Int)) : Nat → Sl
  | 0 => sl0
  | b + 1 => match ss[b]? with | some x => x.1 | none => sl0
def envN (ss : List (Sl × List Int)) : Env := { blk := fun b => (slAt ss b).blk, delta := fun b => (slAt ss b).delta, len := fun b => (slAt ss b).len, cap := fun b => (slAt ss b).cap, isnil := fun b => (slAt ss b).nil, base := fun b => (slAt ss b).base }
def rsB (x : Sl × List Int) : Blk := .rs (!x.1.nil) 1 (.ints .u8 x.2)
def gN (ss : List (Sl × List Int)) : List Blk := gH ++ ss.map rsB
theorem ints_in (n : Nat) (k : IntKind) (l : List Int) : inSs n (Row.ints k l).toVs = true := by
  rw [inSs_eq, List.all_eq_true]; intro v hv; obtain ⟨z, _, rfl⟩ := List.mem_map.1 hv; rfl
theorem strs_in (n : Nat) (l : List ByteArray) : inSs n (Row.strs l).toVs = true := by
  rw [inSs_eq, List.all_eq_true]; intro v hv; obtain ⟨z, _, rfl⟩ := List.mem_map.1 hv; rfl
theorem gN_get {ss : List (Sl × List Int)} {b : Nat} {blk : Blk} (h : (gN ss)[b]? = some blk) : (b = 0 ∧ blk = .glob 0 (.strs textsL)) ∨ ∃ i x, b = i + 1 ∧ ss[i]? = some x ∧ blk = rsB x := by
  cases b with
  | zero => exact .inl ⟨rfl, by simpa [gN, gH] using h.symm⟩
  | succ i =>
    simp only [gN, gH, List.cons_append, List.nil_append, List.getElem?_cons_succ, List.getElem?_map, Option.map_eq_some_iff] at h
    obtain ⟨x, h1, h2⟩ := h
    exact .inr ⟨i, x, rfl, h1, h2.symm⟩
theorem gN_ro {ss : List (Sl × List Int)} (b : Nat) (blk : Blk) (h : (gN ss)[b]? = some blk) : blk.mine = false := by
  rcases gN_get h with ⟨_, rfl⟩ | ⟨_, _, _, _, rfl⟩ <;> rfl
theorem holdsN {W : World} (h : TextsAt W) {ss : List (Sl × List Int)} (hs : ∀ x ∈ ss, x.1.Ok W x.2) : Holds (envN ss) (gN ss) W := by
  refine ⟨fun b blk hb => ?_, fun b b' x x' hb hb' hm _ _ _ => by rw [gN_ro b x hb] at hm; cases hm⟩
  rcases gN_get hb with ⟨rfl, rfl⟩ | ⟨i, x, rfl, hi, rfl⟩
  · refine ⟨rfl, rfl, strs_in _ _, fun i v hv => ?_⟩
    simp only [Row.toVs, List.getElem?_map, Option.map_eq_some_iff] at hv
    obtain ⟨z, hz, rfl⟩ := hv
    have := h i z hz
    simpa [envN, slAt, sl0, conc] using this
  · obtain ⟨q1, q2, q3, q4⟩ := hs x (List.mem_of_getElem? hi)
    have e : slAt ss (i + 1) = x.1 := by simp [slAt, hi]
    refine ⟨ints_in _ _ _, by omega, by simp only [envN, e, Row.len, q1]; omega, by simp only [envN, e]; exact q2, fun hn => ?_, fun hn j v hj => ?_⟩
    · simp only [envN, e] at hn
      rw [Row.len, q3 hn, hn]; exact ⟨rfl, rfl⟩
    · simp only [envN, e] at hn ⊢
      simp only [Row.toVs, List.getElem?_map, Option.map_eq_some_iff] at hj
      obtain ⟨z, hz, rfl⟩ := hj
      exact q4 hn j z hz
theorem walkN {C : Oracle} (hC : OracleOk Tryd.prog C) {L : Loops} (hL : loopsOk Tryd.prog L) {f : FuncId} {fn : Func} (hf : Tryd.prog.funcs[f]? = some fn) {W : World} (h : TextsAt W) {ss : List (Sl × List Int)} (hs : ∀ x ∈ ss, x.1.Ok W x.2) {args : List V}
    (he : evalFn Tryd.prog C L 100 f fn args (gN ss) (fun v _ => some v) = some (.bool true)) (ha : inSs (gN ss).length args = true) :
    Calls Tryd.prog f (concs (envN ss) args).toArray W fun e w' => e = .returned (.bool true) ∧ RowKit.Below W.heap.size W w' := by
  obtain ⟨v1, h1, hk, hok⟩ := evalFn_ok hC mixed hf hL he
  cases hk
  refine (hok _ W (holdsN h hs) ha).mono ?_
  rintro e w' ⟨x, E', rfl, hx, _, ht⟩
  exact ⟨by rw [hx.bool], ht.below_ro gN_ro⟩
theorem allU_of : ∀ (xs : List Int), (∀ n ∈ xs, (Lit.int .u8 n).wf = true) → allU xs = true
  | [], _ => rfl
  | a :: r, h => by
    simp only [allU, Bool.and_eq_true, decide_eq_true_eq]
    exact ⟨u8_range (h a (by simp)), allU_of r fun n hn => h n (by simp [hn])⟩
/-- A slice of bytes, as its reading tells it. -/
theorem slice_of {H : Type} {enc : TypeId × Value → H} {W : World} {ba : Option Addr} {n c : Nat} {d : DataW H} {p : List MemPlace} (h : DataW.Trod enc Tryd.prog W 0 (fun _ => true) true 26 (.slice ba n c) d p) :
    ∃ (s : Sl) (xs : List Int), s.val = .slice ba n c ∧ s.Ok W xs ∧ allU xs = true ∧ s.len = n := by
  obtain ⟨fuel, hf⟩ := h
  rcases open_ints Tryd.underlying26 Tryd.underlying5 cells5 hf with ⟨hcs, _⟩ | ⟨a, len, cap, zs, hcs, _, hl, hm, hz, _, hcell, hwz⟩
  · have hv1 := slice_cells hcs
    cases hv1
    exact ⟨⟨0, 0, 0, 0, true, none⟩, [], rfl, ⟨rfl, Nat.le_refl _, fun _ => rfl, fun hn => by cases hn⟩, rfl, rfl⟩
  · have hv1 := slice_cells hcs
    obtain ⟨e1, e2, e3⟩ : some a = ba ∧ len = n ∧ cap = c := by simp only [Value.slice.injEq] at hv1; exact ⟨hv1.1.symm, hv1.2.1.symm, hv1.2.2.symm⟩
    subst e1; subst e2; subst e3
    have hz' : zs.length = cap := by simpa using hz
    rcases Nat.eq_zero_or_pos cap with hc0 | hc0
    · subst hc0
      obtain rfl : len = 0 := by omega
      exact ⟨⟨0, 0, 0, 0, true, some a⟩, [], rfl, ⟨rfl, Nat.le_refl _, fun _ => rfl, fun hn => by cases hn⟩, rfl, rfl⟩
    · obtain ⟨b, off, rfl, hat⟩ := ints_at hcell (by omega)
      refine ⟨⟨b, off, len, cap, false, none⟩, zs.take len, rfl, ⟨by show len = (zs.take len).length; rw [List.length_take]; omega, hl, (fun hn => by cases hn), fun _ i x hi => ?_⟩, allU_of _ fun n hn => hwz n (List.mem_of_mem_take hn), rfl⟩
      rw [List.getElem?_take] at hi
      split at hi
      · have hlt := getElem?_lt hi
        have := hat i hlt
        rw [List.getD_eq_getElem?_getD, hi] at this
        exact this
      · cases hi
end Go.Proofs.YtnhilofmafjdpaaDoor
