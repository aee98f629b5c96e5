/- Chapter 8: the law CallWrong is true. -/
import Derived.Test.YtpehklboickdpaaDoorTA2
import Derived.Test.YtpehklboickdpaaDoorCheap
namespace Go.Proofs.YtpehklboickdpaaDoor
open Go Go.Eng
theorem text_eval (c : Int) : evalG tabS plainL 17 Tryd.f17 [.int .u8 c] = bif !decide (c ≤ 37) then some (.tuple [.str ⟨#[]⟩, .int .i64 80]) else atB textsL c (fun t => some (.tuple [.str t, .int .i64 0])) := by kernel_rfl
theorem text_bad {c : Int} (h : 37 < c) : FnOK Tryd.prog 17 [.int .u8 c] gH (.tuple [.str ⟨#[]⟩, .int .i64 80]) gH := by
  have key : evalG tabS plainL 17 Tryd.f17 [.int .u8 c] = some (.tuple [.str ⟨#[]⟩, .int .i64 80]) := by
    rw [text_eval, decide_eq_false (show ¬ c ≤ 37 by omega)]; rfl
  obtain ⟨v1, h1, hk, hok⟩ := evalFn_ok (orcS_ok tabS_ok plainL_ok) mixed Tryd.func17 noLoops_ok key
  cases hk
  exact hok.plain rfl gH_ro
noncomputable def gTxb : List V → List Blk → Option (Bool × V × List Blk)
  | [.int .u8 c], [.glob 0 (.strs l)] => some (pB (l = textsL) && decide (37 < c), .tuple [.str ⟨#[]⟩, .int .i64 80], [])
  | _, _ => none
noncomputable def gTAb : List V → List Blk → Option (Bool × V × List Blk)
  | [.gs 1], [.glob 0 (.strs l), .rs _ 1 (.ints .u8 xs)] => some (pB (l = textsL) && (decide (xs.length ≤ 319) && (allU xs && !(taR xs []).1)), .tuple [.str ⟨#[]⟩, .int .i64 80], [])
  | _, _ => none
noncomputable def hTabW (C E : ByteArray → Int) : HTab := addH 17 gTxb (addH 18 gTAb (hTabB C E))
def glW : FuncId → List Nat := fun f => bif Nat.beq f 17 || (Nat.beq f 18 || (Nat.beq f 11 || (Nat.beq f 20 || Nat.beq f 21))) then [0] else []
def hDomW : FuncId → Bool := fun f => Nat.beq f 17 || (Nat.beq f 18 || hDomB f)
noncomputable abbrev orcWr (C E : ByteArray → Int) (T : PTab) : Oracle := inl Tryd.prog ftab T plainL 100 never hDomW (hOrcG glW (hTabW C E)) 20
theorem hTabW_ok : HTabOk Tryd.prog (hTabW rdC rdE) := by
  refine addH_ok ?_ (addH_ok ?_ hTabB_ok)
  · intro args h c v nb hq hc
    unfold gTxb at hq
    split at hq
    · cases hq
      simp only [Bool.and_eq_true, decide_eq_true_eq, pB_iff] at hc
      obtain ⟨rfl, h1⟩ := hc
      exact ⟨.of Tryd.func17 (by kernel_rfl), by rw [List.append_nil]; exact text_bad h1⟩
    · cases hq
  · intro args h c v nb hq hc
    unfold gTAb at hq
    split at hq
    · rename_i l nn xs
      cases hq
      simp only [Bool.and_eq_true, decide_eq_true_eq, pB_iff, Bool.not_eq_true'] at hc
      obtain ⟨rfl, h1, h2, h3⟩ := hc
      exact ⟨.of Tryd.func18 (by kernel_rfl), by rw [List.append_nil]; exact textall_bad nn h1 h2 h3⟩
    · cases hq
theorem orcWr_ok {T : PTab} (hT : PTabOk Tryd.prog T) : OracleOk Tryd.prog (orcWr rdC rdE T) := inl_ok (hOrcG_ok hTabW_ok) ftab_ok hT plainL_ok mixed 20
def fls8 : Option V := some (.bool false)
noncomputable def wrW (C E : ByteArray → Int) (w : ByteArray) (K : Option V) : Option V := bif pB (textsL = textsL) then bif !decide (C w = 0) then fls8 else bif !decide (E w = 81) then fls8 else bif pB (textsL = textsL) && (decide (lenS w ≤ 1000000) && raErr w) then K else none else none
def wrA (b l : Int) (K : Option V) : Option V := bif decide (b ≤ 37) then fls8 else bif !decide (chV b 0 = 0) then fls8 else bif !decide (juV b 20 = 0) then fls8 else bif !decide (juV 20 b = 0) then fls8 else bif !decide (wr .u8 (pl b + pd b) = 0) then fls8 else bif isB b then fls8 else bif !decide (chE b 0 = 80) then fls8 else
  bif !decide (juE b 20 = 80) then fls8 else bif !decide (juE 20 b = 80) then fls8 else bif !decide (wr .u8 (wr .u8 (bidV (wr .u8 (l.tmod 249 + 8)) 0 + bidV 1 (wr .u8 (5 + l.tmod 251))) + 0) = 0) then fls8 else bif !decide (bidE (wr .u8 (l.tmod 249 + 8)) 0 = 2) then fls8 else bif !decide (bidE 1 (wr .u8 (5 + l.tmod 251)) = 2) then fls8 else K
noncomputable def wrB (C E : ByteArray → Int) (s : ByteArray) : Option V := bif decide (1000 < Int.ofNat (lenS s)) then some (.bool true) else bif decide (lenS s + 1 ≤ 9223372036854775807) then bif decide (1 + lenS s ≤ 9223372036854775807) then bif decide (lenS s + 1 ≤ 9223372036854775807) then bif decide (1 + lenS s ≤ 9223372036854775807) then
  wrW C E (catS s ⟨#[35]⟩) (wrW C E (catS ⟨#[35]⟩ s) (wrW C E (catS s ⟨#[32]⟩) (wrW C E (catS ⟨#[32]⟩ s) (some (.bool true))))) else none else none else none else none
theorem wrong_eval (C E : ByteArray → Int) (n l : Int) (s : ByteArray) : evalFn Tryd.prog (orcWr C E tabJ) noLoops 100 7 Tryd.f7 [.int .u8 n, .int .u8 l, .str s] gH (fun v _ => some v) =
    bif pB (textsL = textsL) then bif pB (textsL = textsL) && decide (37 < wr .u8 (38 + n.tmod 218)) then bif pB (textsL = textsL) && (true && (allU [0, wr .u8 (38 + n.tmod 218)] && !(taR [0, wr .u8 (38 + n.tmod 218)] []).1)) then wrA (wr .u8 (38 + n.tmod 218)) l (wrB C E s) else none else none else none := by kernel_rfl
/-! ### words that are no calls -/
theorem rdF_none : ∀ {l : List ByteArray} {k : Nat} {s : ByteArray}, (∀ t ∈ l, t ≠ s) → rdF l k s = none
  | [], _, _, _ => rfl
  | t :: r, k, s, h => by
    unfold rdF
    have hs : strEq t s = false := by
      cases hh : strEq t s with
      | false => rfl
      | true => exact absurd (strEqW.1 hh) (h t (by simp))
    rw [hs]
    exact rdF_none fun u hu => h u (by simp [hu])
theorem rdL_bad {w : List UInt8} {c : UInt8} (hc : c = 35 ∨ c = 32) (h : c ∈ w) : rdL w = none := by
  have key : ∀ t ∈ textsL, (35 : UInt8) ∉ t.data.toList ∧ (32 : UInt8) ∉ t.data.toList := by decide
  refine rdF_none fun t ht he => ?_
  obtain ⟨h1, h2⟩ := key t ht
  have e : t.data.toList = w := by rw [he]; rfl
  rw [e] at h1 h2
  rcases hc with rfl | rfl
  · exact h1 h
  · exact h2 h
theorem rdL_nil : rdL [] = none := by
  have key : ∀ t ∈ textsL, t.data.toList ≠ [] := by decide
  refine rdF_none fun t ht he => key t ht ?_
  rw [he]; rfl
theorem raL_none {rd : List UInt8 → Option Nat} : ∀ {ws : List (List UInt8)} {acc : List Int}, (∃ w ∈ ws, rd w = none) → raL rd ws acc = none
  | [], _, ⟨w, h, _⟩ => by cases h
  | u :: ws, acc, ⟨w, h, hw⟩ => by
    unfold raL
    cases hu : rd u with
    | none => rfl
    | some c =>
      simp only
      split
      · rfl
      · rcases List.mem_cons.1 h with rfl | h
        · rw [hw] at hu; cases hu
        · exact raL_none ⟨w, h, hw⟩
theorem word_mem {c : UInt8} (hc : c ≠ 32) : ∀ {t : List UInt8}, c ∈ t → ∃ w ∈ splitW t, c ∈ w
  | b :: r, h => by
    cases hs : splitW r with
    | nil => exact absurd hs (splitW_ne r)
    | cons u us =>
      simp only [splitW, hs]
      rcases List.mem_cons.1 h with rfl | h
      · rw [if_neg hc]
        exact ⟨c :: u, by simp, by simp⟩
      · obtain ⟨w, hw, hcw⟩ := word_mem hc h
        rw [hs] at hw
        by_cases hb : b = 32
        · rw [if_pos hb]
          exact ⟨w, List.mem_cons_of_mem _ hw, hcw⟩
        · rw [if_neg hb]
          rcases List.mem_cons.1 hw with rfl | hw
          · exact ⟨b :: w, by simp, List.mem_cons_of_mem _ hcw⟩
          · exact ⟨w, List.mem_cons_of_mem _ hw, hcw⟩
theorem word_end : ∀ x : List UInt8, [] ∈ (splitW (x ++ [32])).tail
  | [] => by decide
  | b :: x => by
    have ih := word_end x
    rw [List.cons_append]
    cases hs : splitW (x ++ [32]) with
    | nil => exact absurd hs (splitW_ne _)
    | cons u us =>
      rw [hs] at ih
      simp only [splitW, hs]
      split
      · exact List.mem_cons_of_mem _ ih
      · exact ih
theorem word_start (x : List UInt8) : [] ∈ splitW (32 :: x) := by
  cases hs : splitW x with
  | nil => exact absurd hs (splitW_ne x)
  | cons u us => simp [splitW, hs]
theorem cat_bA (t u : List UInt8) : catS (bA t) (bA u) = bA (t ++ u) := rfl
theorem wrW_true {t : List UInt8} {c : UInt8} (hc : c = 35 ∨ c = 32) (hm : c ∈ t) (hl : t.length ≤ 1000000) (hw : ∃ w ∈ splitW t, rdL w = none) (K : Option V) : wrW rdC rdE (bA t) K = K := by
  obtain ⟨h1, h2⟩ := rd_none (rdL_bad hc hm)
  have h3 : raErr (bA t) = true := by
    unfold raErr
    have hs : strEq (bA t) ⟨#[]⟩ = false := by
      cases hh : strEq (bA t) ⟨#[]⟩ with
      | false => rfl
      | true =>
        have := bA_inj (r := []) (strEqW.1 hh)
        subst this
        cases hm
    have hb : raBad (bA t) = true := by
      unfold raBad raO
      rw [show (bA t).data.toList = t from rfl, raL_none hw]; rfl
    rw [hs, hb]; rfl
  unfold wrW
  rw [pB_iff.2 rfl, h1, h2, h3, decide_eq_true (show lenS (bA t) ≤ 1000000 from hl)]
  rfl
theorem wrB_true (s : ByteArray) : wrB rdC rdE s = some (.bool true) := by
  obtain ⟨t, rfl⟩ : ∃ t, s = bA t := ⟨_, bA_of s⟩
  unfold wrB
  by_cases h : (1000 : Int) < Int.ofNat (lenS (bA t))
  · rw [decide_eq_true h]; rfl
  · have hl : t.length ≤ 1000 := by
      have h' : ¬ (1000 : Int) < (t.length : Int) := h
      omega
    rw [decide_eq_false h, cond_false, lenS_bA, decide_eq_true (show t.length + 1 ≤ 9223372036854775807 by omega), decide_eq_true (show 1 + t.length ≤ 9223372036854775807 by omega)]
    simp only [cond_true]
    have e1 : catS (bA t) ⟨#[35]⟩ = bA (t ++ [35]) := rfl
    have e2 : catS ⟨#[35]⟩ (bA t) = bA (35 :: t) := rfl
    have e3 : catS (bA t) ⟨#[32]⟩ = bA (t ++ [32]) := rfl
    have e4 : catS ⟨#[32]⟩ (bA t) = bA (32 :: t) := rfl
    have m1 : (35 : UInt8) ∈ t ++ [35] := by simp
    have m2 : (35 : UInt8) ∈ 35 :: t := by simp
    obtain ⟨w1, q1, r1⟩ := word_mem (by decide) m1
    obtain ⟨w2, q2, r2⟩ := word_mem (by decide) m2
    rw [e1, e2, e3, e4, wrW_true (.inl rfl) m1 (by simp; omega) ⟨w1, q1, rdL_bad (.inl rfl) r1⟩, wrW_true (.inl rfl) m2 (by simp; omega) ⟨w2, q2, rdL_bad (.inl rfl) r2⟩,
      wrW_true (c := 32) (.inr rfl) (by simp) (by simp; omega) ⟨[], List.mem_of_mem_tail (word_end t), rdL_nil⟩, wrW_true (c := 32) (.inr rfl) (by simp) (by simp; omega) ⟨[], word_start t, rdL_nil⟩]
theorem wrA_true {b l : Int} (hb : 37 < b ∧ b < 256) (hl : 0 ≤ l ∧ l < 256) (K : Option V) : wrA b l K = K := by
  have h1 : decide (b ≤ 37) = false := decide_eq_false (by omega)
  have hB : isB b = false := by
    unfold isB
    rw [decide_eq_false (show ¬ b < 3 by omega), h1]; rfl
  have c1 : chV b 0 = 0 := by unfold chV; rw [h1]; rfl
  have c2 : chE b 0 = 80 := by unfold chE; rw [h1]; rfl
  have j1 : juV b 20 = 0 := by unfold juV; rw [h1]; rfl
  have j2 : juE b 20 = 80 := by unfold juE; rw [h1]; rfl
  have j3 : juV 20 b = 0 := by unfold juV; rw [hB]; rfl
  have j4 : juE 20 b = 80 := by unfold juE; rw [hB]; rfl
  have p1 : pl b = 0 := by unfold pl; rw [hB]; rfl
  have p2 : pd b = 0 := by unfold pd; rw [hB]; rfl
  have hL : wr .u8 (l.tmod 249 + 8) = (l % 249 + 8) % 256 := by rw [Int.tmod_eq_emod_of_nonneg hl.1]; rfl
  have hD : wr .u8 (5 + l.tmod 251) = 5 + l % 251 := by
    rw [Int.tmod_eq_emod_of_nonneg hl.1]
    show (5 + l % 251) % 256 = _
    omega
  have b1 : badB ((l % 249 + 8) % 256) 0 = true := by
    unfold badB
    by_cases h : (l % 249 + 8) % 256 < 1
    · rw [decide_eq_true h]; rfl
    · rw [decide_eq_false h, decide_eq_true (show 7 < (l % 249 + 8) % 256 by omega)]; rfl
  have b2 : badB 1 (5 + l % 251) = true := by
    unfold badB
    rw [decide_eq_true (show 5 ≤ 5 + l % 251 by omega)]; rfl
  have v1 : bidV ((l % 249 + 8) % 256) 0 = 0 := by unfold bidV; rw [b1]; rfl
  have v2 : bidE ((l % 249 + 8) % 256) 0 = 2 := by unfold bidE; rw [b1]; rfl
  have v3 : bidV 1 (5 + l % 251) = 0 := by unfold bidV; rw [b2]; rfl
  have v4 : bidE 1 (5 + l % 251) = 2 := by unfold bidE; rw [b2]; rfl
  unfold wrA
  rw [hL, hD, h1, hB, c1, c2, j1, j2, j3, j4, p1, p2, v1, v2, v3, v4]
  rfl
theorem wrong_true {n l : Int} (hn : 0 ≤ n ∧ n < 256) (hl : 0 ≤ l ∧ l < 256) (s : ByteArray) : evalFn Tryd.prog (orcWr rdC rdE tabJ) noLoops 100 7 Tryd.f7 [.int .u8 n, .int .u8 l, .str s] gH (fun v _ => some v) = some (.bool true) := by
  have hb : wr .u8 (38 + n.tmod 218) = 38 + n % 218 := by
    rw [Int.tmod_eq_emod_of_nonneg hn.1]
    show (38 + n % 218) % 256 = _
    omega
  have hA : allU [0, 38 + n % 218] = true := by
    unfold allU allU allU
    rw [decide_eq_true (show 0 ≤ (0 : Int) ∧ (0 : Int) < 256 by omega), decide_eq_true (show 0 ≤ 38 + n % 218 ∧ 38 + n % 218 < 256 by omega)]; rfl
  have hR : (taR [0, 38 + n % 218] []).1 = false := by
    unfold taR taR
    rw [decide_eq_true (show (0 : Int) ≤ 37 by omega), decide_eq_false (show ¬ 38 + n % 218 ≤ 37 by omega)]; rfl
  rw [wrong_eval, hb, pB_iff.2 rfl, decide_eq_true (show 37 < 38 + n % 218 by omega), hA, hR, wrA_true (by omega) hl, wrB_true]
  rfl
end Go.Proofs.YtpehklboickdpaaDoor
