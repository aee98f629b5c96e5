/- Texts merged: Ir1, Sem. -/
import Derived.Test.YtojlmpcbplepcaaLeg
import Derived.Test.YtojlmpcbplepcaaEng5
/- Chapter 10: what package irregular asks of auctions: recent calls, over, free, low, passed. -/
namespace Go.Proofs.Ytojlmpcbplepcaa
open Go Go.Eng
/-- The contracts of Last, Over, Check as names. -/
structure NI where
  LI : List Int → Int
  LB : List Int → Bool
  OB : Int → List Int → Bool
  OE : Int → List Int → Int
  CA : Int → List Int → Int
  CE : Int → List Int → Int
  K : Int → List Int → Bool
  KS : List Int → Bool
  MK : Int → Int → Int
def mkI (d i : Int) : Int := wr .u8 ((wr .i64 (wr .i64 d + i)).tmod 4)
def nI : NI := ⟨fun xs => (lastN xs xs.length).1, fun xs => (lastN xs xs.length).2, fun d xs => decide ((fol d xs).e = 0) && ovr (fol d xs).s, fun d xs => bif decide ((fol d xs).e = 0) then 0 else 2,
  fun d xs => (fol d xs).at_, fun d xs => (fol d xs).e, okA, smallL, mkI⟩
def iLast (N : NI) : List V → List Blk → Option (Bool × V × List Blk)
  | [.gs 0], [.rs _ 1 (.ints .u8 xs)] => some (N.KS xs, .tuple [.int .i64 (N.LI xs), .bool (N.LB xs)], [])
  | _, _ => none
def iOver (N : NI) : List V → List Blk → Option (Bool × V × List Blk)
  | [.int .u8 d, .gs 0], [.rs _ 1 (.ints .u8 xs)] => some (N.K d xs, .tuple [.bool (N.OB d xs), .int .i64 (N.OE d xs)], [])
  | _, _ => none
def iCheck (N : NI) : List V → List Blk → Option (Bool × V × List Blk)
  | [.int .u8 d, .gs 0], [.rs _ 1 (.ints .u8 xs)] => some (N.K d xs, .tuple [.int .i64 (N.CA d xs), .int .i64 (N.CE d xs)], [])
  | _, _ => none
def hTabI (N : NI) : HTab := addH 54 (iLast N) (addH 65 (iOver N) (addH 66 (iCheck N) emptyH))
theorem hTabI_ok : HTabOk Try.prog (hTabI nI) := by
  refine addH_ok ?_ (addH_ok ?_ (addH_ok ?_ emptyH_ok))
  · intro args h c v nb hq hc
    unfold iLast at hq
    split at hq
    · cases hq; exact ⟨.of Try.func54 (by kernel_rfl), by rw [List.append_nil]; exact last_fn _ hc⟩
    · cases hq
  · intro args h c v nb hq hc
    unfold iOver at hq
    split at hq
    · cases hq
      refine ⟨.of Try.func65 (by kernel_rfl), ?_⟩
      rw [List.append_nil]
      have := over22_fn (by assumption) hc
      unfold overV at this
      rename_i d _ xs
      show FnOK _ _ _ _ (.tuple [.bool (decide ((fol d xs).e = 0) && ovr (fol d xs).s), .int .i64 (bif decide ((fol d xs).e = 0) then 0 else 2)]) _
      cases he : decide ((fol d xs).e = 0) <;> (rw [he] at this; exact this)
    · cases hq
  · intro args h c v nb hq hc
    unfold iCheck at hq
    split at hq
    · cases hq; exact ⟨.of Try.func66 (by kernel_rfl), by rw [List.append_nil]; exact check18_fn _ hc⟩
    · cases hq
theorem maker_p (d i : Int) : FnPure Try.prog 56 [.int .u8 d, .int .i64 i] (.int .u8 (mkI d i)) := pure_at emptyTab_ok Try.func56 (by kernel_rfl) (show evalP emptyTab 56 Try.f56 [.int .u8 d, .int .i64 i] = some (.int .u8 (mkI d i)) by kernel_rfl) rfl rfl
def iMaker (MK : Int → Int → Int) : List V → Option (Bool × V)
  | [.int .u8 d, .int .i64 i] => some (true, .int .u8 (MK d i))
  | _ => none
def tabI (N : NI) : PTab := addTab 35 gRight (addTab 55 gPartsP (addTab 56 (iMaker N.MK) emptyTab))
theorem tabI_ok : PTabOk Try.prog (tabI nI) := by
  refine addTab_ok ?_ (addTab_ok ?_ (addTab_ok ?_ emptyTab_ok))
  · intro args c v h _
    unfold gRight at h
    split at h
    · cases h; exact right_p _
    · cases h
  · intro args c v h _
    unfold gPartsP at h
    split at h
    · cases h; rw [← ptV_is]; exact parts_p _
    · cases h
  · intro args c v h _
    unfold iMaker at h
    split at h
    · cases h; exact maker_p _ _
    · cases h
def domI : FuncId → Bool := fun f => Nat.beq f 54 || (Nat.beq f 65 || Nat.beq f 66)
def nr8 : FuncId → Nat → Option Row := fun _ _ => some (.ints .u8 [])
noncomputable abbrev orcI (N : NI) (T : PTab) (LL : FuncId → Loops) : Oracle := inl Try.prog ftab T LL 100 never domI (hOrcX nr8 (hTabI N)) 20
theorem orcI_ok {T : PTab} (hT : PTabOk Try.prog T) {LL : FuncId → Loops} (hL : ∀ f, loopsOk Try.prog (LL f)) : OracleOk Try.prog (orcI nI T LL) := inl_ok (hOrcX_ok hTabI_ok) ftab_ok hT hL mixed 20
end Go.Proofs.Ytojlmpcbplepcaa

/- Chapter 9: what follow gives, call by call. -/
namespace Go.Proofs.Ytojlmpcbplepcaa
open Go Go.Eng
theorem flw_app : ∀ (l r : List Int) (i : Nat) (s : St), (flw l i s).e = 0 → flw (l ++ r) i s = flw r (i + l.length) (flw l i s).s
  | [], r, i, s, _ => rfl
  | c :: q, r, i, s, h => by
    unfold flw at h
    simp only [List.cons_append, List.length_cons]
    rw [flw, flw]
    by_cases hb : chk s c = 0
    · rw [decide_eq_true hb] at h ⊢
      simp only [cond_true] at h ⊢
      rw [flw_app q r (i + 1) _ h, show i + 1 + q.length = i + (q.length + 1) by omega]
    · rw [decide_eq_false hb] at h; exact absurd h hb
theorem fol_app {d : Int} {l : List Int} (h : (fol d l).e = 0) (r : List Int) : fol d (l ++ r) = flw r l.length (fol d l).s := by
  unfold fol at h ⊢
  cases hd : decide (3 < d) with
  | true => rw [hd] at h; cases h
  | false =>
    rw [hd] at h
    simp only [cond_false] at h ⊢
    rw [flw_app l r 0 _ h, Nat.zero_add]
theorem fol_snoc {d : Int} {l : List Int} (h : (fol d l).e = 0) (c : Int) : fol d (l ++ [c]) = bif decide (chk (fol d l).s c = 0) then ⟨aft (fol d l).s c, aft (fol d l).s c, -1, 0⟩ else ⟨(fol d l).s, st0 0, l.length, chk (fol d l).s c⟩ := by
  rw [fol_app h [c]]; rfl
theorem fol_nil {d : Int} (h : d ≤ 3) : fol d [] = ⟨st0 d, st0 d, -1, 0⟩ := by
  unfold fol
  rw [decide_eq_false (by omega)]; rfl
theorem fol_ok_snoc {d c : Int} {l : List Int} (h : (fol d l).e = 0) (hc : chk (fol d l).s c = 0) : (fol d (l ++ [c])).e = 0 ∧ (fol d (l ++ [c])).s = aft (fol d l).s c := by
  rw [fol_snoc h, decide_eq_true hc]; exact ⟨rfl, rfl⟩
/-- A right list's first part is right. -/
theorem flw_pre : ∀ (l r : List Int) (i : Nat) (s : St), (flw (l ++ r) i s).e = 0 → (flw l i s).e = 0
  | [], _, _, _, _ => rfl
  | c :: q, r, i, s, h => by
    simp only [List.cons_append] at h
    unfold flw at h ⊢
    by_cases hb : chk s c = 0
    · rw [decide_eq_true hb] at h ⊢; exact flw_pre q r (i + 1) _ h
    · rw [decide_eq_false hb] at h; exact absurd h hb
theorem fol_pre {d : Int} {l r : List Int} (h : (fol d (l ++ r)).e = 0) : (fol d l).e = 0 := by
  unfold fol at h ⊢
  cases hd : decide (3 < d) with
  | true => rw [hd] at h; cases h
  | false => rw [hd] at h; exact flw_pre l r 0 _ h
theorem fol_d {d : Int} {l : List Int} (h : (fol d l).e = 0) : d ≤ 3 := by
  unfold fol at h
  cases hd : decide (3 < d) with
  | true => rw [hd] at h; cases h
  | false => simp only [decide_eq_false_iff_not] at hd; omega
/-- Induction over right lists, call by call. -/
theorem right_ind {d : Int} (hd : d ≤ 3) {P : List Int → St → Prop} (h0 : P [] (st0 d)) (hs : ∀ l c, (fol d l).e = 0 → P l (fol d l).s → chk (fol d l).s c = 0 → P (l ++ [c]) (aft (fol d l).s c)) : ∀ l : List Int, (fol d l).e = 0 → P l (fol d l).s := by
  intro l
  generalize hn : l.length = n
  induction n generalizing l with
  | zero =>
    obtain rfl := List.eq_nil_of_length_eq_zero hn
    intro _
    rw [fol_nil hd]; exact h0
  | succ n ih =>
    intro h
    obtain ⟨q, c, rfl⟩ : ∃ q c, l = q ++ [c] := ⟨l.dropLast, l.getLast (by intro e; rw [e] at hn; cases hn), (List.dropLast_concat_getLast _).symm⟩
    have hq := fol_pre h
    rw [fol_snoc hq] at h ⊢
    by_cases hb : chk (fol d q).s c = 0
    · rw [decide_eq_true hb]
      exact hs q c hq (ih q (by simpa using hn) hq) hb
    · rw [decide_eq_false hb] at h; exact absurd h hb
/-! ### single facts -/
theorem chk0 {s : St} (h : ovr s = false) : chk s 0 = 0 := by unfold chk; rw [h]; rfl
theorem chk_over {s : St} {c : Int} (h : ovr s = true) (hc : c ≤ 37) : chk s c = 90 := by unfold chk; rw [h, decide_eq_true hc]; rfl
theorem chk_big {s : St} {c : Int} (hc : 37 < c) : chk s c = 80 := by unfold chk; rw [decide_eq_false (by omega)]; rfl
theorem chk_open {s : St} {c : Int} (h : chk s c = 0) : ovr s = false ∧ c ≤ 37 := by
  unfold chk at h
  cases hd : decide (c ≤ 37) with
  | false => rw [hd] at h; cases h
  | true =>
    rw [hd] at h
    cases ho : ovr s with
    | true => rw [ho] at h; cases h
    | false => exact ⟨rfl, of_decide_eq_true hd⟩
theorem aft_pass (s : St) : aft s 0 = passA s := rfl
theorem aft_dbl {s : St} {c : Int} (h : c = 1 ∨ c = 2) : aft s c = dblA s c := by
  rcases h with rfl | rfl <;> rfl
theorem aft_b {s : St} {c : Int} (h : 3 ≤ c) : (aft s c).b = newB s c (dnI c) ∧ (aft s c).risk = 0 ∧ (aft s c).passes = 0 := by
  unfold aft
  rw [decide_eq_false (show ¬ c = 0 by omega), decide_eq_false (show ¬ c = 1 by omega), decide_eq_false (show ¬ c = 2 by omega)]
  simp only [Bool.or_self, cond_false]
  cases (s.fst (kOf s.turn (dnI c))).m with
  | true => exact ⟨rfl, rfl, rfl⟩
  | false =>
    simp only [cond_false]
    refine ⟨by rw [setF_b]; rfl, ?_, ?_⟩ <;> (unfold St.setF; split <;> rfl)
/-- The passes are few. -/
theorem passes_ok {d : Int} (hd : d ≤ 3) : ∀ l : List Int, (fol d l).e = 0 → allU l = true → 0 ≤ (fol d l).s.passes ∧ (fol d l).s.passes ≤ 4 := by
  have key := right_ind (d := d) hd (P := fun l s => allU l = true → 0 ≤ s.passes ∧ s.passes ≤ 4) (fun _ => ⟨by show (0 : Int) ≤ 0; omega, by show (0 : Int) ≤ 4; omega⟩) (fun l c hl ih hc hu => by
    have hu1 : allU l = true := by rw [allU_iff] at hu ⊢; exact fun x hx => hu x (List.mem_append_left _ hx)
    have hc0 : 0 ≤ c := by rw [allU_iff] at hu; exact (hu c (by simp)).1
    obtain ⟨h1, h2⟩ := ih hu1
    have hop := (chk_open hc).1
    have h3 : (fol d l).s.passes ≤ 3 := by
      unfold ovr at hop
      cases hm : (fol d l).s.b.m with
      | true => rw [hm] at hop; simp only [cond_true, decide_eq_false_iff_not] at hop; omega
      | false => rw [hm] at hop; simp only [cond_false, decide_eq_false_iff_not] at hop; omega
    have h4 : c = 0 ∨ (c = 1 ∨ c = 2) ∨ 3 ≤ c := by omega
    rcases h4 with rfl | h4 | h4
    · rw [aft_pass]
      show 0 ≤ wr .i64 _ ∧ wr .i64 _ ≤ 4
      rw [wr64 (by omega) (by omega)]; omega
    · rw [aft_dbl h4]; exact ⟨by show (0 : Int) ≤ 0; omega, by show (0 : Int) ≤ 4; omega⟩
    · rw [(aft_b h4).2.2]; omega)
  exact key
theorem okA_U {d : Int} {l : List Int} (h : okA d l = true) : allU l = true := by
  simp only [okA, Bool.and_eq_true] at h; exact h.2.2
end Go.Proofs.Ytojlmpcbplepcaa
