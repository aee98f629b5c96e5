/- Texts merged: Leg, Ir1, Sem, Trn, Inv, Wro. -/
import Derived.Test.YtojlmpcbplepcaaGreatFol3
import Derived.Test.YtojlmpcbplepcaaGreatEng5
/- Chapter 9: Legal for every list. -/
namespace Go.Proofs.YtojlmpcbplepcaaGreat
open Go Go.Eng
def calls38 : List Int := (List.range 38).map fun (n : Nat) => (n : Int)
theorem c38_len : calls38.length = 38 := rfl
theorem c38_get {i : Nat} (h : i < 38) : calls38[i]'(by rw [c38_len]; exact h) = (i : Int) := by simp [calls38]
end Go.Proofs.YtojlmpcbplepcaaGreat

/- Chapter 10: what package irregular asks of auctions: recent calls, over, free, low, passed. -/
namespace Go.Proofs.YtojlmpcbplepcaaGreat
open Go Go.Eng
structure NI where
  LI : List Int → Int
  LB : List Int → Bool
  OB : Int → List Int → Bool
  OE : Int → List Int → Int
  CA : Int → List Int → Int
  CE : Int → List Int → Int
  K : Int → List Int → Bool
  KS : List Int → Bool
  MK : Int → Int → Int
def mkI (d i : Int) : Int := wr .u8 ((wr .i64 (wr .i64 d + i)).tmod 4)
def nI : NI := ⟨fun xs => (lastN xs xs.length).1, fun xs => (lastN xs xs.length).2, fun d xs => decide ((fol d xs).e = 0) && ovr (fol d xs).s, fun d xs => bif decide ((fol d xs).e = 0) then 0 else 2,
  fun d xs => (fol d xs).at_, fun d xs => (fol d xs).e, okA, smallL, mkI⟩
def iLast (N : NI) : List V → List Blk → Option (Bool × V × List Blk)
  | [.gs 0], [.rs _ 1 (.ints .u8 xs)] => some (N.KS xs, .tuple [.int .i64 (N.LI xs), .bool (N.LB xs)], [])
  | _, _ => none
def iOver (N : NI) : List V → List Blk → Option (Bool × V × List Blk)
  | [.int .u8 d, .gs 0], [.rs _ 1 (.ints .u8 xs)] => some (N.K d xs, .tuple [.bool (N.OB d xs), .int .i64 (N.OE d xs)], [])
  | _, _ => none
def iCheck (N : NI) : List V → List Blk → Option (Bool × V × List Blk)
  | [.int .u8 d, .gs 0], [.rs _ 1 (.ints .u8 xs)] => some (N.K d xs, .tuple [.int .i64 (N.CA d xs), .int .i64 (N.CE d xs)], [])
  | _, _ => none
def hTabI (N : NI) : HTab := addH 65 (iLast N) (addH 91 (iOver N) (addH 92 (iCheck N) emptyH))
theorem hTabI_ok : HTabOk Tryz.prog (hTabI nI) := by
  refine addH_ok ?_ (addH_ok ?_ (addH_ok ?_ emptyH_ok))
  · intro args h c v nb hq hc
    unfold iLast at hq
    split at hq
    · cases hq; exact ⟨.of Tryz.func65 (by kernel_rfl), by rw [List.append_nil]; exact last_fn _ hc⟩
    · cases hq
  · intro args h c v nb hq hc
    unfold iOver at hq
    split at hq
    · cases hq
      refine ⟨.of Tryz.func91 (by kernel_rfl), ?_⟩
      rw [List.append_nil]
      have := over22_fn (by assumption) hc
      unfold overV at this
      rename_i d _ xs
      show FnOK _ _ _ _ (.tuple [.bool (decide ((fol d xs).e = 0) && ovr (fol d xs).s), .int .i64 (bif decide ((fol d xs).e = 0) then 0 else 2)]) _
      cases he : decide ((fol d xs).e = 0) <;> (rw [he] at this; exact this)
    · cases hq
  · intro args h c v nb hq hc
    unfold iCheck at hq
    split at hq
    · cases hq; exact ⟨.of Tryz.func92 (by kernel_rfl), by rw [List.append_nil]; exact check18_fn _ hc⟩
    · cases hq
theorem maker_p (d i : Int) : FnPure Tryz.prog 67 [.int .u8 d, .int .i64 i] (.int .u8 (mkI d i)) := pure_at emptyTab_ok Tryz.func67 (by kernel_rfl) (show evalP emptyTab 67 Tryz.f67 [.int .u8 d, .int .i64 i] = some (.int .u8 (mkI d i)) by kernel_rfl) rfl rfl
def iMaker (MK : Int → Int → Int) : List V → Option (Bool × V)
  | [.int .u8 d, .int .i64 i] => some (true, .int .u8 (MK d i))
  | _ => none
def tabI (N : NI) : PTab := addTab 57 gRight (addTab 66 gPartsP (addTab 67 (iMaker N.MK) emptyTab))
theorem tabI_ok : PTabOk Tryz.prog (tabI nI) := by
  refine addTab_ok ?_ (addTab_ok ?_ (addTab_ok ?_ emptyTab_ok))
  · intro args c v h _
    unfold gRight at h
    split at h
    · cases h; exact right_p _
    · cases h
  · intro args c v h _
    unfold gPartsP at h
    split at h
    · cases h; rw [← ptV_is]; exact parts_p _
    · cases h
  · intro args c v h _
    unfold iMaker at h
    split at h
    · cases h; exact maker_p _ _
    · cases h
def domI : FuncId → Bool := fun f => Nat.beq f 65 || (Nat.beq f 91 || Nat.beq f 92)
def nr8 : FuncId → Nat → Option Row := fun _ _ => some (.ints .u8 [])
noncomputable abbrev orcI (N : NI) (T : PTab) (LL : FuncId → Loops) : Oracle := inl Tryz.prog ftab T LL 100 never domI (hOrcX nr8 (hTabI N)) 20
theorem orcI_ok {T : PTab} (hT : PTabOk Tryz.prog T) {LL : FuncId → Loops} (hL : ∀ f, loopsOk Tryz.prog (LL f)) : OracleOk Tryz.prog (orcI nI T LL) := inl_ok (hOrcX_ok hTabI_ok) ftab_ok hT hL mixed 20
end Go.Proofs.YtojlmpcbplepcaaGreat

/- Chapter 9: what follow gives, call by call. -/
namespace Go.Proofs.YtojlmpcbplepcaaGreat
open Go Go.Eng
theorem flw_app : ∀ (l r : List Int) (i : Nat) (s : St), (flw l i s).e = 0 → flw (l ++ r) i s = flw r (i + l.length) (flw l i s).s
  | [], r, i, s, _ => rfl
  | c :: q, r, i, s, h => by
    unfold flw at h
    simp only [List.cons_append, List.length_cons]
    rw [flw, flw]
    by_cases hb : chk s c = 0
    · rw [decide_eq_true hb] at h ⊢
      simp only [cond_true] at h ⊢
      rw [flw_app q r (i + 1) _ h, show i + 1 + q.length = i + (q.length + 1) by omega]
    · rw [decide_eq_false hb] at h; exact absurd h hb
theorem fol_app {d : Int} {l : List Int} (h : (fol d l).e = 0) (r : List Int) : fol d (l ++ r) = flw r l.length (fol d l).s := by
  unfold fol at h ⊢
  cases hd : decide (3 < d) with
  | true => rw [hd] at h; cases h
  | false =>
    rw [hd] at h
    simp only [cond_false] at h ⊢
    rw [flw_app l r 0 _ h, Nat.zero_add]
theorem fol_snoc {d : Int} {l : List Int} (h : (fol d l).e = 0) (c : Int) : fol d (l ++ [c]) = bif decide (chk (fol d l).s c = 0) then ⟨aft (fol d l).s c, aft (fol d l).s c, -1, 0⟩ else ⟨(fol d l).s, st0 0, l.length, chk (fol d l).s c⟩ := by
  rw [fol_app h [c]]; rfl
theorem fol_nil {d : Int} (h : d ≤ 3) : fol d [] = ⟨st0 d, st0 d, -1, 0⟩ := by
  unfold fol
  rw [decide_eq_false (by omega)]; rfl
theorem flw_pre : ∀ (l r : List Int) (i : Nat) (s : St), (flw (l ++ r) i s).e = 0 → (flw l i s).e = 0
  | [], _, _, _, _ => rfl
  | c :: q, r, i, s, h => by
    simp only [List.cons_append] at h
    unfold flw at h ⊢
    by_cases hb : chk s c = 0
    · rw [decide_eq_true hb] at h ⊢; exact flw_pre q r (i + 1) _ h
    · rw [decide_eq_false hb] at h; exact absurd h hb
theorem fol_pre {d : Int} {l r : List Int} (h : (fol d (l ++ r)).e = 0) : (fol d l).e = 0 := by
  unfold fol at h ⊢
  cases hd : decide (3 < d) with
  | true => rw [hd] at h; cases h
  | false => rw [hd] at h; exact flw_pre l r 0 _ h
theorem fol_d {d : Int} {l : List Int} (h : (fol d l).e = 0) : d ≤ 3 := by
  unfold fol at h
  cases hd : decide (3 < d) with
  | true => rw [hd] at h; cases h
  | false => simp only [decide_eq_false_iff_not] at hd; omega
theorem right_ind {d : Int} (hd : d ≤ 3) {P : List Int → St → Prop} (h0 : P [] (st0 d)) (hs : ∀ l c, (fol d l).e = 0 → P l (fol d l).s → chk (fol d l).s c = 0 → P (l ++ [c]) (aft (fol d l).s c)) : ∀ l : List Int, (fol d l).e = 0 → P l (fol d l).s := by
  intro l
  generalize hn : l.length = n
  induction n generalizing l with
  | zero =>
    obtain rfl := List.eq_nil_of_length_eq_zero hn
    intro _
    rw [fol_nil hd]; exact h0
  | succ n ih =>
    intro h
    obtain ⟨q, c, rfl⟩ : ∃ q c, l = q ++ [c] := ⟨l.dropLast, l.getLast (by intro e; rw [e] at hn; cases hn), (List.dropLast_concat_getLast _).symm⟩
    have hq := fol_pre h
    rw [fol_snoc hq] at h ⊢
    by_cases hb : chk (fol d q).s c = 0
    · rw [decide_eq_true hb]
      exact hs q c hq (ih q (by simpa using hn) hq) hb
    · rw [decide_eq_false hb] at h; exact absurd h hb
theorem chk0 {s : St} (h : ovr s = false) : chk s 0 = 0 := by unfold chk; rw [h]; rfl
theorem chk_open {s : St} {c : Int} (h : chk s c = 0) : ovr s = false ∧ c ≤ 37 := by
  unfold chk at h
  cases hd : decide (c ≤ 37) with
  | false => rw [hd] at h; cases h
  | true =>
    rw [hd] at h
    cases ho : ovr s with
    | true => rw [ho] at h; cases h
    | false => exact ⟨rfl, of_decide_eq_true hd⟩
theorem aft_pass (s : St) : aft s 0 = passA s := rfl
theorem aft_dbl {s : St} {c : Int} (h : c = 1 ∨ c = 2) : aft s c = dblA s c := by
  rcases h with rfl | rfl <;> rfl
theorem aft_b {s : St} {c : Int} (h : 3 ≤ c) : (aft s c).b = newB s c (dnI c) ∧ (aft s c).risk = 0 ∧ (aft s c).passes = 0 := by
  unfold aft
  rw [decide_eq_false (show ¬ c = 0 by omega), decide_eq_false (show ¬ c = 1 by omega), decide_eq_false (show ¬ c = 2 by omega)]
  simp only [Bool.or_self, cond_false]
  cases (s.fst (kOf s.turn (dnI c))).m with
  | true => exact ⟨rfl, rfl, rfl⟩
  | false =>
    simp only [cond_false]
    refine ⟨by rw [setF_b]; rfl, ?_, ?_⟩ <;> (unfold St.setF; split <;> rfl)
theorem passes_ok {d : Int} (hd : d ≤ 3) : ∀ l : List Int, (fol d l).e = 0 → allU l = true → 0 ≤ (fol d l).s.passes ∧ (fol d l).s.passes ≤ 4 := by
  have key := right_ind (d := d) hd (P := fun l s => allU l = true → 0 ≤ s.passes ∧ s.passes ≤ 4) (fun _ => ⟨by show (0 : Int) ≤ 0; omega, by show (0 : Int) ≤ 4; omega⟩) (fun l c hl ih hc hu => by
    have hu1 : allU l = true := by rw [allU_iff] at hu ⊢; exact fun x hx => hu x (List.mem_append_left _ hx)
    have hc0 : 0 ≤ c := by rw [allU_iff] at hu; exact (hu c (by simp)).1
    obtain ⟨h1, h2⟩ := ih hu1
    have hop := (chk_open hc).1
    have h3 : (fol d l).s.passes ≤ 3 := by
      unfold ovr at hop
      cases hm : (fol d l).s.b.m with
      | true => rw [hm] at hop; simp only [cond_true, decide_eq_false_iff_not] at hop; omega
      | false => rw [hm] at hop; simp only [cond_false, decide_eq_false_iff_not] at hop; omega
    have h4 : c = 0 ∨ (c = 1 ∨ c = 2) ∨ 3 ≤ c := by omega
    rcases h4 with rfl | h4 | h4
    · rw [aft_pass]
      show 0 ≤ wr .i64 _ ∧ wr .i64 _ ≤ 4
      rw [wr64 (by omega) (by omega)]; omega
    · rw [aft_dbl h4]; exact ⟨by show (0 : Int) ≤ 0; omega, by show (0 : Int) ≤ 4; omega⟩
    · rw [(aft_b h4).2.2]; omega)
  exact key
theorem okA_U {d : Int} {l : List Int} (h : okA d l = true) : allU l = true := by
  simp only [okA, Bool.and_eq_true] at h; exact h.2.2
end Go.Proofs.YtojlmpcbplepcaaGreat

/- Chapter 9: with another dealer all seats are as many further. -/
namespace Go.Proofs.YtojlmpcbplepcaaGreat
open Go Go.Eng
theorem fst_setF (s : St) (b : Bd) {k j : Nat} (hk : k < 10) (hj : j < 10) : (s.setF b k).fst j = if j = k then b else s.fst j := by
  have h1 : k = 0 ∨ k = 1 ∨ k = 2 ∨ k = 3 ∨ k = 4 ∨ k = 5 ∨ k = 6 ∨ k = 7 ∨ k = 8 ∨ k = 9 := by omega
  have h2 : j = 0 ∨ j = 1 ∨ j = 2 ∨ j = 3 ∨ j = 4 ∨ j = 5 ∨ j = 6 ∨ j = 7 ∨ j = 8 ∨ j = 9 := by omega
  rcases h1 with rfl | rfl | rfl | rfl | rfl | rfl | rfl | rfl | rfl | rfl <;> rcases h2 with rfl | rfl | rfl | rfl | rfl | rfl | rfl | rfl | rfl | rfl <;> rfl
theorem nx_is {t : Int} (h : 0 ≤ t ∧ t < 4) : nx t = (t + 1) % 4 := by
  unfold nx
  rw [wr_u8_id (by omega), Int.tmod_eq_emod_of_nonneg (by omega)]
theorem setF_risk (s : St) (b : Bd) (k : Nat) : (s.setF b k).risk = s.risk := by unfold St.setF; split <;> rfl
theorem setF_passes (s : St) (b : Bd) (k : Nat) : (s.setF b k).passes = s.passes := by unfold St.setF; split <;> rfl
structure Bids (s t : St) (c : Int) : Prop where
  b : t.b = newB s c (dnI c)
  turn : t.turn = nx s.turn
  risk : t.risk = 0
  passes : t.passes = 0
  f : ∀ j, j < 10 → t.fst j = if j = kOf s.turn (dnI c) ∧ (s.fst j).m = false then newB s c (dnI c) else s.fst j
theorem kOf_lt {t d : Int} (h : 0 ≤ d ∧ d < 5) : kOf t d < 10 := by unfold kOf; omega
theorem aft_bid {s : St} {c : Int} (h : isBid c = true) : Bids s (aft s c) c := by
  have hd := dn_range h
  have hk := kOf_lt (t := s.turn) hd
  have h3 : 3 ≤ c := by simp only [isBid, Bool.and_eq_true, decide_eq_true_eq] at h; exact h.1
  have e : aft s c = bif (s.fst (kOf s.turn (dnI c))).m then bidA s c (dnI c) 0 else (bidA s c (dnI c) 0).setF (newB s c (dnI c)) (kOf s.turn (dnI c)) := by
    unfold aft
    rw [decide_eq_false (show ¬ c = 0 by omega), decide_eq_false (show ¬ c = 1 by omega), decide_eq_false (show ¬ c = 2 by omega)]; rfl
  rw [e]
  cases hm : (s.fst (kOf s.turn (dnI c))).m with
  | true =>
    refine ⟨rfl, rfl, rfl, rfl, fun j hj => ?_⟩
    rw [if_neg (fun ⟨h1, h2⟩ => by rw [h1, hm] at h2; cases h2)]; rfl
  | false =>
    simp only [cond_false]
    refine ⟨by rw [setF_b]; rfl, by rw [setF_turn]; rfl, by rw [setF_risk]; rfl, by rw [setF_passes]; rfl, fun j hj => ?_⟩
    rw [fst_setF _ _ hk hj]
    by_cases hj2 : j = kOf s.turn (dnI c)
    · rw [if_pos hj2, if_pos ⟨hj2, by rw [hj2]; exact hm⟩]
    · rw [if_neg hj2, if_neg (fun ⟨h1, _⟩ => hj2 h1)]; rfl
def shB (y : Int) (b : Bd) : Bd := bif b.m then { b with s := (b.s + y) % 4 } else b
structure Rel (y : Int) (s t : St) : Prop where
  b : t.b = shB y s.b
  turn : t.turn = (s.turn + y) % 4
  risk : t.risk = s.risk
  passes : t.passes = s.passes
  f : ∀ sd dn : Nat, sd < 2 → dn < 5 → t.fst ((sd + y.toNat) % 2 * 5 + dn) = shB y (s.fst (sd * 5 + dn))
theorem shB_m (y : Int) (b : Bd) : (shB y b).m = b.m := by unfold shB; cases h : b.m <;> simp [h]
theorem shB_c (y : Int) (b : Bd) : (shB y b).c = b.c := by unfold shB; cases h : b.m <;> simp
theorem Rel.ovr {y : Int} {s t : St} (h : Rel y s t) : ovr t = ovr s := by
  unfold Go.Proofs.YtojlmpcbplepcaaGreat.ovr
  rw [h.b, h.passes, shB_m]
theorem par_shift {a t y : Int} (ha : 0 ≤ a ∧ a < 4) (ht : 0 ≤ t ∧ t < 4) (_hy : 0 ≤ y ∧ y < 4) : decide (((a + y) % 4).tmod 2 = ((t + y) % 4).tmod 2) = decide (a.tmod 2 = t.tmod 2) := by
  rw [Int.tmod_eq_emod_of_nonneg (by omega), Int.tmod_eq_emod_of_nonneg (by omega), Int.tmod_eq_emod_of_nonneg (by omega), Int.tmod_eq_emod_of_nonneg (by omega)]
  congr 1
  simp only [eq_iff_iff]
  omega
theorem Rel.chk {y : Int} {s t : St} (h : Rel y s t) (hy : 0 ≤ y ∧ y < 4) (hs : gS s) (c : Int) : chk t c = chk s c := by
  unfold Go.Proofs.YtojlmpcbplepcaaGreat.chk
  rw [h.ovr, h.risk, h.b, shB_m, shB_c]
  cases hm : s.b.m with
  | false => rfl
  | true =>
    have e : same2 t = same2 s := by
      unfold same2
      rw [h.b, h.turn]
      have : (shB y s.b).s = (s.b.s + y) % 4 := by unfold shB; rw [hm]; rfl
      rw [this]
      exact par_shift hs.2.1 hs.1 hy
    rw [e]
theorem newB_sh {y : Int} {s t : St} (h : Rel y s t) (c d : Int) : newB t c d = shB y (newB s c d) := by
  unfold newB shB
  rw [h.turn]; rfl
theorem Rel.aft {y : Int} {s t : St} (h : Rel y s t) (hy : 0 ≤ y ∧ y < 4) (hs : gS s) {c : Int} (hc : okC c = true) : Rel y (aft s c) (aft t c) := by
  have ht : 0 ≤ t.turn ∧ t.turn < 4 := by rw [h.turn]; omega
  have htn : nx t.turn = (nx s.turn + y) % 4 := by
    rw [nx_is ht, nx_is hs.1, h.turn]; omega
  simp only [okC, Bool.and_eq_true, decide_eq_true_eq] at hc
  have h4 : c = 0 ∨ (c = 1 ∨ c = 2) ∨ isBid c = true := by
    simp only [isBid, Bool.and_eq_true, decide_eq_true_eq]; omega
  rcases h4 with rfl | h4 | h4
  · rw [aft_pass, aft_pass]
    exact ⟨h.b, htn, h.risk, by show wr .i64 _ = wr .i64 _; rw [h.passes], h.f⟩
  · rw [aft_dbl h4, aft_dbl h4]
    exact ⟨h.b, htn, rfl, rfl, h.f⟩
  · obtain ⟨a1, a2, a3, a4, a5⟩ := aft_bid (s := s) h4
    obtain ⟨b1, b2, b3, b4, b5⟩ := aft_bid (s := t) h4
    have hd := dn_range h4
    refine ⟨by rw [b1, a1, newB_sh h], by rw [b2, a2, htn], by rw [b3, a3], by rw [b4, a4], fun sd dn hsd hdn => ?_⟩
    rw [b5 _ (by omega), a5 _ (by omega), h.f sd dn hsd hdn, shB_m, newB_sh h]
    have hk : ((sd + y.toNat) % 2 * 5 + dn = kOf t.turn (dnI c)) ↔ (sd * 5 + dn = kOf s.turn (dnI c)) := by
      unfold kOf
      rw [h.turn]
      have := hs.1
      omega
    by_cases hq : sd * 5 + dn = kOf s.turn (dnI c) ∧ (s.fst (sd * 5 + dn)).m = false
    · rw [if_pos hq, if_pos ⟨hk.2 hq.1, hq.2⟩]
    · rw [if_neg hq, if_neg (fun ⟨q1, q2⟩ => hq ⟨hk.1 q1, q2⟩)]
theorem fst0 (d : Int) (j : Nat) : (st0 d).fst j = bd0 := by unfold St.fst; split <;> rfl
end Go.Proofs.YtojlmpcbplepcaaGreat

/- Chapter 9: what holds of every state of a right auction. -/
namespace Go.Proofs.YtojlmpcbplepcaaGreat
open Go Go.Eng
def gB (b : Bd) : Prop := isBid b.c = true ∧ b.l = lvI b.c ∧ b.d = dnI b.c ∧ (0 ≤ b.s ∧ b.s < 4)
structure Inv (s : St) : Prop where
  g : gS s
  b : s.b.m = true → gB s.b ∧ (s.fst (kOf s.b.s s.b.d)).m = true
  f : ∀ j, j < 10 → (s.fst j).m = true → gB (s.fst j) ∧ kOf (s.fst j).s (s.fst j).d = j
  risk : 0 ≤ s.risk ∧ s.risk ≤ 2
theorem inv0 {d : Int} (h : 0 ≤ d ∧ d < 4) : Inv (st0 d) :=
  ⟨gS0 h, (fun h => by cases h), fun j _ hm => (by rw [fst0] at hm; cases hm), ⟨by show (0 : Int) ≤ 0; omega, by show (0 : Int) ≤ 2; omega⟩⟩
theorem inv_aft {s : St} {c : Int} (h : Inv s) (hc : okC c = true) : Inv (aft s c) := by
  have hg := gS_aft h.g hc
  have hc' := hc
  simp only [okC, Bool.and_eq_true, decide_eq_true_eq] at hc
  have h4 : c = 0 ∨ (c = 1 ∨ c = 2) ∨ isBid c = true := by
    simp only [isBid, Bool.and_eq_true, decide_eq_true_eq]; omega
  rcases h4 with rfl | h4 | h4
  · rw [aft_pass] at hg ⊢; exact ⟨hg, h.b, h.f, h.risk⟩
  · rw [aft_dbl h4] at hg ⊢; exact ⟨hg, h.b, h.f, by show 0 ≤ c ∧ c ≤ 2; omega⟩
  · obtain ⟨a1, a2, a3, a4, a5⟩ := aft_bid (s := s) h4
    have hd := dn_range h4
    have hk := kOf_lt (t := s.turn) hd
    have hn : gB (newB s c (dnI c)) := ⟨h4, rfl, rfl, h.g.1⟩
    refine ⟨hg, fun _ => ?_, fun j hj hm => ?_, by rw [a3]; omega⟩
    · rw [a1]
      refine ⟨hn, ?_⟩
      show ((aft s c).fst (kOf s.turn (dnI c))).m = true
      rw [a5 _ hk]
      by_cases hq : (s.fst (kOf s.turn (dnI c))).m = false
      · rw [if_pos ⟨rfl, hq⟩]; rfl
      · rw [if_neg (fun ⟨_, q⟩ => hq q)]; simpa using hq
    · rw [a5 j hj] at hm ⊢
      by_cases hq : j = kOf s.turn (dnI c) ∧ (s.fst j).m = false
      · rw [if_pos hq] at hm ⊢; exact ⟨hn, hq.1.symm⟩
      · rw [if_neg hq] at hm ⊢; exact h.f j hj hm
theorem inv_flw : ∀ (l : List Int) (i : Nat) (s : St), Inv s → allU l = true → (flw l i s).e = 0 → Inv (flw l i s).s
  | [], _, _, h, _, _ => h
  | c :: r, i, s, h, hu, he => by
    simp only [allU, Bool.and_eq_true, decide_eq_true_eq] at hu
    unfold flw at he ⊢
    by_cases hb : chk s c = 0
    · rw [decide_eq_true hb] at he ⊢
      exact inv_flw r (i + 1) _ (inv_aft h (chk_ok hb hu.1.1)) hu.2 he
    · rw [decide_eq_false hb] at he; exact absurd he hb
theorem inv_fol {d : Int} {l : List Int} (h : okA d l = true) (he : (fol d l).e = 0) : Inv (fol d l).s := by
  have hd := fol_d he
  have hu := okA_U h
  simp only [okA, Bool.and_eq_true, decide_eq_true_eq] at h
  unfold fol at he ⊢
  rw [decide_eq_false (show ¬ 3 < d by omega)] at he ⊢
  exact inv_flw l 0 _ (inv0 (by omega)) hu he
theorem lv_is {c : Int} (h : isBid c = true) : lvI c = (c - 3) / 5 + 1 := by
  simp only [isBid, Bool.and_eq_true, decide_eq_true_eq] at h
  unfold lvI
  have e1 : wr .u8 (c - 3) = c - 3 := wr_u8_id (by omega)
  have e2 : (c - 3).tdiv 5 = (c - 3) / 5 := Int.tdiv_eq_ediv_of_nonneg (by omega)
  rw [e1, e2, wr_u8_id (n := (c - 3) / 5) (by omega), wr_u8_id (by omega)]
theorem lv_pos {c : Int} (h : isBid c = true) : 1 ≤ lvI c ∧ lvI c ≤ 7 := by
  rw [lv_is h]
  simp only [isBid, Bool.and_eq_true, decide_eq_true_eq] at h
  omega
end Go.Proofs.YtojlmpcbplepcaaGreat

/- Chapter 9: what is not right: plainly. -/
namespace Go.Proofs.YtojlmpcbplepcaaGreat
open Go Go.Eng
theorem lastN_some {xs : List Int} : ∀ n, (lastN xs n).2 = true → ∃ k, k < n ∧ (lastN xs n).1 = (k : Int) ∧ isBid (xs.getD k 0) = true ∧ ∀ j, k < j → j < n → isBid (xs.getD j 0) = false
  | 0, h => by cases h
  | n + 1, h => by
    unfold lastN at h ⊢
    cases hb : isBid (xs.getD n 0) with
    | true => exact ⟨n, by omega, rfl, hb, fun j h1 h2 => by omega⟩
    | false =>
      rw [hb] at h
      obtain ⟨k, h1, h2, h3, h4⟩ := lastN_some n h
      refine ⟨k, by omega, h2, h3, fun j h5 h6 => ?_⟩
      by_cases hj : j = n
      · rw [hj]; exact hb
      · exact h4 j h5 (by omega)
theorem aft_bc {s : St} {c : Int} (h : isBid c = true) : (aft s c).b.c = c ∧ (aft s c).b.m = true ∧ (aft s c).passes = 0 := by
  obtain ⟨a1, _, _, a4, _⟩ := aft_bid (s := s) h
  rw [a1, a4]; exact ⟨rfl, rfl, rfl⟩
theorem take_snoc {xs : List Int} {k : Nat} (h : k < xs.length) : xs.take (k + 1) = xs.take k ++ [xs.getD k 0] := by
  rw [List.take_succ_eq_append_getElem h, List.getD_eq_getElem?_getD, List.getElem?_eq_getElem h]; rfl
end Go.Proofs.YtojlmpcbplepcaaGreat
