/- Texts merged: Xt, Xu. -/
import Derived.Test.YtojlmpcbplepcaaGreatXs1
import Derived.Test.YtojlmpcbplepcaaGreatRc
/- Chapter 10: the reference's Do answers as the program's. -/
namespace Go.Proofs.YtojlmpcbplepcaaGreat
open Go Go.Eng
theorem rgt_f {s : CD} {xs ac : List Int} (h : okL xs = true) (hb : crB s = true) (hr : rgtI s xs ac = true) (k : Nat) : 0 ≤ s.f.at k ∧ s.f.at k ≤ 15 := by
  have h6 := (rgt_gc h (crB_dk hb) hr).2.2.2.2.2
  have hf := crB_f hb k
  unfold headL at h6
  simp only [List.any_append, List.any_cons, seatB, id_eq, Bool.or_eq_false_iff, decide_eq_false_iff_not] at h6
  refine ⟨hf.1, ?_⟩
  match k with
  | 0 => simp only [Q4.at]; omega
  | 1 => simp only [Q4.at]; omega
  | 2 => simp only [Q4.at]; omega
  | n + 3 => simp only [Q4.at]; omega
theorem lb_by (xs : List Int) : byB (lbI xs) = true := by
  have ⟨h1, h2⟩ := lbI_range xs
  refine decide_eq_true ?_
  cases hh : hasB xs with
  | false => rw [h2 hh]; omega
  | true =>
    have := h1 hh
    unfold isBid at this
    simp only [Bool.and_eq_true, decide_eq_true_eq] at this
    omega
theorem dnz_rg (x : Int) : 0 ≤ dnZ x ∧ dnZ x ≤ 4 := by
  unfold dnZ
  cases hb : isBid x with
  | false => exact ⟨Int.le_refl (0 : Int), show (0 : Int) ≤ 4 by omega⟩
  | true => have := dn_range hb; rw [cond_true]; omega
theorem sil75_is {m : Nat} {y : Int} {t : CD} {K : CD → AN} (hy : byB y = true) (ht : 0 ≤ t.f.at m ∧ t.f.at m ≤ 15) : sil75 nW m y t K = K (silI suI t m m y) := by
  unfold sil75
  have hf : nW.FO (t.setP (-1) m) m (nW.SU y) = true := by
    show fbO (t.setP (-1) m) m (suI y) = true
    unfold fbO
    rw [show (t.setP (-1) m).f = t.f from rfl, decide_eq_true ht, decide_eq_true (suI_range y)]; rfl
  rw [show nW.BY y = true from hy, hf]
  rfl
theorem chg75_is {m : Nat} {h : Int} {xs : List Int} {x : Int} {t : CD} {K : CD → AN} (hx : okL xs = true) (ht : 0 ≤ t.f.at m ∧ t.f.at m ≤ 15) (hh : t.h = h) (hz : 0 ≤ h) :
    chg75 nW m h xs x t K = K ((bif decide (0 < h) && !mnI h xs x then silI suI t m m (wr .u8 (h - 1)) else t).setH 0) := by
  unfold chg75
  have hby : byB (wr .u8 (h - 1)) = true := decide_eq_true (by show 0 ≤ _ % 256 ∧ _ % 256 < 256; omega)
  have e : silI suI (t.setH 0) m m (wr .u8 (h - 1)) = (silI suI t m m (wr .u8 (h - 1))).setH 0 := rfl
  rw [sil75_is (t := t.setH 0) hby ht, e, show nW.BY (wr .u8 (h - 1)) = true from hby, show nW.Z.H.R.IB = isBid from rfl, show nW.Z.H.R.OK xs = true from hx, show nW.BY (nW.Z.H.R.HG xs) = true from lb_by xs,
    show decide (0 ≤ nW.DN (wr .u8 (h - 1)) ∧ nW.DN (wr .u8 (h - 1)) ≤ 4) = true from decide_eq_true (dnz_rg _), show nW.Z.H.R.HG xs = lbI xs from rfl, show nW.DN = dnZ from rfl, show nW.CE = chE from rfl, show nW.CV = chV from rfl]
  unfold mnI
  have ex : decide (chV (lbI xs) (dnZ (wr .u8 (h - 1))) = x) = decide (x = chV (lbI xs) (dnZ (wr .u8 (h - 1)))) := by rw [Bool.eq_iff_iff, decide_eq_true_eq, decide_eq_true_eq]; exact eq_comm
  rw [ex]
  by_cases h0 : 0 < h
  · rw [decide_eq_true h0]
    cases isBid (wr .u8 (h - 1)) <;> cases decide (chE (lbI xs) (dnZ (wr .u8 (h - 1))) = 0) <;> cases decide (x = chV (lbI xs) (dnZ (wr .u8 (h - 1)))) <;> rfl
  · rw [decide_eq_false h0]
    have : t.setH 0 = t := by
      have hz0 : t.h = 0 := by omega
      obtain ⟨d, p, a, hh, f⟩ := t
      simp only [CD.setH] at hz0 ⊢
      rw [hz0]
    simp only [cond_false, Bool.false_and, this]
theorem metI_f (s : CD) (k : Nat) : (metI s k).f = s.f ∧ (metI s k).h = s.h := by
  unfold metI; cases decide (0 < s.p.at k) <;> exact ⟨rfl, rfl⟩
theorem raiI_f (s : CD) (k : Nat) : (raiI s k).f = s.f ∧ (raiI s k).h = s.h := by
  unfold raiI; cases decide (s.p.at k = 0) <;> exact ⟨rfl, rfl⟩
theorem ps_at2 {α : Type} (xs : List Int) (hl : xs.length ≤ 100000) (A B : Option α) : (bif decide (0 < Int.ofNat xs.length) then atU xs (wr .i64 (Int.ofNat xs.length - 1)) (fun v => bif !decide (v = 0) then A else B) else B) = bif psI xs then B else A := by
  rw [← ps_at xs hl B A]
  have hof : Int.ofNat xs.length = (xs.length : Int) := rfl
  rcases Nat.eq_zero_or_pos xs.length with h | h
  · rw [decide_eq_true (show Int.ofNat xs.length = 0 by rw [hof]; omega), decide_eq_false (show ¬ 0 < Int.ofNat xs.length by rw [hof]; omega)]; rfl
  · rw [decide_eq_false (show ¬ Int.ofNat xs.length = 0 by rw [hof]; omega), decide_eq_true (show 0 < Int.ofNat xs.length by rw [hof]; omega), cond_true, cond_false]
    congr 1
    funext v
    cases decide (v = 0) <;> rfl
theorem met_rai (s : CD) (k : Nat) (hk : k < 4) (c : Bool) :
    (let s1 := bif decide (0 < s.p.at k) then s.setP (wr .i64 (s.p.at k - 1)) k else s
     let s2 := bif c && decide (s1.p.at (mate k) = 0) then s1.setP 1 (mate k) else s1
     s2.setA 0 k) = bif c then raiI (metI s k) (mate k) else metI s k := by
  obtain ⟨d, ⟨p0, p1, p2, p3⟩, a, h, f⟩ := s
  unfold raiI metI
  match k, hk with
  | 0, _ => cases c <;> cases h0 : decide (0 < p0) <;> cases h1 : decide (p2 = 0) <;> simp [CD.setP, CD.setA, Q4.at, Q4.set, mate, h0, h1]
  | 1, _ => cases c <;> cases h0 : decide (0 < p1) <;> cases h1 : decide (p3 = 0) <;> simp [CD.setP, CD.setA, Q4.at, Q4.set, mate, h0, h1]
  | 2, _ => cases c <;> cases h0 : decide (0 < p2) <;> cases h1 : decide (p0 = 0) <;> simp [CD.setP, CD.setA, Q4.at, Q4.set, mate, h0, h1]
  | 3, _ => cases c <;> cases h0 : decide (0 < p3) <;> cases h1 : decide (p1 = 0) <;> simp [CD.setP, CD.setA, Q4.at, Q4.set, mate, h0, h1]
  | n + 4, hk => exact absurd hk (by omega)
theorem all75_is {s : CD} {xs ac : List Int} {x : Int} {k : Nat} {B : Int → AN} {K : CD → AN} (h : okL xs = true) (hc : lenOk ac = true) (hb : crB s = true) (hx : byB x = true) (hk : k < 4) (hk2 : doX s xs ac x = 0 → tN s xs = k) :
    all75 nW k s xs ac x B K = bif decide (doX s xs ac x = 0) then K (doS k xs s x) else B (doX s xs ac x) := by
  have hl := okL_len h
  have hx0 := by_rg hx
  have hC : nW.Z.H.C s xs ac = true := by unfold NH.C; rw [show nW.Z.H.R.OK xs = true from h, show nW.Z.H.CK ac = true from hc, show nW.Z.H.DK s = true from crB_dk hb]; rfl
  unfold all75
  rw [hC, show nW.Z.CB s = true from hb, show nW.Z.H.OP s xs ac = opI s xs ac from rfl, show nW.Z.LV s xs ac = lgV s xs ac from rfl, show nW.Z.H.R.OK (lgV s xs ac) = true from lgV_ok s xs ac, show nW.Z.H.R.AM (lgV s xs ac) x = amB (lgV s xs ac) x from rfl,
    show nW.Z.H.MK s.d (Int.ofNat xs.length) = trnI s xs from rfl, show nW.Z.H.R.OK xs = true from h, ps_at2 xs hl]
  have hX : doX s xs ac x = bif !decide (opI s xs ac = 0) then opI s xs ac else bif !lgI s xs x then 103 else bif decide (400 ≤ xs.length) then 5 else 0 := rfl
  by_cases ho : opI s xs ac = 0
  · obtain ⟨hr, hov⟩ := op_zero ho
    have hl4 := (rgt_gc h (crB_dk hb) hr).2.1
    have hf := rgt_f h hb hr
    have ham : amB (lgV s xs ac) x = lgI s xs x := by
      by_cases hx7 : x ≤ 37
      · exact am_lg ho ⟨hx0.1, hx7⟩
      · have g := (rgt_gc h (crB_dk hb) hr).2.2.2.1
        have e1 : lgI s xs x = false := by
          cases hq : lgI s xs x with
          | false => rfl
          | true => unfold lgI at hq; simp only [Bool.and_eq_true] at hq; exact absurd (g.free hq.1).2 hx7
        rw [e1]
        cases ha : amB (lgV s xs ac) x with
        | false => rfl
        | true =>
          unfold lgV at ha
          rw [decide_eq_true ho, cond_true] at ha
          exact absurd (c38_rg (List.mem_filter.1 (accB_iff.1 ha)).1).2 hx7
    rw [ham]
    rw [ho] at hX ⊢
    simp only [decide_true, Bool.not_true, cond_false, Bool.and_self, cond_true] at hX ⊢
    cases hg : lgI s xs x with
    | false => rw [hg] at hX; simp only [Bool.not_false, cond_true] at hX; rw [hX]; rfl
    | true =>
      rw [hg] at hX
      simp only [Bool.not_true, cond_false] at hX ⊢
      have z4 : decide (Int.ofNat xs.length = 400) = decide (400 ≤ xs.length) := by
        rw [Bool.eq_iff_iff, decide_eq_true_eq, decide_eq_true_eq]
        show (xs.length : Int) = 400 ↔ _
        omega
      rw [z4]
      cases hq : decide (400 ≤ xs.length) with
      | true => rw [hq] at hX; simp only [cond_true] at hX; rw [hX]; rfl
      | false =>
        rw [hq] at hX
        simp only [cond_false] at hX ⊢
        have hk3 := hk2 hX
        obtain ⟨ht, _⟩ := tN_lt s xs h (of_decide_eq_true (crB_dk hb))
        rw [hk3] at ht
        rw [hX, ht, decide_eq_true rfl, Bool.and_self, cond_true, cond_true]
        have hh := crB_h hb
        have f1 := metI_f s k
        have f2 := raiI_f (metI s k) (mate k)
        rw [show nW.RA (nW.MT s k) (mate k) = raiI (metI s k) (mate k) from rfl, show nW.MT s k = metI s k from rfl, chg75_is (t := raiI (metI s k) (mate k)) h (by rw [f2.1, f1.1]; exact hf _) (by rw [f2.2, f1.2]) hh.1, chg75_is (t := metI s k) h (by rw [f1.1]; exact hf _) f1.2 hh.1]
        show _ = K (doS k xs s x)
        have := met_rai s k hk (decide (0 < s.a.at k) && !psI xs)
        simp only [Bool.and_assoc] at this
        unfold doS
        simp only
        rw [this]
        cases decide (0 < s.a.at k) <;> cases psI xs <;> rfl
  · rw [decide_eq_false ho] at hX ⊢
    simp only [Bool.not_false, cond_true, Bool.and_self] at hX ⊢
    rw [hX, decide_eq_false ho]; rfl
theorem f75e (n1 n2 : Bool) {s : CD} {xs ac : List Int} {x : Int} (h : okL xs = true) (hc : lenOk ac = true) (hb : crB s = true) (hx : byB x = true) (he : doX s xs ac x ≠ 0) :
    FnOK Tryz.prog 30 [.agg (s.vs (.gs 0) (.gs 1)), .int .u8 x] (crsH n1 n2 xs ac) (.tuple [.agg (c0.vs (.flat (.slice none 0 0)) (.flat (.slice none 0 0))), .int .i64 (doX s xs ac x)]) (crsH n1 n2 xs ac ++ []) := by
  refine fn_crs (fn_ans (T := crsE) (ps := c0.pv [.i (doX s xs ac x), .l xs, .l ac]) (orcDo_ok (dom := d75) (h75_ok (k := 0) (by omega))) mixed Tryz.func30 noLoops_ok (by kernel_rfl) ((e75e nW s xs ac x).trans ?_) codesNil rfl)
  rw [all75_is h hc hb hx (by omega) (fun hz => absurd hz he), decide_eq_false he]; rfl
theorem f75k (n1 n2 : Bool) {s : CD} {xs ac : List Int} {x : Int} (h : okL xs = true) (hc : lenOk ac = true) (hb : crB s = true) (hx : byB x = true) (he : doX s xs ac x = 0) :
    FnOK Tryz.prog 30 [.agg (s.vs (.gs 0) (.gs 1)), .int .u8 x] (crsH n1 n2 xs ac) (.tuple [.agg ((doC s xs ac x).vs (.gs 2) (.gs 1)), .int .i64 0]) (crsH n1 n2 xs ac ++ crsNk (doL s xs ac x)) := by
  obtain ⟨_, hk⟩ := tN_lt s xs h (of_decide_eq_true (crB_dk hb))
  have e1 : doC s xs ac x = doS (tN s xs) xs s x := by unfold doC; rw [decide_eq_true he]; rfl
  have e2 : doL s xs ac x = xs ++ [x] := by unfold doL; rw [decide_eq_true he]; rfl
  rw [e1, e2]
  refine fn_crs (fn_ans (T := crsK2) (ps := (doS (tN s xs) xs s x).pv [.i 0, .l xs, .l ac, .l (xs ++ [x])]) (orcDo_ok (dom := d75) (h75_ok hk)) mixed Tryz.func30 noLoops_ok (by kernel_rfl) ((e75k nW s xs ac x (tN s xs) hk).trans ?_) codesNil rfl)
  rw [all75_is h hc hb hx hk (fun _ => rfl), decide_eq_true he]; rfl
end Go.Proofs.YtojlmpcbplepcaaGreat

/- Chapter 10: the reference's Refuse. -/
namespace Go.Proofs.YtojlmpcbplepcaaGreat
open Go Go.Eng
abbrev KF := CD → List Int → List Int → Int → Int → Int
def kdC (N : NW) (KV KE : KF) (k e : Int) (s : CD) (xs ac : List Int) (y x : Int) : Bool := (N.Z.H.C s xs ac && N.Z.CB s) && ((N.BY y && N.BY x) && decide (KV s xs ac y x = k ∧ KE s xs ac y x = e))
def g82k (N : NW) (KV KE : KF) (k e : Int) : CH
  | [.agg l, .int .u8 y, .int .u8 x], [.rs _ 1 (.ints .u8 xs), .rs _ 1 (.ints .i64 ac)] => match ofCrs l with
    | some (s, .gs 0, .gs 1) => some (kdC N KV KE k e s xs ac y x, .tuple [.int .u8 k, .int .i64 e], [])
    | _ => none
  | _, _ => none
theorem g82k_ok (k e : Int) : cOk 19 (g82k nW kdI keI k e) := by
  intro args hp c v nb hq hc
  unfold g82k at hq
  split at hq
  · split at hq
    · rename_i s hs
      cases hq
      unfold kdC at hc
      simp only [Bool.and_eq_true, decide_eq_true_eq] at hc
      obtain ⟨⟨hC, hb⟩, ⟨hy, hx⟩, rfl, rfl⟩ := hc
      obtain ⟨h1, h2, _⟩ := C_ok hC
      rw [ofCrs_ok hs]
      exact ⟨.of Tryz.func19 (by kernel_rfl), f82 _ _ h1 h2 hb hy hx⟩
    · cases hq
  · cases hq
def d77 : FuncId → Bool := domG fun f => Nat.beq f 19
def h77 (N : NW) (KV KE : KF) (k e : Int) : HTab := hTG N.Z.H.R (addH 19 (g82k N KV KE k e) emptyH)
theorem h77_ok (k e : Int) : HTabOk Tryz.prog (h77 nW kdI keI k e) := hTG_ok (addH_ok (g82k_ok k e) emptyH_ok)
def crsS : Tm := ⟨[some (.tuple [.agg (crsT (.gs 0) (.gs 1)), .int .i64])], [.rs false 1 (.ints .u8), .rs false 1 (.ints .i64)], []⟩
noncomputable def oldE (xs ac : List Int) (s : CD) : AN := some (s.pv [.i 0, .l xs, .l ac], [])
noncomputable def sil77 (N : NW) (y : Nat) (x : Int) (s : CD) (K : CD → AN) : AN := bif N.BY x then bif N.FO (s.setP (-1) y) (mate y) (N.SU x) then K (N.FB (s.setP (-1) y) (mate y) (N.SU x)) else none else none
section
variable (N : NW) (KV KE : KF) (xs ac : List Int) (s : CD) (x : Int)
noncomputable abbrev rv77 (T : Tm) (k e : Int) (y : Int) : AN := evalFn Tryz.prog (orcDo N d77 (h77 N KV KE k e)) noLoops 100 38 Tryz.f38 [.agg (s.vs (.gs 0) (.gs 1)), .int .u8 y, .int .u8 x] (crsH false false xs ac) (ansT T 2)
theorem rv_e100 (y : Int) : rv77 N KV KE xs ac s x crsE 0 100 y = bif kdC N KV KE 0 100 s xs ac y x then badE xs ac 100 else none := by kernel_rfl
theorem rv_e2 (y : Int) : rv77 N KV KE xs ac s x crsE 0 2 y = bif kdC N KV KE 0 2 s xs ac y x then badE xs ac 2 else none := by kernel_rfl
theorem rv_e80 (y : Int) : rv77 N KV KE xs ac s x crsE 0 80 y = bif kdC N KV KE 0 80 s xs ac y x then badE xs ac 80 else none := by kernel_rfl
theorem rv_k0 (y : Int) : rv77 N KV KE xs ac s x crsE 0 0 y = bif kdC N KV KE 0 0 s xs ac y x then badE xs ac 6 else none := by kernel_rfl
theorem rv_k1 (y : Int) : rv77 N KV KE xs ac s x crsS 1 0 y = bif kdC N KV KE 1 0 s xs ac y x then oldE xs ac (s.setH (wr .u8 (x + 1))) else none := by kernel_rfl
theorem rv_k2 (y : Int) : rv77 N KV KE xs ac s x crsS 2 0 y = bif kdC N KV KE 2 0 s xs ac y x then oldE xs ac (s.setH (wr .u8 (x + 1))) else none := by kernel_rfl
theorem rv_k6 (y : Int) : rv77 N KV KE xs ac s x crsS 6 0 y = bif kdC N KV KE 6 0 s xs ac y x then oldE xs ac s else none := by kernel_rfl
theorem rv_k7 (y : Int) : rv77 N KV KE xs ac s x crsS 7 0 y = bif kdC N KV KE 7 0 s xs ac y x then oldE xs ac s else none := by kernel_rfl
theorem rv_k3 : ∀ y : Nat, y < 4 → rv77 N KV KE xs ac s x crsS 3 0 (y : Int) = bif kdC N KV KE 3 0 s xs ac (y : Int) x then bif decide (x = 0) then oldE xs ac (N.RA s y) else oldE xs ac (s.setA (wr .u8 (x + 1)) y) else none
  | 0, _ => by kernel_rfl
  | 1, _ => by kernel_rfl
  | 2, _ => by kernel_rfl
  | 3, _ => by kernel_rfl
  | n + 4, h => absurd h (by omega)
theorem rv_k4 : ∀ y : Nat, y < 4 → rv77 N KV KE xs ac s x crsS 4 0 (y : Int) = bif kdC N KV KE 4 0 s xs ac (y : Int) x then bif decide (x = 0) then oldE xs ac (N.RA s y) else sil77 N y x s (oldE xs ac) else none
  | 0, _ => by kernel_rfl
  | 1, _ => by kernel_rfl
  | 2, _ => by kernel_rfl
  | 3, _ => by kernel_rfl
  | n + 4, h => absurd h (by omega)
theorem rv_k5 : ∀ y : Nat, y < 4 → rv77 N KV KE xs ac s x crsS 5 0 (y : Int) = bif kdC N KV KE 5 0 s xs ac (y : Int) x then bif !decide (x = 0) then oldE xs ac (N.RA s (mate y)) else oldE xs ac s else none
  | 0, _ => by kernel_rfl
  | 1, _ => by kernel_rfl
  | 2, _ => by kernel_rfl
  | 3, _ => by kernel_rfl
  | n + 4, h => absurd h (by omega)
end
theorem sil77_is {y : Nat} {x : Int} {s : CD} {K : CD → AN} (hx : byB x = true) (hs : ∀ k, 0 ≤ s.f.at k ∧ s.f.at k ≤ 15) : sil77 nW y x s K = K (silI suI s y (mate y) x) := by
  unfold sil77
  have hf : nW.FO (s.setP (-1) y) (mate y) (nW.SU x) = true := by
    show fbO (s.setP (-1) y) (mate y) (suI x) = true
    unfold fbO
    rw [show (s.setP (-1) y).f = s.f from rfl, decide_eq_true (hs _), decide_eq_true (suI_range x)]; rfl
  rw [show nW.BY x = true from hx, hf]
  rfl
theorem kdC_is {s : CD} {xs ac : List Int} {y x : Int} (h : okL xs = true) (hc : lenOk ac = true) (hb : crB s = true) (hy : byB y = true) (hx : byB x = true) {k e : Int} (hk : kdI s xs ac y x = k) (he : keI s xs ac y x = e) : kdC nW kdI keI k e s xs ac y x = true := by
  have hC : nW.Z.H.C s xs ac = true := by unfold NH.C; rw [show nW.Z.H.R.OK xs = true from h, show nW.Z.H.CK ac = true from hc, show nW.Z.H.DK s = true from crB_dk hb]; rfl
  unfold kdC
  rw [hC, show nW.Z.CB s = true from hb, show nW.BY y = true from hy, show nW.BY x = true from hx, decide_eq_true ⟨hk, he⟩]; rfl
theorem f77e (n1 n2 : Bool) {s : CD} {xs ac : List Int} {y x : Int} (h : okL xs = true) (hc : lenOk ac = true) (hb : crB s = true) (hy : byB y = true) (hx : byB x = true) (he : rfX s xs ac y x ≠ 0) :
    FnOK Tryz.prog 38 [.agg (s.vs (.gs 0) (.gs 1)), .int .u8 y, .int .u8 x] (crsH n1 n2 xs ac) (.tuple [.agg (c0.vs (.flat (.slice none 0 0)) (.flat (.slice none 0 0))), .int .i64 (rfX s xs ac y x)]) (crsH n1 n2 xs ac ++ []) := by
  have main : ∀ k e : Int, kdI s xs ac y x = k → keI s xs ac y x = e → rv77 nW kdI keI xs ac s x crsE k e y = (bif kdC nW kdI keI k e s xs ac y x then badE xs ac (rfX s xs ac y x) else none) → FnOK Tryz.prog 38 [.agg (s.vs (.gs 0) (.gs 1)), .int .u8 y, .int .u8 x] (crsH n1 n2 xs ac) (.tuple [.agg (c0.vs (.flat (.slice none 0 0)) (.flat (.slice none 0 0))), .int .i64 (rfX s xs ac y x)]) (crsH n1 n2 xs ac ++ []) := fun k e hk hke hq =>
    fn_crs (fn_ans (T := crsE) (ps := c0.pv [.i (rfX s xs ac y x), .l xs, .l ac]) (orcDo_ok (dom := d77) (h77_ok k e)) mixed Tryz.func38 noLoops_ok (by kernel_rfl) (hq.trans (by rw [kdC_is h hc hb hy hx hk hke]; rfl)) codesNil rfl)
  have hX : rfX s xs ac y x = bif !decide (keI s xs ac y x = 0) then keI s xs ac y x else bif decide (kdI s xs ac y x = 0) then 6 else 0 := rfl
  rcases (kd_range s xs ac y x).2.1 with h0 | ⟨hk, h1 | h1 | h1⟩
  · by_cases hk : kdI s xs ac y x = 0
    · refine main 0 0 hk h0 ?_
      rw [hX, h0, hk]; exact rv_k0 nW kdI keI xs ac s x y
    · rw [hX, h0, decide_eq_false hk] at he
      exact absurd rfl he
  · refine main 0 100 hk h1 ?_
    rw [hX, h1]; exact rv_e100 nW kdI keI xs ac s x y
  · refine main 0 2 hk h1 ?_
    rw [hX, h1]; exact rv_e2 nW kdI keI xs ac s x y
  · refine main 0 80 hk h1 ?_
    rw [hX, h1]; exact rv_e80 nW kdI keI xs ac s x y
theorem f77k (n1 n2 : Bool) {s : CD} {xs ac : List Int} {y x : Int} (h : okL xs = true) (hc : lenOk ac = true) (hb : crB s = true) (hy : byB y = true) (hx : byB x = true) (he : rfX s xs ac y x = 0) :
    FnOK Tryz.prog 38 [.agg (s.vs (.gs 0) (.gs 1)), .int .u8 y, .int .u8 x] (crsH n1 n2 xs ac) (.tuple [.agg ((rfC s xs ac y x).vs (.gs 0) (.gs 1)), .int .i64 0]) (crsH n1 n2 xs ac ++ []) := by
  have e1 : rfC s xs ac y x = rfS (kdI s xs ac y x) s y.toNat x := by unfold rfC; rw [decide_eq_true he]; rfl
  have hX : rfX s xs ac y x = bif !decide (keI s xs ac y x = 0) then keI s xs ac y x else bif decide (kdI s xs ac y x = 0) then 6 else 0 := rfl
  have h0 : keI s xs ac y x = 0 := by
    by_cases hq : keI s xs ac y x = 0
    · exact hq
    · rw [hX, decide_eq_false hq] at he; exact absurd he hq
  have hk0 : kdI s xs ac y x ≠ 0 := fun hq => by rw [hX, h0, hq] at he; cases he
  obtain ⟨hr1, _, hr3⟩ := kd_range s xs ac y x
  obtain ⟨hy3, hx37, hr⟩ := hr3 h0
  have hf := rgt_f h hb hr
  obtain ⟨z, hz, rfl⟩ : ∃ z : Nat, z < 4 ∧ y = (z : Int) := ⟨y.toNat, by have := by_rg hy; omega, by have := by_rg hy; omega⟩
  rw [e1, Int.toNat_natCast]
  have main : ∀ k : Int, kdI s xs ac z x = k → rv77 nW kdI keI xs ac s x crsS k 0 z = (bif kdC nW kdI keI k 0 s xs ac z x then oldE xs ac (rfS k s z x) else none) → FnOK Tryz.prog 38 [.agg (s.vs (.gs 0) (.gs 1)), .int .u8 z, .int .u8 x] (crsH n1 n2 xs ac) (.tuple [.agg ((rfS (kdI s xs ac z x) s z x).vs (.gs 0) (.gs 1)), .int .i64 0]) (crsH n1 n2 xs ac ++ []) := fun k hk hq => by
    rw [hk]
    exact fn_crs (fn_ans (T := crsS) (ps := (rfS k s z x).pv [.i 0, .l xs, .l ac]) (orcDo_ok (dom := d77) (h77_ok k 0)) mixed Tryz.func38 noLoops_ok (by kernel_rfl) (hq.trans (by rw [kdC_is h hc hb hy hx hk h0]; rfl)) codesNil rfl)
  rcases hr1 with hk | hk | hk | hk | hk | hk | hk | hk
  · exact absurd hk hk0
  · exact main 1 hk (rv_k1 nW kdI keI xs ac s x z)
  · exact main 2 hk (rv_k2 nW kdI keI xs ac s x z)
  · refine main 3 hk ((rv_k3 nW kdI keI xs ac s x z hz).trans ?_)
    unfold rfS
    cases decide (x = 0) <;> rfl
  · refine main 4 hk ((rv_k4 nW kdI keI xs ac s x z hz).trans ?_)
    rw [sil77_is hx hf]
    unfold rfS
    cases decide (x = 0) <;> rfl
  · refine main 5 hk ((rv_k5 nW kdI keI xs ac s x z hz).trans ?_)
    unfold rfS
    cases decide (x = 0) <;> rfl
  · exact main 6 hk (rv_k6 nW kdI keI xs ac s x z)
  · exact main 7 hk (rv_k7 nW kdI keI xs ac s x z)
end Go.Proofs.YtojlmpcbplepcaaGreat
