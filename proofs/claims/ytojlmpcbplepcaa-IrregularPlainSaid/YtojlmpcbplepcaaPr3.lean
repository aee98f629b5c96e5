/- Chapter 10: IrregularPlain: its loop; the law. -/
import Derived.Test.YtojlmpcbplepcaaTv2
import Derived.Test.YtojlmpcbplepcaaTv2
namespace Go.Proofs.Ytojlmpcbplepcaa
open Go Go.Eng
theorem q4e_one (q : Q4) : q4e q q = true := by unfold q4e; simp
theorem q0_at (k : Nat) : q0.at k = 0 := by unfold Q4.at; split <;> rfl
theorem do_plain {k : Nat} (hk : k < 4) (d : Int) (xs : List Int) (v : Int) : doS k xs (crs0 d) v = crs0 d := by
  rcases four hk with rfl | rfl | rfl | rfl <;> rfl
theorem pl_lg {d : Int} (hd : 0 ≤ d ∧ d ≤ 3) {xs : List Int} (h : GC d xs []) (hl : xs.length ≤ 100000) (x : Int) : lgI (crs0 d) xs x = decide (chk (fol d xs).s x = 0) := by
  obtain ⟨_, sm⟩ := pl_sim hd h rfl hl
  have g := h.gi hd (by omega)
  unfold lgI demI
  rw [show (crs0 d).p = q0 from rfl, show (crs0 d).a = q0 from rfl, q0_at, show (crs0 d).d = d from rfl, g.fr, sm.chk]
  show (decide (chk (Tt d xs) x = 0) && true) = _
  rw [Bool.and_true]
theorem pl_lgs {d : Int} (hd : 0 ≤ d ∧ d ≤ 3) {xs : List Int} (h : GC d xs []) (hl : xs.length ≤ 100000) : lgsI (crs0 d) xs = lgl (fol d xs).s := by
  unfold lgsI lgl
  exact List.filter_congr fun x _ => pl_lg hd h hl x
theorem pl_rc {d : Int} (hd : 0 ≤ d ∧ d ≤ 3) {xs : List Int} (h : GC d xs []) : RC (crs0 d) xs [] := (rc0 hd).rc.calls h
theorem pl_leadV (d : Int) (xs : List Int) : leadV (crs0 d) xs [] = 0 := by
  unfold leadV
  rw [show (crs0 d).f = q0 from rfl, q0_at]
  cases decide (leadE (crs0 d) xs [] = 0) <;> rfl
theorem pl_dq {d : Int} (hd : 0 ≤ d ∧ d ≤ 3) {xs : List Int} (h : GC d xs []) (hl : xs.length ≤ 400) (hov : ovI d xs = true) : conI (crs0 d) xs [] = dqF (fol d xs) ∧ (0 < (conI (crs0 d) xs []).a → leadE (crs0 d) xs [] = 0) := by
  obtain ⟨he, sm⟩ := pl_sim hd h rfl (by omega)
  have g := h.gi hd (by omega)
  have rc := pl_rc hd h
  have hop : opI (crs0 d) xs [] = 101 := by rw [rc.op (.inl rfl) hl]; show (bif ovI d xs then (101 : Int) else 0) = 101; rw [hov]; rfl
  have hce : conE (crs0 d) xs [] = 0 := by unfold conE; rw [hop]; rfl
  have hu : allU xs = true := (okL_iff.1 (rc.ok (by omega))).2
  have hso : ovr (fol d xs).s = true := by rw [sm.ovr, ← g.ov]; exact hov
  have ei : conI (crs0 d) xs [] = conQ (crs0 d) xs := by unfold conI; rw [hce]; rfl
  have ed : dqF (fol d xs) = bif (fol d xs).s.b.m then ⟨(fol d xs).s.b.l, (fol d xs).s.b.d, (fol d xs).s.risk, ((fol d xs).s.fst (kOf (fol d xs).s.b.s (fol d xs).s.b.d)).s⟩ else q0 := by unfold dqF; rw [he, hso]; rfl
  rw [ei, ed]
  cases hb : (fol d xs).s.b.m with
  | true =>
    obtain ⟨e1, e2⟩ := pl_con hd h (by omega) hu hb
    refine ⟨e1, fun _ => ?_⟩
    have hk : okA d xs = true := okA_of hd.1 (by omega) hu
    have iv := inv_fol hk he
    obtain ⟨a, _, _, a3, _, _, _⟩ := (hist hk he).bid hb
    obtain ⟨⟨g1, g2, g3, g4⟩, _⟩ := iv.b hb
    have hhas : hasB xs = true := by rw [← g.m, ← sm.b]; exact hb
    obtain ⟨q, _, qd, q3, _⟩ := conQ_rot (s := crs0 d) (y := 0) hd (by omega) hhas
    rw [q3] at e1
    have hr := iv.risk
    have hlv := lv_pos a3
    have hdn := dn_range a3
    unfold leadE
    rw [hce, ei, q3]
    show ldE q.a q.b q.c q.d = 0
    have ha : q.a = (fol d xs).s.b.l := by rw [e1]
    have hbb : q.b = (fol d xs).s.b.d := by rw [e1]
    have hc : q.c = (fol d xs).s.risk := by rw [e1]
    unfold ldE ldN
    rw [decide_eq_false (show ¬ q.a = 0 by omega), decide_eq_false (show ¬ 7 < q.a by rw [ha, g2]; omega), decide_eq_false (show ¬ 4 < q.b by rw [hbb, g3]; omega), decide_eq_false (show ¬ 2 < q.c by rw [hc]; omega), decide_eq_false (show ¬ 3 < q.d by omega)]; rfl
  | false =>
    have hhas : hasB xs = false := by rw [← g.m, ← sm.b]; exact hb
    have e : conQ (crs0 d) xs = q0 := by unfold conQ; rw [hhas]; rfl
    rw [e]
    exact ⟨rfl, fun h => absurd h (by show ¬ (0 : Int) < 0; omega)⟩
theorem pp_ok {d : Int} (hd : 0 ≤ d ∧ d ≤ 3) {xs : List Int} (h : GC d xs []) (hl : xs.length ≤ 100) (b : Bool) (hb : ovI d xs = b) (X : Option (XE × List PV × List (Code × Code))) : ppC (nP b) (crs0 d) xs [] X = X ∧ (∀ ws, ppM nL (nP b) ws (crs0 d) xs [] X = X) := by
  obtain ⟨he, sm⟩ := pl_sim hd h rfl (by omega)
  have g := h.gi hd (by omega)
  have rc := pl_rc hd h
  have hop : opI (crs0 d) xs [] = bif b then 101 else 0 := by rw [rc.op (.inl rfl) (by omega), ← hb]; rfl
  have hce : conE (crs0 d) xs [] = bif b then 0 else 102 := by unfold conE; rw [hop]; cases b <;> rfl
  have hok : okL xs = true := rc.ok (by omega)
  have hk : okA d xs = true := okA_of hd.1 (by omega) (okL_iff.1 hok).2
  have hso : ovr (fol d xs).s = b := by rw [sm.ovr, ← g.ov]; exact hb
  have l9 : legE (fol d xs) = bif b then 90 else 0 := by unfold legE; rw [he, hso]; rfl
  have t9 : teF (fol d xs) = bif b then 90 else 0 := by unfold teF; rw [he, hso]; rfl
  have c9 : deF (fol d xs) = bif b then 0 else 91 := by unfold deF; rw [he, hso]; rfl
  have tu : tuV (crs0 d) xs [] = tvF (fol d xs) := by
    unfold tuV tvF
    rw [hop, he, hso]
    cases b with
    | true => rfl
    | false =>
      show trnI (crs0 d) xs = (fol d xs).s.turn
      unfold trnI
      rw [show Int.ofNat xs.length = ((xs.length : Nat) : Int) from rfl, show (crs0 d).d = d from rfl, mk_is hd (by omega), sm.turn, g.t]
  have cq : conI (crs0 d) xs [] = dqF (fol d xs) := by
    cases b with
    | true => exact (pl_dq hd h (by omega) hb).1
    | false =>
      unfold conI dqF
      rw [hce, he, hso]; rfl
  refine ⟨?_, fun ws => ?_⟩
  · have a1 : (nP b).A18 (crs0 d) xs [] = true := by show ((okL xs && dkB (crs0 d)) && decide (opI (crs0 d) xs [] = bif b then 101 else 0)) = true; rw [hok, rc.dk, decide_eq_true hop]; rfl
    have a2 : (nP b).A14 (crs0 d) xs [] = true := by show (okL xs && decide (opI (crs0 d) xs [] = bif b then 101 else 0)) = true; rw [hok, decide_eq_true hop]; rfl
    have a3 : (nP b).A23 (crs0 d) xs [] = true := by show (okL xs && decide (conE (crs0 d) xs [] = bif b then 0 else 102)) = true; rw [hok, decide_eq_true hce]; rfl
    have a4 : (nP b).A30 (crs0 d).d xs = true := by show (okA d xs && decide (legE (fol d xs) = bif b then 90 else 0)) = true; rw [hk, decide_eq_true l9]; rfl
    have a5 : (nP b).A31 (crs0 d).d xs = true := by show (okA d xs && decide (teF (fol d xs) = bif b then 90 else 0)) = true; rw [hk, decide_eq_true t9]; rfl
    have a6 : (nP b).A32 (crs0 d).d xs = true := by show (okA d xs && decide (deF (fol d xs) = bif b then 0 else 91)) = true; rw [hk, decide_eq_true c9]; rfl
    unfold ppC
    rw [a1, a2, a3, a4, a5, a6]; rfl
  · unfold ppM
    rw [show (nP b).TV (crs0 d) xs [] = tuV (crs0 d) xs [] from rfl, show (nP b).UV (crs0 d).d xs = tvF (fol d xs) from rfl, tu, decide_eq_true (rfl : tvF (fol d xs) = tvF (fol d xs)), show (nP b).CQ (crs0 d) xs [] = conI (crs0 d) xs [] from rfl, show (nP b).DQ (crs0 d).d xs = dqF (fol d xs) from rfl, cq, q4e_one,
      show nL.F.OK xs = true from hok, show nL.LV (crs0 d) xs [] = leadV (crs0 d) xs [] from rfl, pl_leadV]
    rfl
theorem plain_low {d : Int} {xs : List Int} (g : GI d xs) (ho : ovI d xs = false) {v : Int} (hf : frI d xs v = true) : lwI xs v = false := by
  cases hb : isBid v with
  | false => unfold lwI; rw [hb]; rfl
  | true =>
    have := g.bid ho hb
    rw [hf] at this
    cases hw : lwI xs v with
    | false => rfl
    | true => rw [hw] at this; cases this
theorem pp_loop (rd : Option Nat) (r : Bool) (ws : List Int) (hu : allU ws = true) (d : Int) (hd : 0 ≤ d ∧ d ≤ 3) : ∀ x : Nat × List Int, (x.1 ≤ 60 ∧ x.2.length = x.1 ∧ GC d x.2 []) →
    SimC Try.prog 1 rd (.loop ppLp) (ppT.at (ppIn r (x.1 : Int) ws (crs0 d) x.2 [])) .ret (ppX.at [.b true, .l ws]) := by
  refine loop_of_roundsD (L := noLoops) (N := 100) (me := 8) (T := ppT) (T' := ppX) mixed noLoops_ok (by kernel_rfl) (by kernel_rfl) (X := Nat × List Int)
    (fun x => ppIn r (x.1 : Int) ws (crs0 d) x.2 []) (fun x => x.1 ≤ 60 ∧ x.2.length = x.1 ∧ GC d x.2 []) (fun x => 60 - x.1) (fun _ => (.ret, [.b true, .l ws])) ?_
  rintro ⟨i, xs⟩ ⟨hi, hl, gc⟩
  dsimp only at hi hl gc ⊢
  have rc := pl_rc hd gc
  have g := gc.gi hd (by omega)
  have hok : okL xs = true := rc.ok (by omega)
  cases hv : ovI d xs with
  | true =>
    have key := pp_over nL (nP true) rd r (i : Int) ws xs [] (crs0 d)
    obtain ⟨he, sm⟩ := pl_sim hd gc rfl (by omega)
    have hso : ovr (fol d xs).s = true := by rw [sm.ovr, ← g.ov]; exact hv
    have bv : (nP true).BV (crs0 d).d xs = [] := by show legV (fol d xs) = []; unfold legV; rw [he, hso]; rfl
    rw [(pp_ok hd gc (by omega) true hv _).1, bv, (pp_ok hd gc (by omega) true hv _).2] at key
    obtain ⟨_, e2⟩ := pl_dq hd gc (by omega) hv
    refine ⟨_, orcP_ok true, .ret, [.b true, .l ws], [], ?_, codesNil, .inr ⟨by simp, rfl⟩⟩
    refine key.trans ?_
    show (bif decide (0 < (conI (crs0 d) xs []).a) then bif !decide (leadE (crs0 d) xs [] = 0) then ppF false ws else ppF true ws else ppF true ws) = _
    by_cases ha : 0 < (conI (crs0 d) xs []).a
    · rw [decide_eq_true ha, e2 ha]; rfl
    · rw [decide_eq_false ha]; rfl
  | false =>
    obtain ⟨C0, hC0, key⟩ : ∃ C0, OracleOk Try.prog C0 ∧ roundT Try.prog C0 noLoops 100 1 rd 8 ppLp ppT ppX (ppIn r (i : Int) ws (crs0 d) xs []) = _ := ⟨_, orcP_ok false, pp_open nL (nP false) rd r (i : Int) ws xs [] (crs0 d)⟩
    obtain ⟨he, sm⟩ := pl_sim hd gc rfl (by omega)
    have hso : ovr (fol d xs).s = false := by rw [sm.ovr, ← g.ov]; exact hv
    have hop : opI (crs0 d) xs [] = 0 := by rw [rc.op (.inl rfl) (by omega)]; show (bif ovI d xs then (101 : Int) else 0) = 0; rw [hv]; rfl
    have lv : (nP false).LV (crs0 d) xs [] = lgsI (crs0 d) xs := by show lgV (crs0 d) xs [] = _; unfold lgV; rw [hop]; rfl
    have bv : (nP false).BV (crs0 d).d xs = lgsI (crs0 d) xs := by show legV (fol d xs) = _; rw [pl_lgs hd gc (by omega)]; unfold legV; rw [he, hso]; rfl
    have hkl : klB (lgsI (crs0 d) xs) = true := decide_eq_true (by have := List.length_filter_le (lgI (crs0 d) xs) calls38; have e : calls38.length = 38 := c38_len; unfold lgsI; omega)
    rw [(pp_ok hd gc (by omega) false hv _).1, bv, lv, (pp_ok hd gc (by omega) false hv _).2, show nL.KL = klB from rfl, hkl, show nL.EQ (lgsI (crs0 d) xs) (lgsI (crs0 d) xs) = true from eqI_iff.2 rfl] at key
    have fin : ∀ X, X = ppF true ws → roundT Try.prog C0 noLoops 100 1 rd 8 ppLp ppT ppX (ppIn r (i : Int) ws (crs0 d) xs []) = X → ∃ C, OracleOk Try.prog C ∧ ∃ e qs l, roundT Try.prog C noLoops 100 1 rd 8 ppLp ppT ppX (ppIn r (i : Int) ws (crs0 d) xs []) = some (e, qs, l) ∧ codesOk l ∧
      ((e = .normal ∧ ∃ y : Nat × List Int, qs = ppIn r (y.1 : Int) ws (crs0 d) y.2 [] ∧ (y.1 ≤ 60 ∧ y.2.length = y.1 ∧ GC d y.2 []) ∧ 60 - y.1 < 60 - i ∧ (XE.ret, [PV.b true, PV.l ws]) = (XE.ret, [PV.b true, PV.l ws])) ∨ (e ≠ .normal ∧ (e, qs) = (XE.ret, [PV.b true, PV.l ws]))) := fun X hX hk => by
      rw [hX] at hk
      exact ⟨C0, hC0, _, _, _, hk, codesNil, .inr ⟨by simp, rfl⟩⟩
    have z1 : Int.ofNat (lgsI (crs0 d) xs).length = ((lgsI (crs0 d) xs).length : Int) := rfl
    have z2 : Int.ofNat ws.length = (ws.length : Int) := rfl
    have zm : ∀ (a b : Int), foldI minI a [b] = min a b := fun a b => by
      show minI a b = _
      unfold minI
      rw [cond_eq_ite]
      simp only [decide_eq_true_eq]
      split <;> omega
    rw [z1, z2, zm] at key
    by_cases hn : (lgsI (crs0 d) xs).length = 0
    · rw [decide_eq_true (show ((lgsI (crs0 d) xs).length : Int) = 0 by omega)] at key
      exact fin _ rfl key
    · rw [decide_eq_false (show ¬ ((lgsI (crs0 d) xs).length : Int) = 0 by omega)] at key
      by_cases hm : min (ws.length : Int) 60 ≤ (i : Int)
      · rw [decide_eq_true hm] at key
        exact fin _ rfl key
      · rw [decide_eq_false hm] at key
        have hiw : i < ws.length := by omega
        have hx := allU_get hu hiw
        have D : ∀ k : Int, 0 ≤ k → k < ((lgsI (crs0 d) xs).length : Int) → ∃ v, 0 ≤ v ∧ v ≤ 37 ∧ lgI (crs0 d) xs v = true ∧ ppD nL r (i : Int) ws (crs0 d) xs [] (lgsI (crs0 d) xs) k = some (.normal, ppIn r ((i + 1 : Nat) : Int) ws (crs0 d) (xs ++ [v]) [], []) := fun k k0 k1 => by
          have hk : k.toNat < (lgsI (crs0 d) xs).length := by omega
          have hm : (lgsI (crs0 d) xs).getD k.toNat 0 ∈ lgsI (crs0 d) xs := by rw [List.getD_eq_getElem?_getD, List.getElem?_eq_getElem hk]; exact List.getElem_mem _
          obtain ⟨v0, v1, v2⟩ := lgs_mem hm
          refine ⟨_, v0, v1, v2, ?_⟩
          have hdx : doX (crs0 d) xs [] ((lgsI (crs0 d) xs).getD k.toNat 0) = 0 := rc.dox (.inl rfl) (by omega) hv v2
          unfold ppD
          rw [z1, decide_eq_true (show 0 ≤ k ∧ k < ((lgsI (crs0 d) xs).length : Int) from ⟨k0, k1⟩), cond_true, atN_get hk]
          generalize (lgsI (crs0 d) xs).getD k.toNat 0 = v at *
          have ec : nL.F.DS (crs0 d) xs [] v = crs0 d := by show doC (crs0 d) xs [] v = _; unfold doC; rw [hdx]; exact do_plain (rc.tnn (by omega)).2 d xs v
          have el : nL.F.DL (crs0 d) xs [] v = xs ++ [v] := by show doL (crs0 d) xs [] v = _; unfold doL; rw [hdx]; rfl
          have ek : nL.F.DA (crs0 d) xs [] v = [] := by show doK (crs0 d) xs [] v = _; unfold doK; rw [hdx]; rfl
          rw [show nL.F.OK xs = true from hok, show nL.F.CK [] = true from rfl, show nL.F.DK (crs0 d) = true from rc.dk, show nL.F.BY = byB from rfl, by_of (v := v) (by omega), show nL.F.DX (crs0 d) xs [] v = doX (crs0 d) xs [] v from rfl, hdx, ec, el, ek, wr64 (n := (i : Int) + 1) (by omega) (by omega)]
          rfl
        have fin2 : ∀ k : Int, 0 ≤ k → k < ((lgsI (crs0 d) xs).length : Int) → roundT Try.prog C0 noLoops 100 1 rd 8 ppLp ppT ppX (ppIn r (i : Int) ws (crs0 d) xs []) = ppD nL r (i : Int) ws (crs0 d) xs [] (lgsI (crs0 d) xs) k → ∃ C, OracleOk Try.prog C ∧ ∃ e qs l, roundT Try.prog C noLoops 100 1 rd 8 ppLp ppT ppX (ppIn r (i : Int) ws (crs0 d) xs []) = some (e, qs, l) ∧ codesOk l ∧
          ((e = .normal ∧ ∃ y : Nat × List Int, qs = ppIn r (y.1 : Int) ws (crs0 d) y.2 [] ∧ (y.1 ≤ 60 ∧ y.2.length = y.1 ∧ GC d y.2 []) ∧ 60 - y.1 < 60 - i ∧ (XE.ret, [PV.b true, PV.l ws]) = (XE.ret, [PV.b true, PV.l ws])) ∨ (e ≠ .normal ∧ (e, qs) = (XE.ret, [PV.b true, PV.l ws]))) := fun k k0 k1 hk => by
          obtain ⟨v, v0, v1, v2, e⟩ := D k k0 k1
          have hk := hk.trans e
          have hf0 := lg_fr (s := crs0 d) (xs := xs) (x := v) v2
          have hf : frI d xs v = true := hf0
          have hg : GC d (xs ++ [v]) [] := .free gc hv (plain_low g hv hf) hf v0
          have hlen : (xs ++ [v]).length = i + 1 := by rw [List.length_append, List.length_singleton, hl]
          have hi1 : i + 1 ≤ 60 := by omega
          have hmu : 60 - (i + 1) < 60 - i := by omega
          refine ⟨C0, hC0, .normal, ppIn r ((i + 1 : Nat) : Int) ws (crs0 d) (xs ++ [v]) [], [], hk, codesNil, .inl ⟨rfl, (i + 1, xs ++ [v]), rfl, ⟨hi1, hlen, hg⟩, hmu, rfl⟩⟩
        have ex : Int.toNat (i : Int) = i := rfl
        unfold ppK atU at key
        rw [z2, decide_eq_true (show 0 ≤ (i : Int) ∧ (i : Int) < (ws.length : Int) by omega), ex, List.getElem?_eq_getElem hiw] at key
        simp only [cond_true] at key
        rw [z1, decide_eq_false (show ¬ ((lgsI (crs0 d) xs).length : Int) = 0 by omega), cond_false, wr64 (n := ws[i]) (by omega) (by omega), zm] at key
        have k0 := Int.tmod_nonneg ((lgsI (crs0 d) xs).length : Int) hx.1
        have k1 := Int.tmod_lt_of_pos ws[i] (show (0 : Int) < ((lgsI (crs0 d) xs).length : Int) by omega)
        by_cases hb : 128 ≤ ws[i]
        · rw [decide_eq_true hb, cond_true, decide_eq_false (show ¬ min ((lgsI (crs0 d) xs).length : Int) 4 = 0 by omega), cond_false] at key
          refine fin2 _ ?_ ?_ key
          · exact Int.tmod_nonneg _ k0
          · have := Int.tmod_lt_of_pos (ws[i].tmod ((lgsI (crs0 d) xs).length : Int)) (show (0 : Int) < min ((lgsI (crs0 d) xs).length : Int) 4 by omega)
            omega
        · rw [decide_eq_false hb, cond_false] at key
          exact fin2 _ k0 k1 key
end Go.Proofs.Ytojlmpcbplepcaa
