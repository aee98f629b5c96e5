/- Chapter 10: IrregularStays: its second loop ends: each seat calls at most once otherwise, then all pass. -/
import Derived.Test.YtojlmpcbplepcaaLw3
namespace Go.Proofs.Ytojlmpcbplepcaa
open Go Go.Eng
theorem doS_a (k : Nat) (xs : List Int) (s : CD) (x : Int) : (doS k xs s x).a = s.a.set 0 k := by
  unfold doS
  dsimp only
  simp only [cond_eq_ite]
  repeat' split
  all_goals rfl
theorem ovr_passes {s : St} (ho : ovr s = false) : s.passes ≤ 3 := by
  unfold ovr at ho
  cases hm : s.b.m with
  | true => rw [hm] at ho; simp only [cond_true, decide_eq_false_iff_not] at ho; omega
  | false => rw [hm] at ho; simp only [cond_false, decide_eq_false_iff_not] at ho; omega
structure SB (i : Nat) (c : CS) : Prop where
  ok : c.Ok (160 + i)
  a : ∀ k : Nat, k < 4 → c.s.a.at k ≠ 0 → i + (k + 4 - tN c.s c.xs) % 4 < 4
  p : (i : Int) - 4 ≤ (Tt c.s.d c.xs).passes
theorem SB.next {i : Nat} {c : CS} (h : SB i c) (hi : i ≤ 12) (hv : ovI c.s.d c.xs = false) : i < 8 ∧ ∃ v r, lgsI c.s c.xs = v :: r ∧ (0 ≤ v ∧ v ≤ 37) ∧ lgI c.s c.xs v = true ∧ SB (i + 1) ⟨doS (tN c.s c.xs) c.xs c.s v, c.xs ++ [v], c.ac⟩ := by
  obtain ⟨⟨rc, ho, hl⟩, ha, hp⟩ := h
  have g := rc.gi (by omega)
  have hov := hv
  rw [g.ov] at hov
  have h3 := ovr_passes hov
  obtain ⟨l1, _, l3⟩ := rc.lgs (by omega) hv
  refine ⟨by omega, ?_⟩
  cases hlg : lgsI c.s c.xs with
  | nil => exact absurd hlg l1
  | cons v r =>
    have hm : v ∈ lgsI c.s c.xs := by rw [hlg]; exact List.mem_cons_self ..
    obtain ⟨m1, m2, m3⟩ := lgs_mem hm
    refine ⟨v, r, rfl, ⟨m1, m2⟩, m3, ?_⟩
    obtain ⟨t1, t2⟩ := rc.tnn (by omega)
    have rc2 := rc.do15 (by omega) m1 m3
    have hlen : (c.xs ++ [v]).length = c.xs.length + 1 := by simp
    obtain ⟨u1, u2⟩ := rc2.tnn (by omega)
    have hd : (doS (tN c.s c.xs) c.xs c.s v).d = c.s.d := (doS_d _ _ _ _).1
    rw [hd, hlen] at u1
    have g2 := rc2.gi (by omega)
    rw [hd] at g2
    refine ⟨⟨rc2, .inl (doS_d _ _ _ _).2, by dsimp only; omega⟩, ?_, ?_⟩
    · intro k hk hne
      dsimp only at hne ⊢
      rw [doS_a, at_set t2 hk] at hne
      by_cases e : k = tN c.s c.xs
      · rw [if_pos e] at hne; exact absurd rfl hne
      · rw [if_neg e] at hne
        have := ha k hk hne
        omega
    · dsimp only
      rw [hd]
      by_cases h4 : i < 4
      · have := g2.p.1; omega
      · have h0 : c.s.a.at (tN c.s c.xs) = 0 := by
          by_cases e : c.s.a.at (tN c.s c.xs) = 0
          · exact e
          · have := ha _ t2 e; omega
        obtain ⟨r', e'⟩ := l3 h0
        rw [hlg] at e'
        cases e'
        have e2 := (g.snoc (by omega) (c := 0) ⟨by omega, by omega⟩ hv (.inr (lg_fr m3))).2
        have hp0 := g.p.1
        rw [e2]
        show (i + 1 : Nat) - (4 : Int) ≤ (aft (Tt c.s.d c.xs) 0).passes
        rw [aft_pass]
        show ((i + 1 : Nat) : Int) - 4 ≤ wr .i64 ((Tt c.s.d c.xs).passes + 1)
        rw [wr64 (by omega) (by omega)]
        omega
theorem ss_loop (rd : Option Nat) (r : Bool) (ws : List Int) : ∀ x : Nat × CS, (x.1 ≤ 8 ∧ SB x.1 x.2) →
    SimC Try.prog 1 rd (.loop sbLp4) (sbT4.at (sbIn r (x.1 : Int) ws x.2.s x.2.xs x.2.ac)) .ret (sbX4.at [.b true, .l ws]) := by
  refine loop_of_rounds (C := orcW nL tabAw plainL) (L := noLoops) (N := 100) (me := 4) (T := sbT4) (T' := sbX4) (orcW_ok tabAw_ok plainL_ok) mixed noLoops_ok (by kernel_rfl) (by kernel_rfl) (X := Nat × CS)
    (fun x => sbIn r (x.1 : Int) ws x.2.s x.2.xs x.2.ac) (fun x => x.1 ≤ 8 ∧ SB x.1 x.2) (fun x => 8 - x.1) (fun _ => (.ret, [.b true, .l ws])) ?_
  rintro ⟨i, c⟩ ⟨hi, hs⟩
  dsimp only at hi hs ⊢
  have key := ss_round nL rd r (i : Int) ws c.xs c.ac c.s
  have rc := hs.ok.rc
  have hl := hs.ok.le
  have hop := rc.op hs.ok.ho (by omega)
  have hok : okL c.xs = true := rc.ok (by omega)
  rw [decide_eq_true (show (i : Int) < 12 by omega), show nL.F.OK c.xs = true from hok, show nL.F.DK c.s = true from rc.dk, show nL.F.OP c.s c.xs c.ac = opI c.s c.xs c.ac from rfl, show nL.E.OK c.xs = true from hok, show nL.E.CE c.s c.xs c.ac = conE c.s c.xs c.ac from rfl, show nL.F.RG c.s c.xs c.ac = rgtI c.s c.xs c.ac from rfl, rc.right hs.ok.ho (by omega),
    show nL.F.LV c.s c.xs c.ac = lgV c.s c.xs c.ac from rfl] at key
  cases hv : ovI c.s.d c.xs with
  | true =>
    rw [hv] at hop
    have hop : opI c.s c.xs c.ac = 101 := hop
    have hce : conE c.s c.xs c.ac = 0 := by unfold conE; rw [hop]; rfl
    rw [hop, hce] at key
    exact ⟨_, _, _, key, codesNil, .inr ⟨by simp, rfl⟩⟩
  | false =>
    rw [hv] at hop
    have hop : opI c.s c.xs c.ac = 0 := hop
    obtain ⟨h8, v, q, e, hv37, hlv, hn⟩ := hs.next (by omega) hv
    have hlg : lgV c.s c.xs c.ac = v :: q := by unfold lgV; rw [hop]; exact e
    have hdx : doX c.s c.xs c.ac v = 0 := rc.dox hs.ok.ho (by omega) hv hlv
    have z1 : Int.ofNat (v :: q).length = ((q.length + 1 : Nat) : Int) := rfl
    have hac := rc.gc.len
    rw [hop, hlg, z1, decide_eq_false (show ¬ ((q.length + 1 : Nat) : Int) = 0 by omega), decide_eq_true (show (0 : Int) ≤ 0 ∧ 0 < ((q.length + 1 : Nat) : Int) by omega), atN_get (by simp)] at key
    have e0 : (v :: q).getD 0 0 = v := rfl
    rw [e0, show nL.F.CK c.ac = true from decide_eq_true (by omega), show nL.F.BY = byB from rfl, by_of (v := v) (by omega), show nL.F.DX c.s c.xs c.ac v = doX c.s c.xs c.ac v from rfl, hdx, wr64 (n := (i : Int) + 1) (by omega) (by omega)] at key
    have ec : nL.F.DS c.s c.xs c.ac v = doS (tN c.s c.xs) c.xs c.s v := by show doC c.s c.xs c.ac v = _; unfold doC; rw [hdx]; rfl
    have el : nL.F.DL c.s c.xs c.ac v = c.xs ++ [v] := by show doL c.s c.xs c.ac v = _; unfold doL; rw [hdx]; rfl
    have ek : nL.F.DA c.s c.xs c.ac v = c.ac := by show doK c.s c.xs c.ac v = _; unfold doK; rw [hdx]; rfl
    rw [ec, el, ek] at key
    exact ⟨_, _, _, key, codesNil, .inl ⟨rfl, (i + 1, ⟨doS (tN c.s c.xs) c.xs c.s v, c.xs ++ [v], c.ac⟩), rfl, ⟨by dsimp only; omega, hn⟩, by dsimp only; omega, rfl⟩⟩
theorem CS.Ok.sb {c : CS} (h : c.Ok 160) : SB 0 c := by
  refine ⟨h, fun k hk _ => ?_, ?_⟩
  · have := Nat.mod_lt (k + 4 - tN c.s c.xs) (show 0 < 4 by omega)
    omega
  · have := (h.rc.gi (by have := h.le; omega)).p.1
    omega
/-! ### the loops as wholes -/
noncomputable def okCb (s : CD) (xs ac : List Int) : Bool := @decide (CS.Ok ⟨s, xs, ac⟩ 160) (Classical.propDecidable _)
theorem okCb_iff {s : CD} {xs ac : List Int} : okCb s xs ac = true ↔ CS.Ok ⟨s, xs, ac⟩ 160 := by unfold okCb; exact @decide_eq_true_iff _ (Classical.propDecidable _)
structure NSt where
  M : NMd
  OC : CD → List Int → List Int → Bool
noncomputable def nSt : NSt := ⟨nMd, okCb⟩
noncomputable def saTree (N : NMd) : List PV → Fin
  | .b r :: .n l :: .n k :: .i n :: .i i :: .l ws :: ps => match crsP ps with
    | some (s, [.l xs, .l ac]) => .br (decide (l = 0 ∧ n = Int.ofNat k ∧ i = 0 ∧ xs.length = 0 ∧ ac.length = 0 ∧ k ≤ 40 ∧ k ≤ ws.length / 3) && (N.OK ws && (isC0 s && N.D4 s.d))) (.leaf (.exit 0) (saX.at (saOut r ws (N.MC s ws k) (N.ML s ws k) (N.MA s ws k)))) .no
    | _ => .no
  | _ => .no
noncomputable def ssTree (N : NSt) : List PV → Fin
  | .b _ :: .i i :: .l ws :: ps => match crsP ps with
    | some (s, [.l xs, .l ac]) => .br (decide (i = 0) && N.OC s xs ac) (.leaf .ret (sbX4.at [.b true, .l ws])) .no
    | _ => .no
  | _ => .no
noncomputable def stL (N : NSt) : Loops := sums (fun n => match n with | 5 => some (lsumF 1 saT saLp (saTree N.M)) | 23 => some (lsumF 1 sbT4 sbLp4 (ssTree N)) | _ => none)
theorem stL_ok : loopsOk Try.prog (stL nSt) := by
  intro n g hg
  simp only [stL, sums] at hg
  split at hg
  · cases hg
    refine lsumF_ok (by kernel_rfl) (fun rd ps e1 st1 hq => ?_)
    unfold saTree at hq
    split at hq
    · rename_i r l k n i ws ps
      split at hq
      · rename_i s xs ac hs
        rw [crsP_ok hs]
        simp only [Fin.pick] at hq
        cases hc : decide (l = 0 ∧ n = Int.ofNat k ∧ i = 0 ∧ xs.length = 0 ∧ ac.length = 0 ∧ k ≤ 40 ∧ k ≤ ws.length / 3) && (nSt.M.OK ws && (isC0 s && nSt.M.D4 s.d)) with
        | false => rw [hc] at hq; cases hq
        | true =>
          rw [hc, cond_true] at hq
          simp only [Bool.and_eq_true, decide_eq_true_eq] at hc
          obtain ⟨⟨rfl, rfl, rfl, h1, h2, h3, h4⟩, h5, h6, h7⟩ := hc
          obtain rfl := List.eq_nil_of_length_eq_zero h1
          obtain rfl := List.eq_nil_of_length_eq_zero h2
          cases hq
          have hs0 := isC0_ok h6
          exact sa_loop rd r ws k h3 h4 h5 (0, ⟨s, [], []⟩) ⟨Nat.zero_le _, by rw [hs0]; exact rc0 (of_decide_eq_true h7)⟩
      · cases hq
    · cases hq
  · cases hg
    refine lsumF_ok (by kernel_rfl) (fun rd ps e1 st1 hq => ?_)
    unfold ssTree at hq
    split at hq
    · rename_i r i ws ps
      split at hq
      · rename_i s xs ac hs
        rw [crsP_ok hs]
        simp only [Fin.pick] at hq
        cases hc : decide (i = 0) && nSt.OC s xs ac with
        | false => rw [hc] at hq; cases hq
        | true =>
          rw [hc, cond_true] at hq
          simp only [Bool.and_eq_true, decide_eq_true_eq] at hc
          obtain ⟨rfl, h2⟩ := hc
          cases hq
          exact ss_loop rd r ws (0, ⟨s, xs, ac⟩) ⟨by omega, (okCb_iff.1 h2).sb⟩
      · cases hq
    · cases hq
  · cases hg
end Go.Proofs.Ytojlmpcbplepcaa
