/- Chapter 10: IrregularStays: what a round finds, for a right course; the first loop. -/
import Derived.Test.YtojlmpcbplepcaaSaO
import Derived.Test.YtojlmpcbplepcaaSa0
import Derived.Test.YtojlmpcbplepcaaSa1
import Derived.Test.YtojlmpcbplepcaaSa2
import Derived.Test.YtojlmpcbplepcaaSa3
namespace Go.Proofs.Ytojlmpcbplepcaa
open Go Go.Eng
theorem c38_cons : calls38 = 0 :: calls38.tail := rfl
theorem c38_tail : ∀ x ∈ calls38.tail, x ≠ 0 := by decide +kernel
theorem c38_mem {x : Int} (h : 0 ≤ x ∧ x ≤ 37) : x ∈ calls38 := by
  unfold calls38
  rw [List.mem_map]
  exact ⟨x.toNat, by rw [List.mem_range]; omega, by omega⟩
theorem wr_u8_nonneg (x : Int) : 0 ≤ wr .u8 x := by
  have : wr .u8 x = x % 256 := rfl
  rw [this]; omega
theorem RC.lgs {s : CD} {xs ac : List Int} (h : RC s xs ac) (hl : xs.length ≤ 1000) (ho : ovI s.d xs = false) :
    lgsI s xs ≠ [] ∧ (s.p.at (tN s xs) ≠ 0 → lgsI s xs = [0]) ∧ (s.a.at (tN s xs) = 0 → ∃ r, lgsI s xs = 0 :: r) := by
  have g := h.gi (by omega)
  have h0 := g.pass ho
  have hd0 : lgI s xs 0 = true → ∃ r, lgsI s xs = 0 :: r := fun q => ⟨_, by unfold lgsI; rw [c38_cons, List.filter_cons_of_pos q]⟩
  have p0 : s.p.at (tN s xs) ≠ 0 → ∀ x, lgI s xs x = (frI s.d xs x && decide (x = 0)) := fun hp x => by unfold lgI demI; rw [decide_eq_false hp]; rfl
  have one : s.p.at (tN s xs) ≠ 0 → lgsI s xs = [0] := fun hp => by
    unfold lgsI
    rw [c38_cons, List.filter_cons_of_pos (by rw [p0 hp, h0]; rfl)]
    congr 1
    rw [List.filter_eq_nil_iff]
    intro x hx
    rw [p0 hp, decide_eq_false (c38_tail x hx), Bool.and_false]; simp
  have third : s.p.at (tN s xs) = 0 → (decide (0 < s.a.at (tN s xs)) && (psI xs && frI s.d xs (wr .u8 (s.a.at (tN s xs) - 1)))) = false → lgI s xs 0 = true := fun hp hq => by
    unfold lgI demI
    rw [decide_eq_true hp, hq, h0]
    cases decide (0 < s.h) <;> rfl
  refine ⟨?_, one, ?_⟩
  · by_cases hp : s.p.at (tN s xs) = 0
    · cases hq : (decide (0 < s.a.at (tN s xs)) && (psI xs && frI s.d xs (wr .u8 (s.a.at (tN s xs) - 1)))) with
      | false => obtain ⟨r, e⟩ := hd0 (third hp hq); rw [e]; simp
      | true =>
        have hq2 := hq
        simp only [Bool.and_eq_true] at hq2
        have hm : wr .u8 (s.a.at (tN s xs) - 1) ∈ lgsI s xs := by
          unfold lgsI
          rw [List.mem_filter]
          refine ⟨c38_mem ⟨wr_u8_nonneg _, (g.free hq2.2.2).2⟩, ?_⟩
          unfold lgI demI
          rw [decide_eq_true hp, hq, hq2.2.2, decide_eq_true rfl]; rfl
        intro e; rw [e] at hm; cases hm
    · rw [one hp]; simp
  · intro ha
    by_cases hp : s.p.at (tN s xs) = 0
    · exact hd0 (third hp (by rw [decide_eq_false (show ¬ 0 < s.a.at (tN s xs) by omega)]; rfl))
    · rw [one hp]; exact ⟨[], rfl⟩
theorem saY_ok {r : Bool} {k : Nat} {n i : Int} {ws : List Int} {s : CD} {xs ac : List Int} {R : AR} (h : StepOk s xs ac R) (hl : xs.length ≤ 396) (ha : ac.length ≤ 1000) :
    saY nL r k n i ws s xs ac R.s R.ys R.bc (Int.ofNat xs.length) (Int.ofNat R.ys.length) ((Int.ofNat R.ys.length).toNat - (Int.ofNat xs.length).toNat) = some (.normal, saIn r k n (wr .i64 (i + 1)) ws R.s R.ys R.bc, []) := by
  have hlen := h.len
  have z1 : Int.ofNat xs.length = (xs.length : Int) := rfl
  have z2 : Int.ofNat R.ys.length = (R.ys.length : Int) := rfl
  have z3 : Int.ofNat R.bc.length = (R.bc.length : Int) := rfl
  have z4 : Int.ofNat ac.length = (ac.length : Int) := rfl
  have z5 : Int.ofNat (R.ys.length - xs.length) = ((R.ys.length - xs.length : Nat) : Int) := rfl
  have hbc : ac.length ≤ R.bc.length ∧ R.bc.length ≤ ac.length + 1 := by
    rcases h.bc with e | e <;> rw [e]
    · omega
    · simp
  have hpre : R.ys.take xs.length = xs := by
    rcases h.ys with e | ⟨r, x, _, e⟩ <;> rw [e]
    · simp
    · simp
  have hany : 1 < R.ys.length - xs.length → anyN ((R.ys.drop xs.length).take (R.ys.length - xs.length - 1)) = false := fun hk => by
    apply anyN_false
    rcases h.ys with e | ⟨q, x, _, e⟩
    · rw [e] at hk; omega
    · rw [e]
      intro y hy
      have e2 : (xs ++ (List.replicate q (0 : Int) ++ [x])).length - xs.length - 1 = q := by simp
      rw [e2, List.drop_left, List.take_left' (by simp)] at hy
      exact (List.mem_replicate.1 hy).2
  unfold saY
  rw [z1, z2, z3, z4, Int.toNat_natCast, Int.toNat_natCast, z5, wr64 (n := (xs.length : Int) + 4) (by omega) (by omega), wr64 (n := (ac.length : Int) + 1) (by omega) (by omega)]
  rw [decide_eq_false (show ¬ (R.ys.length : Int) < (xs.length : Int) by omega), decide_eq_false (show ¬ (xs.length : Int) + 4 < (R.ys.length : Int) by omega), decide_eq_true (show (0 : Int) ≤ 0 ∧ (0 : Int) ≤ (xs.length : Int) ∧ (xs.length : Int) ≤ (R.ys.length : Int) by omega), decide_eq_true (show 0 + (xs.length - 0) ≤ R.ys.length by omega)]
  rw [show xs.length - 0 = xs.length by omega, List.drop_zero, hpre, show nL.KL = klB from rfl, show nL.EQ xs xs = true from eqI_iff.2 rfl, show klB xs = true from decide_eq_true (by omega), decide_eq_true h.d,
    decide_eq_false (show ¬ (R.bc.length : Int) < (ac.length : Int) by omega), decide_eq_false (show ¬ (ac.length : Int) + 1 < (R.bc.length : Int) by omega), decide_eq_true (show (0 : Int) ≤ (xs.length : Int) ∧ (xs.length : Int) ≤ (R.ys.length : Int) ∧ (R.ys.length : Int) ≤ (R.ys.length : Int) by omega)]
  by_cases hk : 1 < R.ys.length - xs.length
  · have e1 : wr .i64 (((R.ys.length - xs.length : Nat) : Int) - 1) = ((R.ys.length - xs.length - 1 : Nat) : Int) := by rw [wr64 (by omega) (by omega)]; omega
    rw [decide_eq_true (show (1 : Int) < ((R.ys.length - xs.length : Nat) : Int) by omega), decide_eq_true (show xs.length + (R.ys.length - xs.length) ≤ R.ys.length by omega), e1, Int.toNat_natCast, decide_eq_true (show (0 : Int) ≤ 0 ∧ (0 : Int) ≤ ((R.ys.length - xs.length - 1 : Nat) : Int) ∧ ((R.ys.length - xs.length - 1 : Nat) : Int) ≤ ((R.ys.length - xs.length : Nat) : Int) by omega),
      decide_eq_true (show xs.length + (R.ys.length - xs.length - 1) ≤ R.ys.length by omega), show nL.ANY = anyN from rfl, hany hk, show klB ((R.ys.drop xs.length).take (R.ys.length - xs.length - 1)) = true from decide_eq_true (by rw [List.length_take]; omega)]
    rfl
  · rw [decide_eq_false (show ¬ (1 : Int) < ((R.ys.length - xs.length : Nat) : Int) by omega)]; rfl
theorem saE_ok {b : Bool} {t e : Int} {s : CD} {xs ac : List Int} {X : ANx} (h1 : okL xs = true) (h2 : ovrB s xs ac = b) (h3 : ovrE s xs ac = 0) (h4 : rgtI s xs ac = true) (h5 : tuV s xs ac = t) (h6 : opI s xs ac = e) (h7 : dkB s = true) : saE (nQ b t e) s xs ac X = X := by
  have a1 : (nQ b t e).A16 s xs ac = true := by show (okL xs && (decide (ovrB s xs ac = b) && decide (ovrE s xs ac = 0))) = true; rw [h1, decide_eq_true h2, decide_eq_true h3]; rfl
  have a2 : (nQ b t e).A17 s xs ac = true := by show (okL xs && rgtI s xs ac) = true; rw [h1, h4]; rfl
  have a3 : (nQ b t e).A14 s xs ac = true := by show (okL xs && (decide (tuV s xs ac = t) && decide (opI s xs ac = e))) = true; rw [h1, decide_eq_true h5, decide_eq_true h6]; rfl
  have a4 : (nQ b t e).A18 s xs ac = true := by show ((okL xs && dkB s) && decide (opI s xs ac = e)) = true; rw [h1, h7, decide_eq_true h6]; rfl
  unfold saE
  rw [a1, a2, a3, a4]; rfl
theorem saP_ok {ws : List Int} {s : CD} {xs ac : List Int} {p : Int} {X : ANx} (h : p ≠ 0 → lgV s xs ac = [0]) : saP nL ws s xs ac p X = X := by
  unfold saP
  by_cases hp : p = 0
  · rw [decide_eq_true hp]; rfl
  · rw [decide_eq_false hp, show nL.F.LV s xs ac = lgV s xs ac from rfl, h hp]; rfl
theorem CS.Ok.round {c : CS} {m : Nat} (h : c.Ok m) (hm : m ≤ 300) {ws : List Int} (hw : okW ws = true) {k i : Nat} (hi : i < k) (hk : k ≤ 40) (hkw : k ≤ ws.length / 3) (rd : Option Nat) (r : Bool) :
    ∃ C, OracleOk Try.prog C ∧ roundT Try.prog C noLoops 100 1 rd 4 saLp saT saX (saIn r k (k : Int) (i : Int) ws c.s c.xs c.ac) = some (.normal, saIn r k (k : Int) ((i + 1 : Nat) : Int) ws (c.act ws i).s (c.act ws i).xs (c.act ws i).ac, []) := by
  have hin : i * 3 + 3 ≤ ws.length := by omega
  obtain ⟨q1, q2⟩ := h.act (by omega) hw hin
  have hle := h.le
  obtain ⟨d0, d4⟩ := h.rc.d
  have hok : okL c.xs = true := h.rc.ok (by omega)
  have hrg : rgtI c.s c.xs c.ac = true := h.rc.right h.ho (by omega)
  have hoe : ovrE c.s c.xs c.ac = 0 := by unfold ovrE; rw [hrg]; rfl
  have hob : ovrB c.s c.xs c.ac = ovI c.s.d c.xs := by unfold ovrB; rw [hrg]; rfl
  have hop := h.rc.op h.ho (by omega)
  have hx2 : saX2 nL r k (k : Int) (i : Int) ws c.s c.xs c.ac (aX ws ((i : Int).toNat * 3)) (aB ws ((i : Int).toNat * 3)) (aW ws ((i : Int).toNat * 3)) = some (.normal, saIn r k (k : Int) ((i + 1 : Nat) : Int) ws (c.act ws i).s (c.act ws i).xs (c.act ws i).ac, []) := by
    rw [Int.toNat_natCast]
    unfold saX2
    rw [show nL.S.SO c.s c.xs c.ac = true from okRCb_iff.2 (h.ok (by omega)), show nL.S.BY = byB from rfl, show byB (aX ws (i * 3)) = true from okW_at hw (by omega), show byB (aB ws (i * 3)) = true from okW_at hw (by omega)]
    have := saY_ok (r := r) (k := k) (n := (k : Int)) (i := (i : Int)) (ws := ws) q2 (by omega) (by have := h.rc.gc.len; omega)
    rw [wr64 (n := (i : Int) + 1) (by omega) (by omega)] at this
    exact this
  have fr : ∀ X : ANx, (bif decide ((i : Int) < (k : Int)) then bif decide (0 ≤ (i : Int) ∧ (i : Int) < Int.ofNat k ∧ 0 + k ≤ ws.length / 3) then bif decide ((i : Int).toNat * 3 + 3 ≤ ws.length) then X else none else none else some (.exit 0, saOut r ws c.s c.xs c.ac, [])) = X := fun X => by
    have z1 : Int.ofNat k = (k : Int) := rfl
    rw [z1, decide_eq_true (show (i : Int) < (k : Int) by omega), decide_eq_true (show 0 ≤ (i : Int) ∧ (i : Int) < (k : Int) ∧ 0 + k ≤ ws.length / 3 by omega), Int.toNat_natCast, decide_eq_true hin]; rfl
  cases hv : ovI c.s.d c.xs with
  | true =>
    rw [hv] at hop hob
    have hop : opI c.s c.xs c.ac = 101 := hop
    have hlv : lgV c.s c.xs c.ac = [] := by unfold lgV; rw [hop]; rfl
    refine ⟨_, orcQ_ok true 0 101, ?_⟩
    rw [sa_roundO, fr, saE_ok hok hob hoe hrg (by unfold tuV; rw [hop]; rfl) hop h.rc.dk, show nL.F.LV c.s c.xs c.ac = lgV c.s c.xs c.ac from rfl, hlv, hx2]; rfl
  | false =>
    rw [hv] at hop hob
    have hop : opI c.s c.xs c.ac = 0 := hop
    obtain ⟨l1, l2, _⟩ := h.rc.lgs (by omega) hv
    have hlv : lgV c.s c.xs c.ac = lgsI c.s c.xs := by unfold lgV; rw [hop]; rfl
    have hn : decide (Int.ofNat (nL.F.LV c.s c.xs c.ac).length = 0) = false := by
      rw [show nL.F.LV c.s c.xs c.ac = lgV c.s c.xs c.ac from rfl, hlv]
      refine decide_eq_false fun e => l1 (List.eq_nil_of_length_eq_zero ?_)
      have e : (((lgsI c.s c.xs).length : Nat) : Int) = 0 := e
      omega
    have htu : tuV c.s c.xs c.ac = (tN c.s c.xs : Int) := by
      unfold tuV
      rw [hop]
      exact (tN_lt c.s c.xs hok (by omega)).1
    have ht4 := (h.rc.tnn (by omega)).2
    have ht : tN c.s c.xs = 0 ∨ tN c.s c.xs = 1 ∨ tN c.s c.xs = 2 ∨ tN c.s c.xs = 3 := by omega
    rcases ht with ht | ht | ht | ht
    all_goals rw [ht] at l2 htu
    · exact ⟨_, orcQ_ok false 0 0, by rw [sa_round0, fr, saE_ok hok hob hoe hrg (show tuV c.s c.xs c.ac = 0 from htu) hop h.rc.dk, hn, saP_ok (fun hp => by rw [hlv]; exact l2 hp), hx2]; rfl⟩
    · exact ⟨_, orcQ_ok false 1 0, by rw [sa_round1, fr, saE_ok hok hob hoe hrg (show tuV c.s c.xs c.ac = 1 from htu) hop h.rc.dk, hn, saP_ok (fun hp => by rw [hlv]; exact l2 hp), hx2]; rfl⟩
    · exact ⟨_, orcQ_ok false 2 0, by rw [sa_round2, fr, saE_ok hok hob hoe hrg (show tuV c.s c.xs c.ac = 2 from htu) hop h.rc.dk, hn, saP_ok (fun hp => by rw [hlv]; exact l2 hp), hx2]; rfl⟩
    · exact ⟨_, orcQ_ok false 3 0, by rw [sa_round3, fr, saE_ok hok hob hoe hrg (show tuV c.s c.xs c.ac = 3 from htu) hop h.rc.dk, hn, saP_ok (fun hp => by rw [hlv]; exact l2 hp), hx2]; rfl⟩
end Go.Proofs.Ytojlmpcbplepcaa
