/- Chapter 6: the law DealSeats answers true. -/
import Derived.Test.YtpalajfcffdhoaaSeT
namespace Go.Proofs.Ytpalajfcffdhoaa
open Go Go.Eng Go.Deal
theorem qw_n {x : Nat} (h : x < 340282366920938463463374607431768211456) : d7.n.z (DQ.w d7 (x : Int)).a (DQ.w d7 (x : Int)).b (DQ.w d7 (x : Int)).c (DQ.w d7 (x : Int)).d = (x : Int) := zq h
theorem qi_n (x : Int) : d7.n.inn (DQ.w d7 x).a (DQ.w d7 x).b (DQ.w d7 x).c (DQ.w d7 x).d = true := ini x
theorem seR_put {ls : List Int} {c S : Nat} {s : Int} {P W : DQ} {a b e d : Nat} (hp : PartD a b e d) (ho : owB a b e d c = true) (hi : owI a b e d c = s) (hs : 0 ≤ s ∧ s ≤ 3) (hS : S + wy (lks a b e d) < 340282366920938463463374607431768211456) :
    seR d7 ls c s P W (DQ.w d7 (S : Int)) (DQ.n a b e d) = some (.normal, .i c :: .i (s + 1) :: sePs ls P W (DQ.w d7 ((S + wy (lks a b e d) : Nat) : Int)), []) := by
  unfold seR seRest
  rw [qw_n (x := S) (by omega), qi_n, d7n, in4_n hp, le_n hp, wy_n hp, decide_eq_false (show ¬ (c : Int) < 0 by omega), cond_false, cond_true, decide_eq_false (show ¬ (0 : Int) = 60 by decide), cond_false, decide_eq_true (show 0 ≤ (c : Int) by omega), Bool.and_true, cond_true,
    decide_eq_true (show (0 : Int) = 0 from rfl), Bool.not_true, cond_false]
  have h1 : d7.ob (DQ.n a b e d).a (DQ.n a b e d).b (DQ.n a b e d).c (DQ.n a b e d).d (c : Int) = true := ho
  have h2 : d7.oi (DQ.n a b e d).a (DQ.n a b e d).b (DQ.n a b e d).c (DQ.n a b e d).d (c : Int) = s := hi
  rw [h1, h2, Bool.not_true, cond_false, wr64 (by omega) (by omega), decide_eq_true rfl, Bool.not_true, cond_false, ii, Bool.and_self, cond_true, qq (by omega), addq hS]
theorem seR_full {ls : List Int} {c : Nat} {s : Int} {P W S : DQ} {a b e d : Nat} (hU : d7.U (DQ.n a b e d) = true) (hp : ¬ PartD a b e d) : seR d7 ls c s P W S (DQ.n a b e d) = some (.normal, .i c :: .i (s + 1) :: sePs ls P W S, []) := by
  have hb : parB (a : Int) (b : Int) (e : Int) (d : Int) = false := Bool.eq_false_iff.2 (fun h => hp (parB_iff.1 h))
  have hl : d7.Le (DQ.n a b e d) = 60 := by
    show leI (a : Int) (b : Int) (e : Int) (d : Int) = 60
    unfold leI; rw [hb]; rfl
  have hb' : d7.Pb (DQ.n a b e d) = false := hb
  unfold seR
  rw [hU, hl, hb', decide_eq_false (show ¬ (c : Int) < 0 by omega), cond_false, cond_true, decide_eq_true (show (60 : Int) = 60 from rfl), cond_true, cond_true, Bool.not_false, cond_true]
theorem in4_lt {a b c d : Nat} (ha : a < 2 ^ 52) (hb : b < 2 ^ 52) (hc : c < 2 ^ 52) (hd : d < 2 ^ 52) : d7.U (DQ.n a b c d) = true := by
  rw [U_is]
  have e : ∀ x : Nat, x < 2 ^ 52 → in64 (x : Int) = true := fun x hx => in64_iff.2 ⟨by omega, by have := lt64 hx; omega⟩
  show in4 (a : Int) (b : Int) (c : Int) (d : Int) = true
  unfold in4
  rw [e a ha, e b hb, e c hc, e d hd]
  rfl
def con0 (a b c d i : Nat) : Nat := if cnt a 52 < 13 then wy (lks (a ||| 2 ^ i) b c d) else 0
def con1 (a b c d i : Nat) : Nat := if cnt b 52 < 13 then wy (lks a (b ||| 2 ^ i) c d) else 0
def con2 (a b c d i : Nat) : Nat := if cnt c 52 < 13 then wy (lks a b (c ||| 2 ^ i) d) else 0
def con3 (a b c d i : Nat) : Nat := if cnt d 52 < 13 then wy (lks a b c (d ||| 2 ^ i)) else 0
def seS (a b c d i : Nat) : Nat → Nat
  | 0 => 0
  | 1 => con0 a b c d i
  | 2 => con0 a b c d i + con1 a b c d i
  | 3 => con0 a b c d i + con1 a b c d i + con2 a b c d i
  | _ => con0 a b c d i + con1 a b c d i + con2 a b c d i + con3 a b c d i
theorem or_c {a c : Nat} (ha : a < 2 ^ 52) (hc : c < 52) : orI (a : Int) (shlI (c : Int)) = ((a ||| 2 ^ c : Nat) : Int) := by
  rw [shlI_n (by omega)]
  exact orI_n (lt64 ha) (lt64 (Nat.pow_lt_pow_right (by decide) hc))
theorem tb_put {a c : Nat} : (a ||| 2 ^ c).testBit c = true := by rw [Nat.testBit_or, Nat.testBit_two_pow]; simp
theorem ow_n {a b c d k : Nat} (hk : k < 52) : owI (a : Int) (b : Int) (c : Int) (d : Int) (k : Int) = (bif a.testBit k then 0 else bif b.testBit k then 1 else bif c.testBit k then 2 else bif d.testBit k then 3 else 0) ∧
    owB (a : Int) (b : Int) (c : Int) (d : Int) (k : Int) = (a.testBit k || (b.testBit k || (c.testBit k || d.testBit k))) := by
  unfold owI owB
  rw [decide_eq_true (show (k : Int) < 52 by omega), Int.toNat_natCast, Int.toNat_natCast, Int.toNat_natCast, Int.toNat_natCast, Int.toNat_natCast]
  exact ⟨rfl, rfl⟩
theorem se_loop (nn : Bool) (rd : Option Nat) (ls : List Int) (W : DQ) {a b e d c : Nat} (hp : PartD a b e d) (hl : (lf a b e d).testBit c = true) : ∀ k : Nat, k ≤ 4 →
    SimC Try.prog 1 rd (.loop seLp) ((seT nn).at (.i (c : Int) :: .i (k : Int) :: sePs ls (DQ.n a b e d) W (DQ.w d7 (seS a b e d c k : Nat)))) (.exit 0) ((seX nn).at (.i (c : Int) :: sePs ls (DQ.n a b e d) W (DQ.w d7 (seS a b e d c 4 : Nat)))) := by
  refine loop_of_rounds (C := orc7 d7) (L := noLoops) (N := 100) (me := 4) (T := seT nn) (T' := seX nn) orc7_ok mixed noLoops_ok (by cases nn <;> kernel_rfl) (by cases nn <;> kernel_rfl) (X := Nat)
    (fun k => .i (c : Int) :: .i (k : Int) :: sePs ls (DQ.n a b e d) W (DQ.w d7 (seS a b e d c k : Nat))) (fun k => k ≤ 4) (fun k => 4 - k) (fun _ => (.exit 0, .i (c : Int) :: sePs ls (DQ.n a b e d) W (DQ.w d7 (seS a b e d c 4 : Nat)))) ?_
  intro k hk
  obtain ⟨c52, ba, bb, be, bd⟩ := lf_bit hl
  have tot := hp.seats hl
  have wl := wy_lk a b e d
  have hc : k = 0 ∨ k = 1 ∨ k = 2 ∨ k = 3 ∨ k = 4 := by omega
  rcases hc with rfl | rfl | rfl | rfl | rfl
  · have h := se_r0 d7 nn rd ls (c : Int) (DQ.n a b e d) W (DQ.w d7 (seS a b e d c 0 : Nat))
    have hq : (⟨orI (DQ.n a b e d).a (shlI c), (DQ.n a b e d).b, (DQ.n a b e d).c, (DQ.n a b e d).d⟩ : DQ) = DQ.n (a ||| 2 ^ c) b e d := congrArg (fun z => (⟨z, b, e, d⟩ : DQ)) (or_c hp.la c52)
    rw [hq] at h
    by_cases hr : cnt a 52 < 13
    · have p := hp.put0 hl hr
      have e1 : seS a b e d c 1 = seS a b e d c 0 + wy (lks (a ||| 2 ^ c) b e d) := by show con0 a b e d c = 0 + _; unfold con0; rw [if_pos hr]; omega
      obtain ⟨o1, o2⟩ := ow_n (a := a ||| 2 ^ c) (b := b) (c := e) (d := d) c52
      rw [tb_put] at o1 o2
      rw [seR_put (s := 0) p o2 o1 (by decide) (by show 0 + _ < _; have := wy_lk (a ||| 2 ^ c) b e d; omega), ← e1] at h
      exact ⟨_, _, _, h, codesNil, .inl ⟨rfl, 1, rfl, by omega, by omega, rfl⟩⟩
    · have e1 : seS a b e d c 1 = seS a b e d c 0 := by show con0 a b e d c = 0; unfold con0; rw [if_neg hr]
      rw [seR_full (in4_lt (put_lt c52 hp.la) hp.lb hp.lc hp.ld) (not_full ba c52 (by omega))] at h
      exact ⟨_, _, _, h, codesNil, .inl ⟨rfl, 1, by rw [e1]; rfl, by omega, by omega, rfl⟩⟩
  · have h := se_r1 d7 nn rd ls (c : Int) (DQ.n a b e d) W (DQ.w d7 (seS a b e d c 1 : Nat))
    have hq : (⟨(DQ.n a b e d).a, orI (DQ.n a b e d).b (shlI c), (DQ.n a b e d).c, (DQ.n a b e d).d⟩ : DQ) = DQ.n a (b ||| 2 ^ c) e d := congrArg (fun z => (⟨a, z, e, d⟩ : DQ)) (or_c hp.lb c52)
    rw [hq] at h
    by_cases hr : cnt b 52 < 13
    · have p := hp.put1 hl hr
      have e1 : seS a b e d c 2 = seS a b e d c 1 + wy (lks a (b ||| 2 ^ c) e d) := by show con0 a b e d c + con1 a b e d c = con0 a b e d c + _; unfold con1; rw [if_pos hr]
      have hS : seS a b e d c 1 ≤ wy (lks a b e d) := by rw [← tot]; show con0 a b e d c ≤ _; unfold con0; omega
      obtain ⟨o1, o2⟩ := ow_n (a := a) (b := b ||| 2 ^ c) (c := e) (d := d) c52
      rw [tb_put, ba] at o1 o2
      rw [seR_put (s := 1) p o2 o1 (by decide) (by have := wy_lk a (b ||| 2 ^ c) e d; omega), ← e1] at h
      exact ⟨_, _, _, h, codesNil, .inl ⟨rfl, 2, rfl, by omega, by omega, rfl⟩⟩
    · have e1 : seS a b e d c 2 = seS a b e d c 1 := by show con0 a b e d c + con1 a b e d c = con0 a b e d c; unfold con1; rw [if_neg hr, Nat.add_zero]
      have nf : ¬ PartD a (b ||| 2 ^ c) e d := fun p => by have := cnt_put c52 bb; have := p.cb; omega
      rw [seR_full (in4_lt hp.la (put_lt c52 hp.lb) hp.lc hp.ld) nf] at h
      exact ⟨_, _, _, h, codesNil, .inl ⟨rfl, 2, by rw [e1]; rfl, by omega, by omega, rfl⟩⟩
  · have h := se_r2 d7 nn rd ls (c : Int) (DQ.n a b e d) W (DQ.w d7 (seS a b e d c 2 : Nat))
    have hq : (⟨(DQ.n a b e d).a, (DQ.n a b e d).b, orI (DQ.n a b e d).c (shlI c), (DQ.n a b e d).d⟩ : DQ) = DQ.n a b (e ||| 2 ^ c) d := congrArg (fun z => (⟨a, b, z, d⟩ : DQ)) (or_c hp.lc c52)
    rw [hq] at h
    by_cases hr : cnt e 52 < 13
    · have p := hp.put2 hl hr
      have e1 : seS a b e d c 3 = seS a b e d c 2 + wy (lks a b (e ||| 2 ^ c) d) := by show con0 a b e d c + con1 a b e d c + con2 a b e d c = con0 a b e d c + con1 a b e d c + _; unfold con2; rw [if_pos hr]
      have hS : seS a b e d c 2 ≤ wy (lks a b e d) := by rw [← tot]; show con0 a b e d c + con1 a b e d c ≤ _; unfold con0 con1; omega
      obtain ⟨o1, o2⟩ := ow_n (a := a) (b := b) (c := e ||| 2 ^ c) (d := d) c52
      rw [tb_put, ba, bb] at o1 o2
      rw [seR_put (s := 2) p o2 o1 (by decide) (by have := wy_lk a b (e ||| 2 ^ c) d; omega), ← e1] at h
      exact ⟨_, _, _, h, codesNil, .inl ⟨rfl, 3, rfl, by omega, by omega, rfl⟩⟩
    · have e1 : seS a b e d c 3 = seS a b e d c 2 := by show con0 a b e d c + con1 a b e d c + con2 a b e d c = con0 a b e d c + con1 a b e d c; unfold con2; rw [if_neg hr, Nat.add_zero]
      have nf : ¬ PartD a b (e ||| 2 ^ c) d := fun p => by have := cnt_put c52 be; have := p.cc; omega
      rw [seR_full (in4_lt hp.la hp.lb (put_lt c52 hp.lc) hp.ld) nf] at h
      exact ⟨_, _, _, h, codesNil, .inl ⟨rfl, 3, by rw [e1]; rfl, by omega, by omega, rfl⟩⟩
  · have h := se_r3 d7 nn rd ls (c : Int) (DQ.n a b e d) W (DQ.w d7 (seS a b e d c 3 : Nat))
    have hq : (⟨(DQ.n a b e d).a, (DQ.n a b e d).b, (DQ.n a b e d).c, orI (DQ.n a b e d).d (shlI c)⟩ : DQ) = DQ.n a b e (d ||| 2 ^ c) := congrArg (fun z => (⟨a, b, e, z⟩ : DQ)) (or_c hp.ld c52)
    rw [hq] at h
    by_cases hr : cnt d 52 < 13
    · have p := hp.put3 hl hr
      have e1 : seS a b e d c 4 = seS a b e d c 3 + wy (lks a b e (d ||| 2 ^ c)) := by show con0 a b e d c + con1 a b e d c + con2 a b e d c + con3 a b e d c = con0 a b e d c + con1 a b e d c + con2 a b e d c + _; unfold con3; rw [if_pos hr]
      have hS : seS a b e d c 3 ≤ wy (lks a b e d) := by rw [← tot]; show con0 a b e d c + con1 a b e d c + con2 a b e d c ≤ _; unfold con0 con1 con2; omega
      obtain ⟨o1, o2⟩ := ow_n (a := a) (b := b) (c := e) (d := d ||| 2 ^ c) c52
      rw [tb_put, ba, bb, be] at o1 o2
      rw [seR_put (s := 3) p o2 o1 (by decide) (by have := wy_lk a b e (d ||| 2 ^ c); omega), ← e1] at h
      exact ⟨_, _, _, h, codesNil, .inl ⟨rfl, 4, rfl, by omega, by omega, rfl⟩⟩
    · have e1 : seS a b e d c 4 = seS a b e d c 3 := by show con0 a b e d c + con1 a b e d c + con2 a b e d c + con3 a b e d c = con0 a b e d c + con1 a b e d c + con2 a b e d c; unfold con3; rw [if_neg hr, Nat.add_zero]
      have nf : ¬ PartD a b e (d ||| 2 ^ c) := fun p => by have := cnt_put c52 bd; have := p.cd; omega
      rw [seR_full (in4_lt hp.la hp.lb hp.lc (put_lt c52 hp.ld)) nf] at h
      exact ⟨_, _, _, h, codesNil, .inl ⟨rfl, 4, by rw [e1]; rfl, by omega, by omega, rfl⟩⟩
  · have h := se_r4 d7 nn rd ls (c : Int) (DQ.n a b e d) W (DQ.w d7 (seS a b e d c 4 : Nat))
    exact ⟨_, _, _, h, codesNil, .inr ⟨(fun h => by cases h), rfl⟩⟩
end Go.Proofs.Ytpalajfcffdhoaa
