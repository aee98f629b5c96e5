/- Texts merged: Xv0, Xv, Xw. -/
import Derived.Test.YtojlmpcbplepcaaGreatXt
/- Chapter 10: the reference's Accept: what it is walked with. -/
namespace Go.Proofs.YtojlmpcbplepcaaGreat
open Go Go.Eng
def metZ (s : CD) (i : Int) : CD := metI s i.toNat
def g102z (N : NW) (MZ : CD → Int → CD) : CH
  | [.agg l, .int .u8 x], [.rs _ 1 (.ints .u8 xs), .rs _ 1 (.ints .i64 _)] => match ofCrs l with
    | some (s, .gs 0, .gs 1) => some (N.Z.H.R.OK xs && N.Z.H.DK s, .agg ((MZ s (N.Z.H.MK s.d (Int.ofNat xs.length))).vs (.gs 2) (.gs 1)), crsNk (xs ++ [x]))
    | _ => none
  | _, _ => none
theorem g102z_ok : cOk 77 (g102z nW metZ) := by
  intro args hp c v nb hq hc
  unfold g102z at hq
  split at hq
  · split at hq
    · rename_i s hs
      cases hq
      simp only [Bool.and_eq_true] at hc
      rw [ofCrs_ok hs]
      obtain ⟨h1, h2⟩ := tN_lt s _ hc.1 (of_decide_eq_true hc.2)
      have this := fun n1 n2 ac x => f102 (s := s) (ac := ac) (x := x) n1 n2 h2 (okL_len hc.1) h1
      exact ⟨.of Tryz.func77 (by kernel_rfl), this _ _ _ _⟩
    · cases hq
  · cases hq
def d76 : FuncId → Bool := domG fun f => Nat.beq f 19 || (Nat.beq f 56 || Nat.beq f 77)
def h76 (N : NW) (KV KE : KF) (MZ : CD → Int → CD) (k e : Int) : HTab := hTG N.Z.H.R (addH 19 (g82k N KV KE k e) (addH 56 (g99 N.Z.H) (addH 77 (g102z N MZ) emptyH)))
theorem h76_ok (k e : Int) : HTabOk Tryz.prog (h76 nW kdI keI metZ k e) := hTG_ok (addH_ok (g82k_ok k e) (addH_ok g99_ok (addH_ok g102z_ok emptyH_ok)))
end Go.Proofs.YtojlmpcbplepcaaGreat

/- Chapter 10: the reference's Accept: what it computes. -/
namespace Go.Proofs.YtojlmpcbplepcaaGreat
open Go Go.Eng
noncomputable def fin76 (N : NW) (MZ : CD → Int → CD) (xs ac bc : List Int) (x : Int) (s : CD) (ys : List Int) : AN := bif decide (400 ≤ Int.ofNat ys.length) then badA 5 xs ac else bif N.Z.H.R.OK ys && N.Z.H.DK s then some (ansP ((MZ s (N.Z.H.MK s.d (Int.ofNat ys.length))).setH 0) 0 xs ac (ys ++ [x]) bc, []) else none
noncomputable def fre76 (N : NW) (MZ : CD → Int → CD) (xs ac bc : List Int) (x : Int) (s : CD) (ys : List Int) : AN := bif N.Z.H.R.OK ys then bif !N.Z.H.R.FR ys x then badA 104 xs ac else fin76 N MZ xs ac bc x s ys else none
noncomputable def lop76 (N : NW) (MZ : CD → Int → CD) (xs ac : List Int) (y : Int) (F : CD → List Int → AN) : Nat → CD → List Int → AN
  | 0, _, _ => none
  | n + 1, s, ys => bif !decide (N.Z.H.MK s.d (Int.ofNat ys.length) = y) then (bif N.Z.H.R.OK ys && N.Z.H.DK s then bif N.Z.H.R.OK (ys ++ [0]) then bif N.Z.H.R.EN (ys ++ [0]) then badA 104 xs ac else lop76 N MZ xs ac y F n (MZ s (N.Z.H.MK s.d (Int.ofNat ys.length))) (ys ++ [0]) else none else none) else F s ys
section
variable (N : NW) (KV KE : KF) (MZ : CD → Int → CD) (xs ac : List Int) (s : CD) (y x : Int)
noncomputable abbrev av76 (n : Nat) (k e : Int) : AN := evalFn Tryz.prog (orcDo N d76 (h76 N KV KE MZ k e)) noLoops n 34 Tryz.f34 [.agg (s.vs (.gs 0) (.gs 1)), .int .u8 y, .int .u8 x] (crsH false false xs ac) (ansT (crsA false false [.int .i64]) 2)
noncomputable def res76 (n : Nat) (k : Int) : AN := bif kdC N KV KE k 0 s xs ac y x then bif decide (ac.length * 9 ≤ 70368744177664) then lop76 N MZ xs ac y (fre76 N MZ xs ac ac x) n s xs else none else none
theorem av_e100 : av76 N KV KE MZ xs ac s y x 4 0 100 = bif kdC N KV KE 0 100 s xs ac y x then badA 100 xs ac else none := by kernel_rfl
theorem av_e2 : av76 N KV KE MZ xs ac s y x 4 0 2 = bif kdC N KV KE 0 2 s xs ac y x then badA 2 xs ac else none := by kernel_rfl
theorem av_e80 : av76 N KV KE MZ xs ac s y x 4 0 80 = bif kdC N KV KE 0 80 s xs ac y x then badA 80 xs ac else none := by kernel_rfl
theorem av_k0 : av76 N KV KE MZ xs ac s y x 4 0 0 = bif kdC N KV KE 0 0 s xs ac y x then badA 6 xs ac else none := by kernel_rfl
theorem av_k2 : av76 N KV KE MZ xs ac s y x 4 2 0 = bif kdC N KV KE 2 0 s xs ac y x then badA 104 xs ac else none := by kernel_rfl
theorem av_k6 : av76 N KV KE MZ xs ac s y x 4 6 0 = bif kdC N KV KE 6 0 s xs ac y x then badA 104 xs ac else none := by kernel_rfl
theorem av_k7 : av76 N KV KE MZ xs ac s y x 4 7 0 = bif kdC N KV KE 7 0 s xs ac y x then badA 104 xs ac else none := by kernel_rfl
theorem av_k1 : av76 N KV KE MZ xs ac s y x 1 1 0 = bif kdC N KV KE 1 0 s xs ac y x then bif decide (ac.length * 9 ≤ 70368744177664) then bif decide ((ac ++ [Int.ofNat xs.length]).length * 9 ≤ 70368744177664) then lop76 N MZ xs ac y (fin76 N MZ xs ac (ac ++ [Int.ofNat xs.length]) x) 1 s xs else none else none else none := by kernel_rfl
theorem av_k3 : av76 N KV KE MZ xs ac s y x 4 3 0 = res76 N KV KE MZ xs ac s y x 4 3 := by kernel_rfl
theorem av_k4 : av76 N KV KE MZ xs ac s y x 4 4 0 = res76 N KV KE MZ xs ac s y x 4 4 := by kernel_rfl
theorem av_k5 : av76 N KV KE MZ xs ac s y x 4 5 0 = res76 N KV KE MZ xs ac s y x 4 5 := by kernel_rfl
end
end Go.Proofs.YtojlmpcbplepcaaGreat

/- Chapter 10: the reference's Accept answers as the program's. -/
namespace Go.Proofs.YtojlmpcbplepcaaGreat
open Go Go.Eng
theorem dkB_met {s : CD} (h : dkB s = true) (j : Nat) : dkB (metI s j) = true := by
  unfold dkB at h ⊢
  rw [metI_d]; exact h
theorem mk_mod {d : Int} {n t : Nat} (hd : 0 ≤ d ∧ d ≤ 3) (hn : n ≤ 100000) (h : mkI d n = (t : Int)) : mkI d ((n + 1 : Nat) : Int) = (((t + 1) % 4 : Nat) : Int) := by
  rw [mk_is hd (by omega)] at h ⊢
  omega
theorem lop76_zero {xs ac : List Int} {y : Nat} {F : CD → List Int → AN} {n : Nat} {s : CD} {ys : List Int} (hm : mkI s.d (Int.ofNat ys.length) = (y : Int)) : lop76 nW metZ xs ac (y : Int) F (n + 1) s ys = F s ys := by
  unfold lop76
  rw [show nW.Z.H.MK = mkI from rfl, hm, decide_eq_true rfl]; rfl
theorem lop76_is {xs ac : List Int} {y : Nat} {F : CD → List Int → AN} {G : CD → List Int → AR}
    (HF : ∀ s zs, okL zs = true → zs.length ≤ 500 → GI s.d zs → ovI s.d zs = false → dkB s = true → mkI s.d (Int.ofNat zs.length) = (y : Int) → F s zs = arA xs ac (G s zs)) (HG : ∀ s zs, GI s.d zs → ovI s.d zs = true → G s zs = badR 104) :
    ∀ (r n : Nat) (s : CD) (ys : List Int) (t : Nat), r < n → n ≤ 4 → t < 4 → y = (t + r) % 4 → r ≤ 3 → okL ys = true → ys.length + r ≤ 500 → GI s.d ys → ovI s.d ys = false → dkB s = true → mkI s.d (Int.ofNat ys.length) = (t : Int) →
      lop76 nW metZ xs ac (y : Int) F n s ys = arA xs ac (match acP r s ys t with | none => badR 104 | some (s', zs) => G s' zs) := by
  intro r
  induction r with
  | zero =>
    intro n s ys t hn _ ht hy _ ho hl hg hv hd hm
    obtain ⟨n, rfl⟩ : ∃ m, n = m + 1 := ⟨n - 1, by omega⟩
    have : y = t := by omega
    subst this
    rw [lop76_zero hm]
    unfold acP
    exact HF s ys ho (by omega) hg hv hd hm
  | succ r ih =>
    intro n s ys t hn hn4 ht hy hr ho hl hg hv hd hm
    obtain ⟨n, rfl⟩ : ∃ m, n = m + 1 := ⟨n - 1, by omega⟩
    have hu := (okL_iff.1 ho).2
    have ho2 : okL (ys ++ [0]) = true := okL_iff.2 ⟨by rw [List.length_append, List.length_singleton]; omega, allU_snoc hu (by omega)⟩
    have hl2 : (ys ++ [(0 : Int)]).length = ys.length + 1 := by simp
    obtain ⟨g2, _⟩ := hg.snoc (c := 0) (by omega) (by omega) hv (.inr (hg.pass hv))
    have hm2 : mkI (metI s t).d (Int.ofNat (ys ++ [(0 : Int)]).length) = (((t + 1) % 4 : Nat) : Int) := by
      rw [metI_d, hl2]
      exact mk_mod hg.dd (by omega) hm
    unfold lop76 acP
    rw [show nW.Z.H.MK = mkI from rfl, hm, decide_eq_false (show ¬ (t : Int) = (y : Int) by omega), show nW.Z.H.R.OK ys = true from ho, show nW.Z.H.DK s = true from hd, show nW.Z.H.R.OK (ys ++ [0]) = true from ho2, show nW.Z.H.R.EN (ys ++ [0]) = tzE (ys ++ [0]) from rfl,
      end_gi g2 (by omega), hv, show metZ s (t : Int) = metI s t from rfl]
    simp only [Bool.not_false, cond_true, Bool.and_self, cond_false]
    cases hv2 : ovI s.d (ys ++ [0]) with
    | true =>
      rw [cond_true]
      cases r with
      | zero =>
        unfold acP
        simp only
        rw [HG _ _ (by rw [metI_d]; exact g2) (by rw [metI_d]; exact hv2)]; rfl
      | succ r =>
        unfold acP
        rw [metI_d, hv2]; rfl
    | false =>
      rw [cond_false]
      exact ih n (metI s t) (ys ++ [0]) ((t + 1) % 4) (by omega) (by omega) (by omega) (by omega) (by omega) ho2 (by omega) (by rw [metI_d]; exact g2) (by rw [metI_d]; exact hv2) (dkB_met hd t) hm2
theorem fin76_is {xs ac bc : List Int} {x : Int} {s : CD} {ys : List Int} {y : Nat} (ho : okL ys = true) (hd : dkB s = true) (hm : mkI s.d (Int.ofNat ys.length) = (y : Int)) : fin76 nW metZ xs ac bc x s ys = arA xs ac (acZ x ys bc s y) := by
  unfold fin76 acZ
  rw [d400, show nW.Z.H.MK = mkI from rfl, hm, show nW.Z.H.R.OK ys = true from ho, show nW.Z.H.DK s = true from hd, show metZ s (y : Int) = metI s y from rfl]
  cases decide (400 ≤ ys.length) <;> rfl
theorem fre76_is {xs ac bc : List Int} {x : Int} {s : CD} {ys : List Int} {y : Nat} (hx : 0 ≤ x) (ho : okL ys = true) (hd : dkB s = true) (hg : GI s.d ys) (hv : ovI s.d ys = false) (hm : mkI s.d (Int.ofNat ys.length) = (y : Int)) :
    fre76 nW metZ xs ac bc x s ys = arA xs ac (bif !frI s.d ys x then badR 104 else acZ x ys bc s y) := by
  unfold fre76
  rw [fin76_is ho hd hm, show nW.Z.H.R.OK ys = true from ho, show nW.Z.H.R.FR ys x = rfrI ys x from rfl, free_gi hg (okL_len ho) hv hx]
  cases frI s.d ys x <;> rfl
theorem f76 (n1 n2 : Bool) {s : CD} {xs ac : List Int} {y x : Int} (h : okL xs = true) (hc : lenOk ac = true) (hb : crB s = true) (hy : byB y = true) (hx : byB x = true) :
    FnOK Tryz.prog 34 [.agg (s.vs (.gs 0) (.gs 1)), .int .u8 y, .int .u8 x] (crsH n1 n2 xs ac) (.tuple [.agg ((acI s xs ac y x).s.vs (.gs 2) (.gs 3)), .int .i64 (acI s xs ac y x).e]) (crsH n1 n2 xs ac ++ crsNb (acI s xs ac y x).ys (acI s xs ac y x).bc) := by
  have hd := crB_dk hb
  have hy0 := by_rg hy
  have hx0 := by_rg hx
  have hcl : ac.length ≤ 200000 := of_decide_eq_true hc
  have main : ∀ (n : Nat) (k e : Int), av76 nW kdI keI metZ xs ac s y x n k e = arA xs ac (acI s xs ac y x) → FnOK Tryz.prog 34 [.agg (s.vs (.gs 0) (.gs 1)), .int .u8 y, .int .u8 x] (crsH n1 n2 xs ac) (.tuple [.agg ((acI s xs ac y x).s.vs (.gs 2) (.gs 3)), .int .i64 (acI s xs ac y x).e]) (crsH n1 n2 xs ac ++ crsNb (acI s xs ac y x).ys (acI s xs ac y x).bc) := fun n k e hq =>
    fn_crs (fn_ans (T := crsA false false [.int .i64]) (orcDo_ok (dom := d76) (h76_ok k e)) mixed Tryz.func34 noLoops_ok (by kernel_rfl) hq codesNil rfl)
  have cd : ∀ {k e : Int}, kdI s xs ac y x = k → keI s xs ac y x = e → kdC nW kdI keI k e s xs ac y x = true := fun h1 h2 => kdC_is h hc hb hy hx h1 h2
  obtain ⟨hk, he, hr⟩ := kd_range s xs ac y x
  rcases he with he | ⟨h0, he⟩
  · obtain ⟨hy3, hx37, hrg⟩ := hr he
    obtain ⟨⟨hd0, hd3⟩, hl4, _, g, _⟩ := rgt_gc h hd hrg
    obtain ⟨ht, hk4⟩ := tN_lt s xs h (of_decide_eq_true hd)
    obtain ⟨z, rfl⟩ : ∃ z : Nat, y = z := ⟨y.toNat, by omega⟩
    obtain ⟨t1, t3, t4, t5⟩ := kd_turn (ac := ac) (x := x) (of_decide_eq_true hd) h (show z < 4 by omega) he
    have hov : (kdI s xs ac z x = 1 ∨ kdI s xs ac z x = 3 ∨ kdI s xs ac z x = 4 ∨ kdI s xs ac z x = 5) → ovI s.d xs = false := fun hq => by
      cases hv : ovI s.d xs with
      | false => rfl
      | true =>
        unfold kdI at hq
        rw [hrg, decide_eq_false (show ¬ (3 : Int) < z by omega), decide_eq_true hx37, hv] at hq
        simp at hq
    have hX : ∀ k, kdI s xs ac z x = k → acI s xs ac z x = bif decide (k = 0) then badR 6 else bif decide (k = 1) then acZ x xs (ac ++ [(xs.length : Int)]) s (tN s xs) else bif decide (k = 3) then acY 1 s xs ac (tN s xs) x else bif decide (k = 4) then acY 2 s xs ac (tN s xs) x else
        bif decide (k = 5) then acY 3 s xs ac (tN s xs) x else badR 104 := fun k h1 => by
      unfold acI
      rw [he, h1]; rfl
    have h9 : decide (ac.length * 9 ≤ 70368744177664) = true := decide_eq_true (by omega)
    have HR : ∀ (r : Nat) (k : Int), r ≤ 3 → kdI s xs ac z x = k → ovI s.d xs = false → z = (tN s xs + r) % 4 → res76 nW kdI keI metZ xs ac s z x 4 k = arA xs ac (acY r s xs ac (tN s xs) x) := fun r k hr3 hk hv hz => by
      unfold res76
      rw [cd hk he, cond_true, h9, cond_true]
      rw [lop76_is (G := fun s' zs => bif !frI s'.d zs x then badR 104 else acZ x zs ac s' ((tN s xs + r) % 4)) (fun s' zs o1 _ o2 o3 o4 o5 => ?_) (fun s' zs o1 o2 => ?_) r 4 s xs (tN s xs) (by omega) (by omega) hk4 hz hr3 h (by omega) g hv hd ht]
      · unfold acY
        cases acP r s xs (tN s xs) <;> rfl
      · exact fre76_is hx0.1 o1 o4 o2 o3 (by rw [← hz]; exact o5)
      · cases hf : frI s'.d zs x with
        | false => rfl
        | true => rw [(o1.free hf).1] at o2; cases o2
    rcases hk with hk | hk | hk | hk | hk | hk | hk | hk
    · exact main 4 0 0 (by rw [av_k0, cd hk he, hX 0 hk]; rfl)
    · refine main 1 1 0 ?_
      rw [av_k1, cd hk he, cond_true, h9, cond_true, decide_eq_true (show (ac ++ [Int.ofNat xs.length]).length * 9 ≤ 70368744177664 by simp; omega), cond_true, hX 1 hk]
      have hz := t1 hk
      have ht2 : mkI s.d (Int.ofNat xs.length) = (z : Int) := by rw [hz]; exact ht
      rw [lop76_zero ht2, fin76_is h hd ht2, ← hz]; rfl
    · exact main 4 2 0 (by rw [av_k2, cd hk he, hX 2 hk]; rfl)
    · refine main 4 3 0 ?_
      rw [av_k3, hX 3 hk]
      exact HR 1 3 (by omega) hk (hov (.inr (.inl hk))) (t3 hk)
    · refine main 4 4 0 ?_
      rw [av_k4, hX 4 hk]
      exact HR 2 4 (by omega) hk (hov (.inr (.inr (.inl hk)))) (t4 hk)
    · refine main 4 5 0 ?_
      rw [av_k5, hX 5 hk]
      exact HR 3 5 (by omega) hk (hov (.inr (.inr (.inr hk)))) (t5 hk)
    · exact main 4 6 0 (by rw [av_k6, cd hk he, hX 6 hk]; rfl)
    · exact main 4 7 0 (by rw [av_k7, cd hk he, hX 7 hk]; rfl)
  · have hX : ∀ e, keI s xs ac y x = e → e ≠ 0 → acI s xs ac y x = badR e := fun e h1 h2 => by
      unfold acI
      rw [h1, decide_eq_false h2]; rfl
    rcases he with he | he | he
    · exact main 4 0 100 (by rw [av_e100, cd h0 he, hX 100 he (by omega)]; rfl)
    · exact main 4 0 2 (by rw [av_e2, cd h0 he, hX 2 he (by omega)]; rfl)
    · exact main 4 0 80 (by rw [av_e80, cd h0 he, hX 80 he (by omega)]; rfl)
end Go.Proofs.YtojlmpcbplepcaaGreat
