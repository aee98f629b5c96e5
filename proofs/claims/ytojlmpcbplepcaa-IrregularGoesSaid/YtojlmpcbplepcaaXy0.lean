/- Texts merged: Xy0, Xy, Xz, Ya. -/
import Derived.Test.YtojlmpcbplepcaaXv0
import Derived.Test.YtojlmpcbplepcaaCt2
import Derived.Test.YtojlmpcbplepcaaLeg
/- Chapter 10: the reference's Contract: its two loops. -/
namespace Go.Proofs.Ytojlmpcbplepcaa
open Go Go.Eng
def d83 : FuncId → Bool := domG fun f => Nat.beq f 81 || Nat.beq f 99
def h83 (N : NW) : HTab := hTG N.Z.H.R (addH 81 (g81 N.Z.H) (addH 99 (g99 N.Z.H) emptyH))
theorem h83_ok : HTabOk Try.prog (h83 nW) := hTG_ok (addH_ok g81_ok (addH_ok g99_ok emptyH_ok))
noncomputable def ra83 : Code := loopOf 12 Try.f83
noncomputable def rb83 : Code := loopOf 17 Try.f83
def rcBk : List TB := [.rs false 1 (.ints .u8), .rs false 1 (.ints .i64), .own 59 (.vs (crsT (.gs 0) (.gs 1))), .own 52 (.vs ct4), .own 52 (.vs ct4)]
def raT : Tm := ⟨mkS [(1, .ptr 2 0), (2, .ptr 3 0), (6, .int .i64), (8, .int .u8), (10, .ptr 4 0), (11, .int .i64)] 0 106, rcBk, []⟩
def raX : Tm := ⟨mkS [(1, .ptr 2 0), (2, .ptr 3 0), (6, .int .i64), (8, .int .u8), (10, .ptr 4 0)] 0 106, rcBk, []⟩
def rbT : Tm := ⟨mkS [(1, .ptr 2 0), (2, .ptr 3 0), (6, .int .i64), (8, .int .u8), (10, .ptr 4 0), (12, .int .i64)] 0 106, rcBk, []⟩
def rbX : Tm := ⟨mkS [(2, .ptr 3 0), (10, .ptr 4 0)] 0 106, rcBk, []⟩
def raIn (z dn i : Int) (xs ac : List Int) (s : CD) (t f : Q4) : List PV := .i z :: .i dn :: .i i :: .l xs :: .l ac :: s.pv (q4p t (q4p f []))
theorem ra_round (N : NW) (rd : Option Nat) (z dn i : Int) (xs ac : List Int) (s : CD) (t f : Q4) : roundX Try.prog (orcDo N d83 (h83 N)) noLoops 100 2 rd 83 ra83 raT raT (fun _ => raX) (raIn z dn i xs ac s t f) =
    bif decide (i < Int.ofNat xs.length) then atU xs i (fun x => bif decide (f.c < x) then atU xs i (fun v => some (.normal, raIn z dn (wr .i64 (i + 1)) xs ac s t { f with c := v }, [])) else some (.normal, raIn z dn (wr .i64 (i + 1)) xs ac s t f, [])) else some (.exit 0, caOut z dn xs ac s t f, []) := by kernel_rfl
theorem rb_round (N : NW) (rd : Option Nat) (z dn i : Int) (xs ac : List Int) (s : CD) (t f : Q4) : roundX Try.prog (orcDo N d83 (h83 N)) noLoops 100 2 rd 83 rb83 rbT rbT (fun _ => rbX) (raIn z dn i xs ac s t f) =
    bif decide (0 ≤ i) then atU xs i (fun x => bif N.BY x then bif N.Z.H.R.IB x then bif decide (N.DN x = dn) then bif decide ((wr .i64 (z - i)).tmod 2 = 0) then some (.normal, raIn z dn (wr .i64 (i - 1)) xs ac s t { f with d := N.Z.H.MK s.d i }, []) else some (.normal, raIn z dn (wr .i64 (i - 1)) xs ac s t f, [])
      else some (.normal, raIn z dn (wr .i64 (i - 1)) xs ac s t f, []) else some (.normal, raIn z dn (wr .i64 (i - 1)) xs ac s t f, []) else none) else some (.exit 2, cbOut xs ac s t f, []) := by kernel_rfl
end Go.Proofs.Ytojlmpcbplepcaa

/- Chapter 10: the reference's Contract: its loops as wholes. -/
namespace Go.Proofs.Ytojlmpcbplepcaa
open Go Go.Eng
theorem atU_g {α : Type} {l : List Int} {i : Nat} (h : i < l.length) {K : Int → Option α} : atU l (i : Int) K = K (l.getD i 0) := by rw [atU_at h, getD_el h]
theorem ra_loop (rd : Option Nat) (z dn : Int) (xs ac : List Int) (s : CD) (t f : Q4) (hs : xs.length ≤ 100000) : ∀ x : Nat × Int, x.1 ≤ xs.length →
    ∃ m, SimL Try.prog 2 rd ra83 m (raT.at (raIn z dn (x.1 : Int) xs ac s t { f with c := x.2 })) (.exit 0) (raX.at (caOut z dn xs ac s t { f with c := mxL (xs.drop x.1) x.2 })) := by
  refine loop_of_roundsX_n (C := orcDo nW d83 (h83 nW)) (L := noLoops) (N := 100) (me := 83) (T := raT) (T' := fun _ => raX) (orcDo_ok h83_ok) mixed noLoops_ok (by kernel_rfl) (fun _ => by kernel_rfl) (X := Nat × Int)
    (fun x => raIn z dn (x.1 : Int) xs ac s t { f with c := x.2 }) (fun x => x.1 ≤ xs.length) (fun x => xs.length - x.1) (fun x => (.exit 0, caOut z dn xs ac s t { f with c := mxL (xs.drop x.1) x.2 })) ?_
  rintro ⟨i, r⟩ hi
  dsimp only at hi ⊢
  have key := ra_round nW rd z dn (i : Int) xs ac s t { f with c := r }
  have z1 : Int.ofNat xs.length = (xs.length : Int) := rfl
  rcases Nat.lt_or_ge i xs.length with hlt | hge
  · rw [z1, decide_eq_true (show (i : Int) < (xs.length : Int) by omega), cond_true, atU_g hlt, atU_g hlt, wr64 (n := (i : Int) + 1) (by omega) (by omega)] at key
    have hg : xs.getD i 0 = xs[i] := by rw [List.getD_eq_getElem?_getD, List.getElem?_eq_getElem hlt]; rfl
    rw [List.drop_eq_getElem_cons hlt, ← hg]
    have hm : mxL (xs.getD i 0 :: xs.drop (i + 1)) r = mxL (xs.drop (i + 1)) (bif decide (r < xs.getD i 0) then xs.getD i 0 else r) := rfl
    rw [hm]
    cases hd : decide (r < xs.getD i 0) with
    | true => rw [hd] at key; exact ⟨_, _, _, key, codesNil, .inl ⟨rfl, (i + 1, xs.getD i 0), rfl, by dsimp only; omega, by dsimp only; omega, rfl⟩⟩
    | false => rw [hd] at key; exact ⟨_, _, _, key, codesNil, .inl ⟨rfl, (i + 1, r), rfl, by dsimp only; omega, by dsimp only; omega, rfl⟩⟩
  · rw [z1, decide_eq_false (show ¬ (i : Int) < (xs.length : Int) by omega), cond_false] at key
    refine ⟨_, _, _, key, codesNil, .inr ⟨by simp, ?_⟩⟩
    rw [List.drop_eq_nil_of_le (by omega)]; rfl
def rdP (xs : List Int) (dn z : Int) (n : Nat) : Bool := isBid (xs.getD n 0) && (decide (dnZ (xs.getD n 0) = dn) && decide ((wr .i64 (z - n)).tmod 2 = 0))
def rdB (xs : List Int) (dn z : Int) : Nat → Option Nat
  | 0 => none
  | n + 1 => match rdB xs dn z n with
    | some j => some j
    | none => bif rdP xs dn z n then some n else none
theorem rd_step (xs : List Int) (dn z d : Int) (f : Q4) (n : Nat) : fdQ d f (rdB xs dn z (n + 1)) = fdQ d (bif rdP xs dn z n then { f with d := mkI d n } else f) (rdB xs dn z n) := by
  rw [show rdB xs dn z (n + 1) = (match rdB xs dn z n with | some j => some j | none => bif rdP xs dn z n then some n else none) from rfl]
  cases rdB xs dn z n with
  | some j => cases rdP xs dn z n <;> rfl
  | none => cases rdP xs dn z n <;> rfl
theorem rb_loop (rd : Option Nat) (z dn : Int) (xs ac : List Int) (s : CD) (t : Q4) (h : okL xs = true) : ∀ x : Nat × Q4, x.1 ≤ xs.length →
    ∃ m, SimL Try.prog 2 rd rb83 m (rbT.at (raIn z dn ((x.1 : Int) - 1) xs ac s t x.2)) (.exit 2) (rbX.at (cbOut xs ac s t (fdQ s.d x.2 (rdB xs dn z x.1)))) := by
  obtain ⟨hs, hu⟩ := okL_iff.1 h
  refine loop_of_roundsX_n (C := orcDo nW d83 (h83 nW)) (L := noLoops) (N := 100) (me := 83) (T := rbT) (T' := fun _ => rbX) (orcDo_ok h83_ok) mixed noLoops_ok (by kernel_rfl) (fun _ => by kernel_rfl) (X := Nat × Q4)
    (fun x => raIn z dn ((x.1 : Int) - 1) xs ac s t x.2) (fun x => x.1 ≤ xs.length) (fun x => x.1) (fun x => (.exit 2, cbOut xs ac s t (fdQ s.d x.2 (rdB xs dn z x.1)))) ?_
  rintro ⟨n, f⟩ hi
  dsimp only at hi ⊢
  have key := rb_round nW rd z dn ((n : Int) - 1) xs ac s t f
  cases n with
  | zero =>
    rw [decide_eq_false (show ¬ 0 ≤ ((0 : Nat) : Int) - 1 by omega), cond_false] at key
    exact ⟨_, _, _, key, codesNil, .inr ⟨by simp, rfl⟩⟩
  | succ n =>
    have e1 : ((n + 1 : Nat) : Int) - 1 = (n : Int) := by omega
    have hby : byB (xs.getD n 0) = true := by
      have := allU_iff.1 hu (xs.getD n 0) (getD_mem (by omega))
      exact decide_eq_true this
    rw [e1] at key ⊢
    rw [decide_eq_true (show 0 ≤ (n : Int) by omega), cond_true, atU_g (by omega), wr64 (n := (n : Int) - 1) (by omega) (by omega), show nW.BY (xs.getD n 0) = true from hby, cond_true, show nW.Z.H.R.IB = isBid from rfl, show nW.DN = dnZ from rfl, show nW.Z.H.MK = mkI from rfl] at key
    rw [rd_step]
    unfold rdP
    cases h1 : isBid (xs.getD n 0) with
    | false => rw [h1] at key; exact ⟨_, _, _, key, codesNil, .inl ⟨rfl, (n, f), rfl, by dsimp only; omega, by dsimp only; omega, rfl⟩⟩
    | true =>
      cases h2 : decide (dnZ (xs.getD n 0) = dn) with
      | false => rw [h1, h2] at key; exact ⟨_, _, _, key, codesNil, .inl ⟨rfl, (n, f), rfl, by dsimp only; omega, by dsimp only; omega, rfl⟩⟩
      | true =>
        cases h3 : decide ((wr .i64 (z - (n : Int))).tmod 2 = 0) with
        | false => rw [h1, h2, h3] at key; exact ⟨_, _, _, key, codesNil, .inl ⟨rfl, (n, f), rfl, by dsimp only; omega, by dsimp only; omega, rfl⟩⟩
        | true => rw [h1, h2, h3] at key; exact ⟨_, _, _, key, codesNil, .inl ⟨rfl, (n, { f with d := mkI s.d n }), rfl, by dsimp only; omega, by dsimp only; omega, rfl⟩⟩
structure NCt where
  MX : List Int → Int → Int
  RD : List Int → Int → Int → Int → Q4 → Q4
def nCt : NCt := ⟨fun xs i => mxL (xs.drop i.toNat) 0, fun xs dn z d f => fdQ d f (rdB xs dn z xs.length)⟩
noncomputable def tRa (X : NCt) : List PV → Fin
  | .i z :: .i dn :: .i i :: .l xs :: .l ac :: ps => match crsP ps with
    | some (s, [.i t0, .i t1, .i t2, .i t3, .i f0, .i f1, .i f2, .i f3]) => .br (pB (f2 = 0 ∧ 0 ≤ i ∧ i ≤ xs.length ∧ xs.length ≤ 100000)) (.leaf (.exit 0) (raX.at (caOut z dn xs ac s ⟨t0, t1, t2, t3⟩ ⟨f0, f1, X.MX xs i, f3⟩))) .no
    | _ => .no
  | _ => .no
noncomputable def tRb (X : NCt) : List PV → Fin
  | .i z :: .i dn :: .i i :: .l xs :: .l ac :: ps => match crsP ps with
    | some (s, [.i t0, .i t1, .i t2, .i t3, .i f0, .i f1, .i f2, .i f3]) => .br (pB (i = wr .i64 (Int.ofNat xs.length - 1) ∧ okL xs = true)) (.leaf (.exit 2) (rbX.at (cbOut xs ac s ⟨t0, t1, t2, t3⟩ (X.RD xs dn z s.d ⟨f0, f1, f2, f3⟩)))) .no
    | _ => .no
  | _ => .no
noncomputable def L83 (X : NCt) : Loops := sums (fun n => match n with | 12 => some (lsumD 2 raT ra83 (tRa X) noSum) | 17 => some (lsumD 2 rbT rb83 (tRb X) noSum) | _ => none)
theorem L83_ok : loopsOk Try.prog (L83 nCt) := by
  intro n g hg
  simp only [L83, sums] at hg
  split at hg
  · cases hg
    refine lsumD_ok (by kernel_rfl) (fun rd ps e st h => ?_) noSum_ok
    unfold tRa at h
    split at h
    · rename_i z dn i xs ac ps
      split at h
      · rename_i s t0 t1 t2 t3 f0 f1 f2 f3 hs
        rw [crsP_ok hs]
        obtain ⟨⟨rfl, h1, h2, h3⟩, rfl, rfl⟩ := pick1 h
        obtain ⟨k, rfl⟩ : ∃ k : Nat, i = k := ⟨i.toNat, by omega⟩
        obtain ⟨m, hm⟩ := ra_loop rd z dn xs ac s ⟨t0, t1, t2, t3⟩ ⟨f0, f1, 0, f3⟩ h3 (k, 0) (by dsimp only; omega)
        exact hm.loop
      · cases h
    · cases h
  · cases hg
    refine lsumD_ok (by kernel_rfl) (fun rd ps e st h => ?_) noSum_ok
    unfold tRb at h
    split at h
    · rename_i z dn i xs ac ps
      split at h
      · rename_i s t0 t1 t2 t3 f0 f1 f2 f3 hs
        rw [crsP_ok hs]
        obtain ⟨⟨rfl, h1⟩, rfl, rfl⟩ := pick1 h
        have hl := okL_len h1
        have e : wr .i64 (Int.ofNat xs.length - 1) = (xs.length : Int) - 1 := wrL hl
        rw [e]
        obtain ⟨m, hm⟩ := rb_loop rd z dn xs ac s ⟨t0, t1, t2, t3⟩ h1 (xs.length, ⟨f0, f1, f2, f3⟩) (Nat.le_refl _)
        exact hm.loop
      · cases h
    · cases h
  · cases hg
noncomputable def all83 (N : NW) (X : NCt) (s : CD) (xs ac : List Int) : Option V := bif N.Z.H.C s xs ac then bif !decide (N.Z.H.OE s xs ac = 0) then some (cnV q0 (N.Z.H.OE s xs ac)) else bif !N.Z.H.OB s xs ac then some (cnV q0 102) else
  bif N.Z.H.R.OK xs then bif decide (N.Z.H.R.LB xs < 0) then some (cnV q0 0) else atU xs (N.Z.H.R.LB xs) (fun v => bif N.BY v then
    cond (codesB [(ra83, ra83)]) (bif pB ((0 : Int) = 0 ∧ 0 ≤ wr .i64 (N.Z.H.R.LB xs + 1) ∧ wr .i64 (N.Z.H.R.LB xs + 1) ≤ xs.length ∧ xs.length ≤ 100000) then
      cond (codesB [(rb83, rb83)]) (bif pB (wr .i64 (Int.ofNat xs.length - 1) = wr .i64 (Int.ofNat xs.length - 1) ∧ okL xs = true) then some (cnV (X.RD xs (N.DN v) (N.Z.H.R.LB xs) s.d ⟨N.LZ v, N.DN v, X.MX xs (wr .i64 (N.Z.H.R.LB xs + 1)), 0⟩) 0) else none) none else none) none else none) else none else none
theorem e83 (N : NW) (X : NCt) (s : CD) (xs ac : List Int) : evalFn Try.prog (orcDo N d83 (h83 N)) (L83 X) 100 83 Try.f83 [.agg (s.vs (.gs 0) (.gs 1))] (crsH false false xs ac) (fun v _ => some v) = all83 N X s xs ac := by kernel_rfl
end Go.Proofs.Ytojlmpcbplepcaa

/- Chapter 10: the reference's Contract answers as the program's. -/
namespace Go.Proofs.Ytojlmpcbplepcaa
open Go Go.Eng
theorem rdB_some {xs : List Int} {dn z : Int} : ∀ {n j : Nat}, rdB xs dn z n = some j → j < n ∧ rdP xs dn z j = true ∧ ∀ i, i < j → rdP xs dn z i = false
  | 0, j, h => by cases h
  | n + 1, j, h => by
    rw [show rdB xs dn z (n + 1) = (match rdB xs dn z n with | some j => some j | none => bif rdP xs dn z n then some n else none) from rfl] at h
    cases hr : rdB xs dn z n with
    | some k =>
      rw [hr] at h
      cases h
      obtain ⟨h1, h2, h3⟩ := rdB_some hr
      exact ⟨by omega, h2, h3⟩
    | none =>
      rw [hr] at h
      cases hp : rdP xs dn z n with
      | false => rw [hp] at h; cases h
      | true =>
        rw [hp] at h
        cases h
        refine ⟨by omega, hp, fun i hi => ?_⟩
        exact rdB_none hr i hi
where
  rdB_none {xs : List Int} {dn z : Int} : ∀ {n : Nat}, rdB xs dn z n = none → ∀ i, i < n → rdP xs dn z i = false
  | 0, _, i, hi => by omega
  | n + 1, h, i, hi => by
    rw [show rdB xs dn z (n + 1) = (match rdB xs dn z n with | some j => some j | none => bif rdP xs dn z n then some n else none) from rfl] at h
    cases hr : rdB xs dn z n with
    | some k => rw [hr] at h; cases h
    | none =>
      rw [hr] at h
      cases hp : rdP xs dn z n with
      | true => rw [hp] at h; cases h
      | false =>
        rcases Nat.lt_or_ge i n with hi2 | hi2
        · exact rdB_none hr i hi2
        · rw [show i = n by omega]; exact hp
theorem rdB_is {xs : List Int} {dn z : Int} {n j : Nat} (hj : j < n) (hp : rdP xs dn z j = true) (hl : ∀ i, i < j → rdP xs dn z i = false) : rdB xs dn z n = some j := by
  cases hr : rdB xs dn z n with
  | none => have := rdB_some.rdB_none hr j hj; rw [hp] at this; cases this
  | some k =>
    obtain ⟨h1, h2, h3⟩ := rdB_some hr
    rcases Nat.lt_trichotomy k j with h | h | h
    · have := hl k h; rw [h2] at this; cases this
    · rw [h]
    · have := h3 j h; rw [hp] at this; cases this
theorem fdB_spec (xs : List Int) (dn : Int) (z : Nat) : ∀ (n i j : Nat), fdB xs dn z n i = some j → j ≤ z ∧ i ≤ j ∧ (j - i) % 2 = 0 ∧ (isBid (xs.getD j 0) && decide (dnZ (xs.getD j 0) = dn)) = true ∧ ∀ l, i ≤ l → l < j → (l - i) % 2 = 0 → (isBid (xs.getD l 0) && decide (dnZ (xs.getD l 0) = dn)) = false
  | 0, i, j, h => by cases h
  | n + 1, i, j, h => by
    unfold fdB at h
    by_cases hz : i ≤ z
    · rw [decide_eq_true hz, cond_true] at h
      cases hp : isBid (xs.getD i 0) && decide (dnZ (xs.getD i 0) = dn) with
      | true =>
        rw [hp] at h
        cases h
        exact ⟨hz, Nat.le_refl _, by omega, hp, fun l h1 h2 => by omega⟩
      | false =>
        rw [hp] at h
        obtain ⟨a1, a2, a3, a4, a5⟩ := fdB_spec xs dn z n (i + 2) j h
        refine ⟨a1, by omega, by omega, a4, fun l h1 h2 h3 => ?_⟩
        rcases Nat.eq_or_lt_of_le h1 with rfl | h1
        · exact hp
        · exact a5 l (by omega) h2 (by omega)
    · rw [decide_eq_false hz] at h; cases h
theorem fdB_hit (xs : List Int) (dn : Int) (z : Nat) (hb : isBid (xs.getD z 0) = true) (hd : dnZ (xs.getD z 0) = dn) : ∀ (n i : Nat), i ≤ z → (z - i) % 2 = 0 → z - i < 2 * n → ∃ j, fdB xs dn z n i = some j ∧ j ≤ z
  | 0, i, _, _, h => by omega
  | n + 1, i, hi, he, hn => by
    unfold fdB
    rw [decide_eq_true hi, cond_true]
    by_cases hz : i = z
    · rw [hz, hb, hd, decide_eq_true rfl]
      exact ⟨z, rfl, Nat.le_refl z⟩
    · cases hc : isBid (xs.getD i 0) && decide (dnZ (xs.getD i 0) = dn) with
      | true => exact ⟨i, rfl, hi⟩
      | false => exact fdB_hit xs dn z hb hd n (i + 2) (by omega) (by omega) (by omega)
theorem lbI_get {xs : List Int} (h : hasB xs = true) : xs.getD (lastI xs).toNat 0 = lbI xs := by unfold lbI; rw [h]; rfl
theorem par_is {z n : Nat} (hz : z ≤ 100000) (hn : n ≤ 100000) : decide ((wr .i64 ((z : Int) - n)).tmod 2 = 0) = decide (z % 2 = n % 2) := by
  rw [wr64 (by omega) (by omega), Bool.eq_iff_iff, decide_eq_true_eq, decide_eq_true_eq]
  rcases Nat.lt_or_ge z n with h | h
  · rw [show (z : Int) - n = -((n - z : Nat) : Int) by omega, Int.neg_tmod, Int.tmod_eq_emod_of_nonneg (by omega)]; omega
  · rw [Int.tmod_eq_emod_of_nonneg (by omega)]; omega
theorem rd_fd {xs : List Int} (hl : xs.length ≤ 100000) (hb : hasB xs = true) : rdB xs (dnZ (lbI xs)) (lastI xs) xs.length = fdB xs (dnZ (lbI xs)) (lastI xs).toNat ((lastI xs).toNat + 1) ((lastI xs).toNat % 2) := by
  obtain ⟨k, h1, h2, h3, h4⟩ := lastN_some _ hb
  have hk : lastI xs = (k : Int) := h2
  have e1 : xs.getD k 0 = lbI xs := by have := lbI_get hb; rw [hk] at this; exact this
  rw [hk, Int.toNat_natCast]
  obtain ⟨j, hj, _⟩ := fdB_hit xs (dnZ (lbI xs)) k h3 (by rw [e1]) (k + 1) (k % 2) (by omega) (by omega) (by omega)
  rw [hj]
  obtain ⟨a1, a2, a3, a4, a5⟩ := fdB_spec _ _ _ _ _ _ hj
  simp only [Bool.and_eq_true] at a4
  refine rdB_is (by omega) ?_ fun i hi => ?_
  · unfold rdP
    rw [par_is (by omega) (by omega), a4.1, a4.2, decide_eq_true (by omega)]; rfl
  · unfold rdP
    rw [par_is (by omega) (by omega)]
    by_cases hp : k % 2 = i % 2
    · have := a5 i (by omega) hi (by omega)
      cases h5 : isBid (xs.getD i 0) with
      | false => rfl
      | true => rw [h5, Bool.true_and] at this; rw [this]; rfl
    · rw [decide_eq_false hp, Bool.and_false, Bool.and_false]
theorem all83_is {s : CD} {xs ac : List Int} (h : okL xs = true) (hc : lenOk ac = true) (hd : dkB s = true) : all83 nW nCt s xs ac = some (cnV (conI s xs ac) (conE s xs ac)) := by
  have hl := okL_len h
  have hC : nW.Z.H.C s xs ac = true := by unfold NH.C; rw [show nW.Z.H.R.OK xs = true from h, show nW.Z.H.CK ac = true from hc, show nW.Z.H.DK s = true from hd]; rfl
  unfold all83 conI conE
  rw [hC, show nW.Z.H.OE s xs ac = ovrE s xs ac from rfl, show nW.Z.H.OB s xs ac = ovrB s xs ac from rfl, show nW.Z.H.R.OK xs = true from h, show nW.Z.H.R.LB xs = lbR xs from rfl]
  unfold ovrE ovrB opI
  cases hr : rgtI s xs ac with
  | false => rfl
  | true =>
    cases hv : ovI s.d xs with
    | false => rfl
    | true =>
      show (bif decide (lbR xs < 0) then some (cnV q0 0) else _) = some (cnV (conQ s xs) 0)
      unfold conQ lbR
      cases hb : hasB xs with
      | false => rfl
      | true =>
        obtain ⟨k, h1, h2, h3, h4⟩ := lastN_some _ hb
        have hk : lastI xs = (k : Int) := h2
        have e1 : xs.getD k 0 = lbI xs := by have := lbI_get hb; rw [hk] at this; exact this
        have hrd := rd_fd hl hb
        have ew : wr .i64 ((k : Int) + 1) = ((k + 1 : Nat) : Int) := by rw [wr64 (by omega) (by omega)]; omega
        simp only [cond_true]
        rw [hk] at hrd ⊢
        rw [decide_eq_false (show ¬ (k : Int) < 0 by omega), cond_false, atU_g h1, e1, show nW.BY (lbI xs) = true from lb_by xs, lpCd10, lpCd10, ew, pB_iff.2 (⟨trivial, by omega, by omega, hl⟩ : True ∧ 0 ≤ ((k + 1 : Nat) : Int) ∧ ((k + 1 : Nat) : Int) ≤ xs.length ∧ xs.length ≤ 100000), pB_iff.2 (⟨trivial, h⟩ : True ∧ okL xs = true)]
        simp only [cond_true]
        show some (cnV (fdQ s.d _ (rdB xs (dnZ (lbI xs)) (k : Int) xs.length)) 0) = _
        rw [hrd]; rfl
theorem f83 (n1 n2 : Bool) {s : CD} {xs ac : List Int} (h : okL xs = true) (hc : lenOk ac = true) (hd : dkB s = true) : FnOK Try.prog 83 [.agg (s.vs (.gs 0) (.gs 1))] (crsH n1 n2 xs ac) (cnV (conI s xs ac) (conE s xs ac)) (crsH n1 n2 xs ac ++ []) :=
  crs_fn (orcDo_ok h83_ok) L83_ok Try.func83 rfl ((e83 nW nCt s xs ac).trans (all83_is h hc hd)) n1 n2
def g83 (N : NW) (CQ : CD → List Int → List Int → Q4) (CE : CD → List Int → List Int → Int) : CH
  | [.agg l], [.rs _ 1 (.ints .u8 xs), .rs _ 1 (.ints .i64 ac)] => match ofCrs l with
    | some (s, .gs 0, .gs 1) => some (N.Z.H.C s xs ac, cnV (CQ s xs ac) (CE s xs ac), [])
    | _ => none
  | _, _ => none
theorem g83_ok : cOk 83 (g83 nW conI conE) := by
  intro args hp c v nb hq hc
  unfold g83 at hq
  split at hq
  · split at hq
    · rename_i s hs
      cases hq
      obtain ⟨h1, h2, h3⟩ := C_ok hc
      rw [ofCrs_ok hs]
      exact ⟨.of Try.func83 (by kernel_rfl), f83 _ _ h1 h2 h3⟩
    · cases hq
  · cases hq
def d84 : FuncId → Bool := domG fun f => Nat.beq f 83
def h84 (N : NW) (CQ : CD → List Int → List Int → Q4) (CE : CD → List Int → List Int → Int) : HTab := hTG N.Z.H.R (addH 83 (g83 N CQ CE) emptyH)
theorem h84_ok : HTabOk Try.prog (h84 nW conI conE) := hTG_ok (addH_ok g83_ok emptyH_ok)
theorem e84 (N : NW) (CQ : CD → List Int → List Int → Q4) (CE : CD → List Int → List Int → Int) (s : CD) (xs ac : List Int) : evalFn Try.prog (orcDo N d84 (h84 N CQ CE)) noLoops 100 84 Try.f84 [.agg (s.vs (.gs 0) (.gs 1))] (crsH false false xs ac) (fun v _ => some v) =
    bif N.Z.H.C s xs ac then bif !decide (CE s xs ac = 0) then ldF 0 (CE s xs ac) else bif decide ((CQ s xs ac).a = 0) then ldF 0 6 else ldC ((wr .u8 ((CQ s xs ac).d + 1)).tmod 4) s.f else none := by kernel_rfl
end Go.Proofs.Ytojlmpcbplepcaa

/- Chapter 10: the reference's Lead answers as the program's. -/
namespace Go.Proofs.Ytojlmpcbplepcaa
open Go Go.Eng
theorem mx_le : ∀ (l : List Int) (r : Int), (∀ x ∈ l, x ≤ 2) → r ≤ 2 → mxL l r ≤ 2
  | [], r, _, h => h
  | x :: q, r, hl, h => by
    show mxL q (bif decide (r < x) then x else r) ≤ 2
    refine mx_le q _ (fun y hy => hl y (List.mem_cons_of_mem _ hy)) ?_
    cases decide (r < x)
    · exact h
    · exact hl x (List.mem_cons_self ..)
theorem con_rg {s : CD} {xs ac : List Int} (h : okL xs = true) (hd : dkB s = true) (he : conE s xs ac = 0) :
    conI s xs ac = q0 ∨ (0 < (conI s xs ac).a ∧ (conI s xs ac).a ≤ 7 ∧ (conI s xs ac).b ≤ 4 ∧ (conI s xs ac).c ≤ 2 ∧ 0 ≤ (conI s xs ac).d ∧ (conI s xs ac).d ≤ 3) := by
  have hr : rgtI s xs ac = true := by
    unfold conE opI at he
    cases hr : rgtI s xs ac with
    | true => rfl
    | false => rw [hr] at he; cases he
  obtain ⟨hd0, hl4, _, g, _⟩ := rgt_gc h hd hr
  unfold conI
  rw [decide_eq_true he, cond_true]
  unfold conQ
  cases hb : hasB xs with
  | false => exact .inl rfl
  | true =>
    obtain ⟨k, h1, h2, h3, h4⟩ := lastN_some _ hb
    have hk : lastI xs = (k : Int) := h2
    have hbid := (lbI_range xs).1 hb
    have e1 := lbI_get hb
    rw [hk] at e1
    obtain ⟨j, hj, hjz⟩ := fdB_hit xs (dnZ (lbI xs)) k h3 (by rw [← e1]; rfl) (k + 1) (k % 2) (by omega) (by omega) (by omega)
    rw [hk, Int.toNat_natCast, cond_true, hj]
    have hlv := lv_pos hbid
    refine .inr ⟨?_, ?_, (dnz_rg _).2, mx_le _ _ (fun x hx => ?_) (show (0 : Int) ≤ 2 by omega), ?_⟩
    · show 0 < lvZ (lbI xs)
      unfold lvZ; rw [hbid, cond_true]; omega
    · show lvZ (lbI xs) ≤ 7
      unfold lvZ; rw [hbid, cond_true]; omega
    · obtain ⟨i, hi, hix⟩ := List.getElem_of_mem hx
      rw [List.getElem_drop] at hix
      rw [List.length_drop] at hi
      have hb2 := h4 (k + 1 + i) (by omega) (by omega)
      have hg : xs.getD (k + 1 + i) 0 = x := by rw [List.getD_eq_getElem?_getD, List.getElem?_eq_getElem (by omega)]; exact hix
      have hm : x ∈ xs := by rw [← hix]; exact List.getElem_mem _
      have := g.k x hm
      rw [hg] at hb2
      unfold isBid at hb2
      simp only [Bool.and_eq_false_iff, decide_eq_false_iff_not] at hb2
      omega
    · show 0 ≤ mkI s.d (j : Int) ∧ mkI s.d (j : Int) ≤ 3
      rw [mk_is hd0 (by omega)]; omega
theorem f84 (n1 n2 : Bool) {s : CD} {xs ac : List Int} (h : okL xs = true) (hc : lenOk ac = true) (hd : dkB s = true) : FnOK Try.prog 84 [.agg (s.vs (.gs 0) (.gs 1))] (crsH n1 n2 xs ac) (.tuple [.int .u8 (leadV s xs ac), .int .i64 (leadE s xs ac)]) (crsH n1 n2 xs ac ++ []) := by
  refine crs_fn (orcDo_ok (dom := d84) h84_ok) noLoops_ok Try.func84 rfl ((e84 nW conI conE s xs ac).trans ?_) n1 n2
  have hC : nW.Z.H.C s xs ac = true := by unfold NH.C; rw [show nW.Z.H.R.OK xs = true from h, show nW.Z.H.CK ac = true from hc, show nW.Z.H.DK s = true from hd]; rfl
  rw [hC]
  unfold leadV leadE ldF
  by_cases he : conE s xs ac = 0
  · rw [decide_eq_true he]
    simp only [Bool.not_true, cond_false, cond_true]
    show _ = some (V.tuple [.int .u8 (bif decide (ldE _ _ _ _ = 0) then s.f.at (ldV _ _ _ _).toNat else 0), .int .i64 (ldE _ _ _ _)])
    rcases con_rg (ac := ac) h hd he with hq | ⟨a1, a2, b1, c1, d1, d2⟩
    · rw [hq]; rfl
    · have hn : ldN (conI s xs ac).a (conI s xs ac).b (conI s xs ac).c (conI s xs ac).d = false := by
        unfold ldN
        rw [decide_eq_false (by omega), decide_eq_false (by omega), decide_eq_false (by omega), decide_eq_false (by omega)]; rfl
      unfold ldE ldV
      rw [hn, decide_eq_false (show ¬ (conI s xs ac).a = 0 by omega), wr_u8_id (by omega)]
      simp only [cond_false, Bool.or_self, decide_true, cond_true]
      have hi : 0 ≤ ((conI s xs ac).d + 1).tmod 4 ∧ ((conI s xs ac).d + 1).tmod 4 ≤ 3 := by rw [Int.tmod_eq_emod_of_nonneg (by omega)]; omega
      generalize ((conI s xs ac).d + 1).tmod 4 = i at *
      unfold ldC ldF
      have : i = 0 ∨ i = 1 ∨ i = 2 ∨ i = 3 := by omega
      rcases this with rfl | rfl | rfl | rfl <;> rfl
  · rw [decide_eq_false he]
    simp only [Bool.not_false, cond_true]
    rw [decide_eq_false he]; rfl
end Go.Proofs.Ytojlmpcbplepcaa
