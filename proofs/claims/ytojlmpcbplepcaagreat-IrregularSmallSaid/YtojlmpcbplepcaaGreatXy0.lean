/- Texts merged: Xy0, Xy. -/
import Derived.Test.YtojlmpcbplepcaaGreatXv0
import Derived.Test.YtojlmpcbplepcaaGreatCt2
/- Chapter 10: the reference's Contract: its two loops. -/
namespace Go.Proofs.YtojlmpcbplepcaaGreat
open Go Go.Eng
def d83 : FuncId → Bool := domG fun f => Nat.beq f 13 || Nat.beq f 56
def h83 (N : NW) : HTab := hTG N.Z.H.R (addH 13 (g81 N.Z.H) (addH 56 (g99 N.Z.H) emptyH))
theorem h83_ok : HTabOk Tryz.prog (h83 nW) := hTG_ok (addH_ok g81_ok (addH_ok g99_ok emptyH_ok))
noncomputable def ra83 : Code := loopOf 12 Tryz.f21
noncomputable def rb83 : Code := loopOf 17 Tryz.f21
def rcBk : List TB := [.rs false 1 (.ints .u8), .rs false 1 (.ints .i64), .own 35 (.vs (crsT (.gs 0) (.gs 1))), .own 56 (.vs ct4), .own 56 (.vs ct4)]
def raT : Tm := ⟨mkS [(1, .ptr 2 0), (2, .ptr 3 0), (6, .int .i64), (8, .int .u8), (10, .ptr 4 0), (11, .int .i64)] 0 106, rcBk, []⟩
def raX : Tm := ⟨mkS [(1, .ptr 2 0), (2, .ptr 3 0), (6, .int .i64), (8, .int .u8), (10, .ptr 4 0)] 0 106, rcBk, []⟩
def rbT : Tm := ⟨mkS [(1, .ptr 2 0), (2, .ptr 3 0), (6, .int .i64), (8, .int .u8), (10, .ptr 4 0), (12, .int .i64)] 0 106, rcBk, []⟩
def rbX : Tm := ⟨mkS [(2, .ptr 3 0), (10, .ptr 4 0)] 0 106, rcBk, []⟩
def raIn (z dn i : Int) (xs ac : List Int) (s : CD) (t f : Q4) : List PV := .i z :: .i dn :: .i i :: .l xs :: .l ac :: s.pv (q4p t (q4p f []))
theorem ra_round (N : NW) (rd : Option Nat) (z dn i : Int) (xs ac : List Int) (s : CD) (t f : Q4) : roundX Tryz.prog (orcDo N d83 (h83 N)) noLoops 100 2 rd 21 ra83 raT raT (fun _ => raX) (raIn z dn i xs ac s t f) =
    bif decide (i < Int.ofNat xs.length) then atU xs i (fun x => bif decide (f.c < x) then atU xs i (fun v => some (.normal, raIn z dn (wr .i64 (i + 1)) xs ac s t { f with c := v }, [])) else some (.normal, raIn z dn (wr .i64 (i + 1)) xs ac s t f, [])) else some (.exit 0, caOut z dn xs ac s t f, []) := by kernel_rfl
theorem rb_round (N : NW) (rd : Option Nat) (z dn i : Int) (xs ac : List Int) (s : CD) (t f : Q4) : roundX Tryz.prog (orcDo N d83 (h83 N)) noLoops 100 2 rd 21 rb83 rbT rbT (fun _ => rbX) (raIn z dn i xs ac s t f) =
    bif decide (0 ≤ i) then atU xs i (fun x => bif N.BY x then bif N.Z.H.R.IB x then bif decide (N.DN x = dn) then bif decide ((wr .i64 (z - i)).tmod 2 = 0) then some (.normal, raIn z dn (wr .i64 (i - 1)) xs ac s t { f with d := N.Z.H.MK s.d i }, []) else some (.normal, raIn z dn (wr .i64 (i - 1)) xs ac s t f, [])
      else some (.normal, raIn z dn (wr .i64 (i - 1)) xs ac s t f, []) else some (.normal, raIn z dn (wr .i64 (i - 1)) xs ac s t f, []) else none) else some (.exit 2, cbOut xs ac s t f, []) := by kernel_rfl
end Go.Proofs.YtojlmpcbplepcaaGreat

/- Chapter 10: the reference's Contract: its loops as wholes. -/
namespace Go.Proofs.YtojlmpcbplepcaaGreat
open Go Go.Eng
theorem atU_g {α : Type} {l : List Int} {i : Nat} (h : i < l.length) {K : Int → Option α} : atU l (i : Int) K = K (l.getD i 0) := by rw [atU_at h, getD_el h]
theorem ra_loop (rd : Option Nat) (z dn : Int) (xs ac : List Int) (s : CD) (t f : Q4) (hs : xs.length ≤ 100000) : ∀ x : Nat × Int, x.1 ≤ xs.length →
    ∃ m, SimL Tryz.prog 2 rd ra83 m (raT.at (raIn z dn (x.1 : Int) xs ac s t { f with c := x.2 })) (.exit 0) (raX.at (caOut z dn xs ac s t { f with c := mxL (xs.drop x.1) x.2 })) := by
  refine loop_of_roundsX_n (C := orcDo nW d83 (h83 nW)) (L := noLoops) (N := 100) (me := 21) (T := raT) (T' := fun _ => raX) (orcDo_ok h83_ok) mixed noLoops_ok (by kernel_rfl) (fun _ => by kernel_rfl) (X := Nat × Int)
    (fun x => raIn z dn (x.1 : Int) xs ac s t { f with c := x.2 }) (fun x => x.1 ≤ xs.length) (fun x => xs.length - x.1) (fun x => (.exit 0, caOut z dn xs ac s t { f with c := mxL (xs.drop x.1) x.2 })) ?_
  rintro ⟨i, r⟩ hi
  dsimp only at hi ⊢
  have key := ra_round nW rd z dn (i : Int) xs ac s t { f with c := r }
  have z1 : Int.ofNat xs.length = (xs.length : Int) := rfl
  rcases Nat.lt_or_ge i xs.length with hlt | hge
  · rw [z1, decide_eq_true (show (i : Int) < (xs.length : Int) by omega), cond_true, atU_g hlt, atU_g hlt, wr64 (n := (i : Int) + 1) (by omega) (by omega)] at key
    have hg : xs.getD i 0 = xs[i] := by rw [List.getD_eq_getElem?_getD, List.getElem?_eq_getElem hlt]; rfl
    rw [List.drop_eq_getElem_cons hlt, ← hg]
    have hm : mxL (xs.getD i 0 :: xs.drop (i + 1)) r = mxL (xs.drop (i + 1)) (bif decide (r < xs.getD i 0) then xs.getD i 0 else r) := rfl
    rw [hm]
    cases hd : decide (r < xs.getD i 0) with
    | true => rw [hd] at key; exact ⟨_, _, _, key, codesNil, .inl ⟨rfl, (i + 1, xs.getD i 0), rfl, by dsimp only; omega, by dsimp only; omega, rfl⟩⟩
    | false => rw [hd] at key; exact ⟨_, _, _, key, codesNil, .inl ⟨rfl, (i + 1, r), rfl, by dsimp only; omega, by dsimp only; omega, rfl⟩⟩
  · rw [z1, decide_eq_false (show ¬ (i : Int) < (xs.length : Int) by omega), cond_false] at key
    refine ⟨_, _, _, key, codesNil, .inr ⟨by simp, ?_⟩⟩
    rw [List.drop_eq_nil_of_le (by omega)]; rfl
def rdP (xs : List Int) (dn z : Int) (n : Nat) : Bool := isBid (xs.getD n 0) && (decide (dnZ (xs.getD n 0) = dn) && decide ((wr .i64 (z - n)).tmod 2 = 0))
def rdB (xs : List Int) (dn z : Int) : Nat → Option Nat
  | 0 => none
  | n + 1 => match rdB xs dn z n with
    | some j => some j
    | none => bif rdP xs dn z n then some n else none
theorem rd_step (xs : List Int) (dn z d : Int) (f : Q4) (n : Nat) : fdQ d f (rdB xs dn z (n + 1)) = fdQ d (bif rdP xs dn z n then { f with d := mkI d n } else f) (rdB xs dn z n) := by
  rw [show rdB xs dn z (n + 1) = (match rdB xs dn z n with | some j => some j | none => bif rdP xs dn z n then some n else none) from rfl]
  cases rdB xs dn z n with
  | some j => cases rdP xs dn z n <;> rfl
  | none => cases rdP xs dn z n <;> rfl
theorem rb_loop (rd : Option Nat) (z dn : Int) (xs ac : List Int) (s : CD) (t : Q4) (h : okL xs = true) : ∀ x : Nat × Q4, x.1 ≤ xs.length →
    ∃ m, SimL Tryz.prog 2 rd rb83 m (rbT.at (raIn z dn ((x.1 : Int) - 1) xs ac s t x.2)) (.exit 2) (rbX.at (cbOut xs ac s t (fdQ s.d x.2 (rdB xs dn z x.1)))) := by
  obtain ⟨hs, hu⟩ := okL_iff.1 h
  refine loop_of_roundsX_n (C := orcDo nW d83 (h83 nW)) (L := noLoops) (N := 100) (me := 21) (T := rbT) (T' := fun _ => rbX) (orcDo_ok h83_ok) mixed noLoops_ok (by kernel_rfl) (fun _ => by kernel_rfl) (X := Nat × Q4)
    (fun x => raIn z dn ((x.1 : Int) - 1) xs ac s t x.2) (fun x => x.1 ≤ xs.length) (fun x => x.1) (fun x => (.exit 2, cbOut xs ac s t (fdQ s.d x.2 (rdB xs dn z x.1)))) ?_
  rintro ⟨n, f⟩ hi
  dsimp only at hi ⊢
  have key := rb_round nW rd z dn ((n : Int) - 1) xs ac s t f
  cases n with
  | zero =>
    rw [decide_eq_false (show ¬ 0 ≤ ((0 : Nat) : Int) - 1 by omega), cond_false] at key
    exact ⟨_, _, _, key, codesNil, .inr ⟨by simp, rfl⟩⟩
  | succ n =>
    have e1 : ((n + 1 : Nat) : Int) - 1 = (n : Int) := by omega
    have hby : byB (xs.getD n 0) = true := by
      have := allU_iff.1 hu (xs.getD n 0) (getD_mem (by omega))
      exact decide_eq_true this
    rw [e1] at key ⊢
    rw [decide_eq_true (show 0 ≤ (n : Int) by omega), cond_true, atU_g (by omega), wr64 (n := (n : Int) - 1) (by omega) (by omega), show nW.BY (xs.getD n 0) = true from hby, cond_true, show nW.Z.H.R.IB = isBid from rfl, show nW.DN = dnZ from rfl, show nW.Z.H.MK = mkI from rfl] at key
    rw [rd_step]
    unfold rdP
    cases h1 : isBid (xs.getD n 0) with
    | false => rw [h1] at key; exact ⟨_, _, _, key, codesNil, .inl ⟨rfl, (n, f), rfl, by dsimp only; omega, by dsimp only; omega, rfl⟩⟩
    | true =>
      cases h2 : decide (dnZ (xs.getD n 0) = dn) with
      | false => rw [h1, h2] at key; exact ⟨_, _, _, key, codesNil, .inl ⟨rfl, (n, f), rfl, by dsimp only; omega, by dsimp only; omega, rfl⟩⟩
      | true =>
        cases h3 : decide ((wr .i64 (z - (n : Int))).tmod 2 = 0) with
        | false => rw [h1, h2, h3] at key; exact ⟨_, _, _, key, codesNil, .inl ⟨rfl, (n, f), rfl, by dsimp only; omega, by dsimp only; omega, rfl⟩⟩
        | true => rw [h1, h2, h3] at key; exact ⟨_, _, _, key, codesNil, .inl ⟨rfl, (n, { f with d := mkI s.d n }), rfl, by dsimp only; omega, by dsimp only; omega, rfl⟩⟩
structure NCt where
  MX : List Int → Int → Int
  RD : List Int → Int → Int → Int → Q4 → Q4
def nCt : NCt := ⟨fun xs i => mxL (xs.drop i.toNat) 0, fun xs dn z d f => fdQ d f (rdB xs dn z xs.length)⟩
noncomputable def tRa (X : NCt) : List PV → Fin
  | .i z :: .i dn :: .i i :: .l xs :: .l ac :: ps => match crsP ps with
    | some (s, [.i t0, .i t1, .i t2, .i t3, .i f0, .i f1, .i f2, .i f3]) => .br (pB (f2 = 0 ∧ 0 ≤ i ∧ i ≤ xs.length ∧ xs.length ≤ 100000)) (.leaf (.exit 0) (raX.at (caOut z dn xs ac s ⟨t0, t1, t2, t3⟩ ⟨f0, f1, X.MX xs i, f3⟩))) .no
    | _ => .no
  | _ => .no
noncomputable def tRb (X : NCt) : List PV → Fin
  | .i z :: .i dn :: .i i :: .l xs :: .l ac :: ps => match crsP ps with
    | some (s, [.i t0, .i t1, .i t2, .i t3, .i f0, .i f1, .i f2, .i f3]) => .br (pB (i = wr .i64 (Int.ofNat xs.length - 1) ∧ okL xs = true)) (.leaf (.exit 2) (rbX.at (cbOut xs ac s ⟨t0, t1, t2, t3⟩ (X.RD xs dn z s.d ⟨f0, f1, f2, f3⟩)))) .no
    | _ => .no
  | _ => .no
noncomputable def L83 (X : NCt) : Loops := sums (fun n => match n with | 12 => some (lsumD 2 raT ra83 (tRa X) noSum) | 17 => some (lsumD 2 rbT rb83 (tRb X) noSum) | _ => none)
theorem L83_ok : loopsOk Tryz.prog (L83 nCt) := by
  intro n g hg
  simp only [L83, sums] at hg
  split at hg
  · cases hg
    refine lsumD_ok (by kernel_rfl) (fun rd ps e st h => ?_) noSum_ok
    unfold tRa at h
    split at h
    · rename_i z dn i xs ac ps
      split at h
      · rename_i s t0 t1 t2 t3 f0 f1 f2 f3 hs
        rw [crsP_ok hs]
        obtain ⟨⟨rfl, h1, h2, h3⟩, rfl, rfl⟩ := pick1 h
        obtain ⟨k, rfl⟩ : ∃ k : Nat, i = k := ⟨i.toNat, by omega⟩
        obtain ⟨m, hm⟩ := ra_loop rd z dn xs ac s ⟨t0, t1, t2, t3⟩ ⟨f0, f1, 0, f3⟩ h3 (k, 0) (by dsimp only; omega)
        exact hm.loop
      · cases h
    · cases h
  · cases hg
    refine lsumD_ok (by kernel_rfl) (fun rd ps e st h => ?_) noSum_ok
    unfold tRb at h
    split at h
    · rename_i z dn i xs ac ps
      split at h
      · rename_i s t0 t1 t2 t3 f0 f1 f2 f3 hs
        rw [crsP_ok hs]
        obtain ⟨⟨rfl, h1⟩, rfl, rfl⟩ := pick1 h
        have hl := okL_len h1
        have e : wr .i64 (Int.ofNat xs.length - 1) = (xs.length : Int) - 1 := wrL hl
        rw [e]
        obtain ⟨m, hm⟩ := rb_loop rd z dn xs ac s ⟨t0, t1, t2, t3⟩ h1 (xs.length, ⟨f0, f1, f2, f3⟩) (Nat.le_refl _)
        exact hm.loop
      · cases h
    · cases h
  · cases hg
noncomputable def all83 (N : NW) (X : NCt) (s : CD) (xs ac : List Int) : Option V := bif N.Z.H.C s xs ac then bif !decide (N.Z.H.OE s xs ac = 0) then some (cnV q0 (N.Z.H.OE s xs ac)) else bif !N.Z.H.OB s xs ac then some (cnV q0 102) else
  bif N.Z.H.R.OK xs then bif decide (N.Z.H.R.LB xs < 0) then some (cnV q0 0) else atU xs (N.Z.H.R.LB xs) (fun v => bif N.BY v then
    cond (codesB [(ra83, ra83)]) (bif pB ((0 : Int) = 0 ∧ 0 ≤ wr .i64 (N.Z.H.R.LB xs + 1) ∧ wr .i64 (N.Z.H.R.LB xs + 1) ≤ xs.length ∧ xs.length ≤ 100000) then
      cond (codesB [(rb83, rb83)]) (bif pB (wr .i64 (Int.ofNat xs.length - 1) = wr .i64 (Int.ofNat xs.length - 1) ∧ okL xs = true) then some (cnV (X.RD xs (N.DN v) (N.Z.H.R.LB xs) s.d ⟨N.LZ v, N.DN v, X.MX xs (wr .i64 (N.Z.H.R.LB xs + 1)), 0⟩) 0) else none) none else none) none else none) else none else none
theorem e83 (N : NW) (X : NCt) (s : CD) (xs ac : List Int) : evalFn Tryz.prog (orcDo N d83 (h83 N)) (L83 X) 100 21 Tryz.f21 [.agg (s.vs (.gs 0) (.gs 1))] (crsH false false xs ac) (fun v _ => some v) = all83 N X s xs ac := by kernel_rfl
end Go.Proofs.YtojlmpcbplepcaaGreat
