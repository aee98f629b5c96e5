/- Texts merged: Crs, Ri, Ri2, Ri3, Ch. -/
import Derived.Test.YtojlmpcbplepcaaHist
/- Chapter 10: courses. -/
namespace Go.Proofs.Ytojlmpcbplepcaa
open Go Go.Eng
structure Q4 where
  a : Int
  b : Int
  c : Int
  d : Int
structure CD where
  d : Int
  p : Q4
  a : Q4
  h : Int
  f : Q4
def Q4.vs (k : IntKind) (q : Q4) (r : List V) : List V := .int k q.a :: .int k q.b :: .int k q.c :: .int k q.d :: r
def CD.vs (s : CD) (x y : V) : List V := .int .u8 s.d :: x :: y :: s.p.vs .i64 (s.a.vs .u8 (.int .u8 s.h :: s.f.vs .u8 []))
def Q4.pv (q : Q4) (r : List PV) : List PV := .i q.a :: .i q.b :: .i q.c :: .i q.d :: r
def CD.pv (s : CD) (r : List PV) : List PV := .i s.d :: s.p.pv (s.a.pv (.i s.h :: s.f.pv r))
def Q4.tv (k : IntKind) (r : List TV) : List TV := .int k :: .int k :: .int k :: .int k :: r
def crsT (x y : TV) : List TV := .int .u8 :: x :: y :: Q4.tv .i64 (Q4.tv .u8 (.int .u8 :: Q4.tv .u8 []))
def Q4.at (q : Q4) : Nat → Int
  | 0 => q.a | 1 => q.b | 2 => q.c | _ => q.d
def Q4.set (q : Q4) (v : Int) : Nat → Q4
  | 0 => { q with a := v } | 1 => { q with b := v } | 2 => { q with c := v } | _ => { q with d := v }
def ofCrs : List V → Option (CD × V × V)
  | [.int .u8 d, x, y, .int .i64 p0, .int .i64 p1, .int .i64 p2, .int .i64 p3, .int .u8 a0, .int .u8 a1, .int .u8 a2, .int .u8 a3, .int .u8 h, .int .u8 f0, .int .u8 f1, .int .u8 f2, .int .u8 f3] => some (⟨d, ⟨p0, p1, p2, p3⟩, ⟨a0, a1, a2, a3⟩, h, ⟨f0, f1, f2, f3⟩⟩, x, y)
  | _ => none
theorem ofCrs_ok {l : List V} {s : CD} {x y : V} (h : ofCrs l = some (s, x, y)) : l = s.vs x y := by
  unfold ofCrs at h
  split at h
  · cases h; rfl
  · cases h
structure NJ where
  OK : List Int → Bool
  OV : Int → List Int → Bool
  FR : Int → List Int → Int → Bool
  LW : List Int → Int → Bool
  PS : List Int → Bool
  BY : Int → Bool
def byB (x : Int) : Bool := decide (0 ≤ x ∧ x < 256)
def nJ : NJ := ⟨okL, ovI, frI, lwI, psI, byB⟩
def jOver (N : NJ) : List V → List Blk → Option (Bool × V × List Blk)
  | [.int .u8 d, .gs 0], [.rs _ 1 (.ints .u8 xs)] => some (N.OK xs, .bool (N.OV d xs), [])
  | _, _ => none
def jFree (N : NJ) : List V → List Blk → Option (Bool × V × List Blk)
  | [.int .u8 d, .gs 0, .int .u8 x], [.rs _ 1 (.ints .u8 xs)] => some (N.OK xs && N.BY x, .bool (N.FR d xs x), [])
  | _, _ => none
def jLow (N : NJ) : List V → List Blk → Option (Bool × V × List Blk)
  | [.gs 0, .int .u8 x], [.rs _ 1 (.ints .u8 xs)] => some (N.OK xs, .bool (N.LW xs x), [])
  | _, _ => none
def jPassed (N : NJ) : List V → List Blk → Option (Bool × V × List Blk)
  | [.gs 0], [.rs _ 1 (.ints .u8 xs)] => some (N.OK xs, .bool (N.PS xs), [])
  | _, _ => none
def hTabJ (N : NJ) (T : HTab) : HTab := addH 36 (jOver N) (addH 40 (jFree N) (addH 39 (jLow N) (addH 49 (jPassed N) T)))
theorem hTabJ_ok {T : HTab} (hT : HTabOk Try.prog T) : HTabOk Try.prog (hTabJ nJ T) := by
  refine addH_ok ?_ (addH_ok ?_ (addH_ok ?_ (addH_ok ?_ hT)))
  · intro args h c v nb hq hc
    unfold jOver at hq
    split at hq
    · cases hq; exact ⟨.of Try.func36 (by kernel_rfl), by rw [List.append_nil]; exact over36_fn _ hc⟩
    · cases hq
  · intro args h c v nb hq hc
    unfold jFree at hq
    split at hq
    · cases hq
      simp only [Bool.and_eq_true] at hc
      exact ⟨.of Try.func40 (by kernel_rfl), by rw [List.append_nil]; exact free40_fn _ hc.1 (of_decide_eq_true hc.2)⟩
    · cases hq
  · intro args h c v nb hq hc
    unfold jLow at hq
    split at hq
    · cases hq; exact ⟨.of Try.func39 (by kernel_rfl), by rw [List.append_nil]; exact low39_fn _ hc⟩
    · cases hq
  · intro args h c v nb hq hc
    unfold jPassed at hq
    split at hq
    · cases hq; exact ⟨.of Try.func49 (by kernel_rfl), by rw [List.append_nil]; exact passed49_fn _ hc⟩
    · cases hq
def domJ : FuncId → Bool := fun f => Nat.beq f 36 || (Nat.beq f 40 || (Nat.beq f 39 || Nat.beq f 49))
def nrC : FuncId → Nat → Option Row := fun _ n => match n with
  | 1 => some (.ints .i64 [])
  | _ => some (.ints .u8 [])
noncomputable abbrev orcJ (N : NJ) (T : PTab) (LL : FuncId → Loops) : Oracle := inl Try.prog ftab T LL 100 never domJ (hOrcX nrC (hTabJ N emptyH)) 20
theorem orcJ_ok {T : PTab} (hT : PTabOk Try.prog T) {LL : FuncId → Loops} (hL : ∀ f, loopsOk Try.prog (LL f)) : OracleOk Try.prog (orcJ nJ T LL) := inl_ok (hOrcX_ok (hTabJ_ok emptyH_ok)) ftab_ok hT hL mixed 20
def crsH (n1 n2 : Bool) (xs ac : List Int) : List Blk := [.rs n1 1 (.ints .u8 xs), .rs n2 1 (.ints .i64 ac)]
theorem crs_ro {n1 n2 : Bool} {xs ac : List Int} : ∀ (b : Nat) blk, (crsH n1 n2 xs ac)[b]? = some blk → blk.mine = false := by
  intro b blk hb
  match b, hb with
  | 0, hb => cases hb; rfl
  | 1, hb => cases hb; rfl
  | _ + 2, hb => simp [crsH] at hb
noncomputable def riLp : Code := loopOf 11 Try.f17
def riT (n1 n2 : Bool) : Tm := ⟨mkS [(1, .ptr 2 0), (2, .bool), (4, .int .i64), (54, .gs 0), (55, .int .i64), (56, .int .i64)] 0 121, [.rs n1 1 (.ints .u8), .rs n2 1 (.ints .i64), .own 29 (.vs (crsT (.gs 0) (.gs 1)))], []⟩
def riX (n1 n2 : Bool) : Tm := ⟨mkS [(1, .ptr 2 0), (2, .bool), (4, .int .i64)] 0 121, [.rs n1 1 (.ints .u8), .rs n2 1 (.ints .i64), .own 29 (.vs (crsT (.gs 0) (.gs 1)))], []⟩
end Go.Proofs.Ytojlmpcbplepcaa

/- Chapter 10: Right: its loop. -/
namespace Go.Proofs.Ytojlmpcbplepcaa
open Go Go.Eng
def riOut (r : Bool) (m : Int) (xs ac : List Int) (s : CD) : List PV := .b r :: .i m :: .l xs :: .l ac :: s.pv []
def riIn (r : Bool) (m n i : Int) (xs ac : List Int) (s : CD) : List PV := .b r :: .i m :: .i n :: .i i :: .l xs :: .l ac :: s.pv []
abbrev RR := Option (XE × List PV × List (Code × Code))
noncomputable def riE (N : NJ) (d i c : Int) (xs : List Int) (acc : Bool) (F A B : RR) : RR :=
  bif decide (0 + (i.toNat - 0) ≤ xs.length) then bif N.OK (List.take (i.toNat - 0) xs) then bif N.OV d (List.take (i.toNat - 0) xs) then F else
    bif decide (0 + (i.toNat - 0) ≤ xs.length) then bif N.OK (List.take (i.toNat - 0) xs) then bif !(bif N.LW (List.take (i.toNat - 0) xs) c then acc else !acc) then F else bif acc then A else
      bif decide (0 + (i.toNat - 0) ≤ xs.length) then bif N.OK (List.take (i.toNat - 0) xs) && N.BY c then bif !N.FR d (List.take (i.toNat - 0) xs) c then F else B else none else none else none else none else none else none
theorem ri_round (N : NJ) (n1 n2 : Bool) (rd : Option Nat) (r : Bool) (m n i : Int) (xs ac : List Int) (s : CD) : roundT Try.prog (orcJ N emptyTab plainL) noLoops 100 2 rd 17 riLp (riT n1 n2) (riX n1 n2) (riIn r m n i xs ac s) =
    bif decide (i < n) then bif decide (0 ≤ i ∧ i < Int.ofNat xs.length) then atN xs i.toNat fun c => bif decide ((0 : Int) ≤ 0 ∧ 0 ≤ i ∧ i ≤ Int.ofNat xs.length) then
      bif decide (m < Int.ofNat ac.length) then bif decide (0 ≤ m ∧ m < Int.ofNat ac.length) then atN ac m.toNat fun v =>
        riE N s.d i c xs (decide (v = i)) (some (.ret, riOut false m xs ac s, [])) (some (.normal, riIn r (wr .i64 (m + 1)) n (wr .i64 (i + 1)) xs ac s, [])) (some (.normal, riIn r m n (wr .i64 (i + 1)) xs ac s, [])) else none else
        riE N s.d i c xs false (some (.ret, riOut false m xs ac s, [])) (some (.normal, riIn r (wr .i64 (m + 1)) n (wr .i64 (i + 1)) xs ac s, [])) (some (.normal, riIn r m n (wr .i64 (i + 1)) xs ac s, [])) else none else none else
      some (.exit 2, riOut r m xs ac s, []) := by cases n1 <;> cases n2 <;> kernel_rfl
def rtF (d : Int) (xs ac : List Int) : List Int → Nat → Nat → Bool × Nat
  | [], _, m => (true, m)
  | c :: r, i, m => bif ovI d (xs.take i) then (false, m) else
    bif decide (m < ac.length) && decide (ac.getD m 0 = (i : Int)) then (bif lwI (xs.take i) c then rtF d xs ac r (i + 1) (m + 1) else (false, m)) else
      bif lwI (xs.take i) c then (false, m) else bif frI d (xs.take i) c then rtF d xs ac r (i + 1) m else (false, m)
theorem okL_take {xs : List Int} (h : okL xs = true) (n : Nat) : okL (xs.take n) = true := by
  obtain ⟨h1, h2⟩ := okL_iff.1 h
  refine okL_iff.2 ⟨by rw [List.length_take]; omega, ?_⟩
  rw [allU_iff] at h2 ⊢
  exact fun x hx => h2 x (List.mem_of_mem_take hx)
theorem byB_of {xs : List Int} (h : okL xs = true) {i : Nat} (hi : i < xs.length) : byB (xs.getD i 0) = true := by
  have := allU_get (okL_iff.1 h).2 hi
  rw [List.getD_eq_getElem?_getD, List.getElem?_eq_getElem hi]
  exact decide_eq_true this
theorem riE_is {d c : Int} {i : Nat} {xs : List Int} {acc : Bool} {F A B : RR} (h : okL xs = true) (hi : i < xs.length) (hc : byB c = true) :
    riE nJ d i c xs acc F A B = bif ovI d (xs.take i) then F else bif acc then (bif lwI (xs.take i) c then A else F) else bif lwI (xs.take i) c then F else bif frI d (xs.take i) c then B else F := by
  unfold riE
  rw [show ((i : Nat) : Int).toNat - 0 = i by omega, decide_eq_true (show 0 + i ≤ xs.length by omega), show nJ.OK (xs.take i) = true from okL_take h i, show nJ.BY c = true from hc]
  show (bif ovI d (xs.take i) then F else bif !(bif lwI (xs.take i) c then acc else !acc) then F else bif acc then A else bif !frI d (xs.take i) c then F else B) = _
  cases ovI d (xs.take i) <;> cases acc <;> cases lwI (xs.take i) c <;> cases frI d (xs.take i) c <;> rfl
def riFin (xs ac : List Int) (s : CD) (q : Bool × Nat) : XE × List PV := (bif q.1 then .exit 2 else .ret, riOut false q.2 xs ac s)
theorem ri_loop (n1 n2 : Bool) (rd : Option Nat) (xs ac : List Int) (s : CD) (h : okL xs = true) : ∀ x : Nat × Nat, (x.1 ≤ xs.length ∧ x.2 ≤ x.1) →
    SimC Try.prog 2 rd (.loop riLp) ((riT n1 n2).at (riIn false x.2 (xs.length : Int) x.1 xs ac s)) (riFin xs ac s (rtF s.d xs ac (xs.drop x.1) x.1 x.2)).1 ((riX n1 n2).at (riFin xs ac s (rtF s.d xs ac (xs.drop x.1) x.1 x.2)).2) := by
  refine loop_of_rounds (C := orcJ nJ emptyTab plainL) (L := noLoops) (N := 100) (me := 17) (T := riT n1 n2) (T' := riX n1 n2) (orcJ_ok emptyTab_ok plainL_ok) mixed noLoops_ok (by cases n1 <;> cases n2 <;> kernel_rfl) (by cases n1 <;> cases n2 <;> kernel_rfl) (X := Nat × Nat)
    (fun x => riIn false x.2 (xs.length : Int) x.1 xs ac s) (fun x => x.1 ≤ xs.length ∧ x.2 ≤ x.1) (fun x => xs.length - x.1) (fun x => riFin xs ac s (rtF s.d xs ac (xs.drop x.1) x.1 x.2)) ?_
  rintro ⟨i, m⟩ ⟨hi, hm⟩
  dsimp only at hi hm ⊢
  have hl := (okL_iff.1 h).1
  have key := ri_round nJ n1 n2 rd false (m : Int) (xs.length : Int) (i : Int) xs ac s
  have z1 : Int.ofNat xs.length = (xs.length : Int) := rfl
  have z2 : Int.ofNat ac.length = (ac.length : Int) := rfl
  rcases Nat.lt_or_ge i xs.length with hlt | hge
  · have hg : xs.getD i 0 = xs[i] := by rw [List.getD_eq_getElem?_getD, List.getElem?_eq_getElem hlt]; rfl
    rw [z1, z2, decide_eq_true (show (i : Int) < (xs.length : Int) by omega), cond_true, decide_eq_true (show 0 ≤ (i : Int) ∧ (i : Int) < (xs.length : Int) by omega), cond_true, show ((i : Int)).toNat = i from rfl, atN_get hlt,
      decide_eq_true (show (0 : Int) ≤ 0 ∧ 0 ≤ (i : Int) ∧ (i : Int) ≤ (xs.length : Int) by omega), cond_true, wr64 (n := (m : Int) + 1) (by omega) (by omega), wr64 (n := (i : Int) + 1) (by omega) (by omega),
      riE_is h hlt (byB_of h hlt), show ((m : Int)).toNat = m from rfl] at key
    rw [List.drop_eq_getElem_cons hlt, ← hg]
    have fin : ∀ acc : Bool, acc = (decide (m < ac.length) && decide (ac.getD m 0 = (i : Int))) →
        roundT Try.prog (orcJ nJ emptyTab plainL) noLoops 100 2 rd 17 riLp (riT n1 n2) (riX n1 n2) (riIn false m (xs.length : Int) i xs ac s) = (bif ovI s.d (xs.take i) then some (.ret, riOut false m xs ac s, []) else bif acc then (bif lwI (xs.take i) (xs.getD i 0) then some (.normal, riIn false ((m : Int) + 1) (xs.length : Int) ((i : Int) + 1) xs ac s, []) else some (.ret, riOut false m xs ac s, [])) else bif lwI (xs.take i) (xs.getD i 0) then some (.ret, riOut false m xs ac s, []) else bif frI s.d (xs.take i) (xs.getD i 0) then some (.normal, riIn false m (xs.length : Int) ((i : Int) + 1) xs ac s, []) else some (.ret, riOut false m xs ac s, [])) →
        ∃ e qs l, roundT Try.prog (orcJ nJ emptyTab plainL) noLoops 100 2 rd 17 riLp (riT n1 n2) (riX n1 n2) (riIn false m (xs.length : Int) i xs ac s) = some (e, qs, l) ∧ codesOk l ∧
          ((e = .normal ∧ ∃ y : Nat × Nat, qs = riIn false y.2 (xs.length : Int) y.1 xs ac s ∧ (y.1 ≤ xs.length ∧ y.2 ≤ y.1) ∧ xs.length - y.1 < xs.length - i ∧ riFin xs ac s (rtF s.d xs ac (xs.drop y.1) y.1 y.2) = riFin xs ac s (rtF s.d xs ac (xs.getD i 0 :: xs.drop (i + 1)) i m)) ∨ (e ≠ .normal ∧ (e, qs) = riFin xs ac s (rtF s.d xs ac (xs.getD i 0 :: xs.drop (i + 1)) i m))) := by
      intro acc ha hk
      have step : ∀ m2 : Nat, ((m : Int) + 1 = ((m + 1 : Nat) : Int)) := fun _ => by omega
      have e1 : ((m : Int) + 1) = ((m + 1 : Nat) : Int) := by omega
      have e2 : ((i : Int) + 1) = ((i + 1 : Nat) : Int) := by omega
      rw [e1, e2] at hk
      simp only [rtF]
      rw [← ha]
      cases h1 : ovI s.d (xs.take i) with
      | true => rw [h1, cond_true] at hk; exact ⟨_, _, _, hk, codes0, .inr ⟨by simp, rfl⟩⟩
      | false =>
        rw [h1, cond_false] at hk
        cases h2 : acc with
        | true =>
          rw [h2, cond_true] at hk
          cases h3 : lwI (xs.take i) (xs.getD i 0) with
          | true => rw [h3, cond_true] at hk; exact ⟨_, _, _, hk, codes0, .inl ⟨rfl, (i + 1, m + 1), rfl, ⟨by dsimp only; omega, by dsimp only; omega⟩, by dsimp only; omega, rfl⟩⟩
          | false => rw [h3, cond_false] at hk; exact ⟨_, _, _, hk, codes0, .inr ⟨by simp, rfl⟩⟩
        | false =>
          rw [h2, cond_false] at hk
          cases h3 : lwI (xs.take i) (xs.getD i 0) with
          | true => rw [h3, cond_true] at hk; exact ⟨_, _, _, hk, codes0, .inr ⟨by simp, rfl⟩⟩
          | false =>
            rw [h3, cond_false] at hk
            cases h4 : frI s.d (xs.take i) (xs.getD i 0) with
            | true => rw [h4, cond_true] at hk; exact ⟨_, _, _, hk, codes0, .inl ⟨rfl, (i + 1, m), rfl, ⟨by dsimp only; omega, by dsimp only; omega⟩, by dsimp only; omega, rfl⟩⟩
            | false => rw [h4, cond_false] at hk; exact ⟨_, _, _, hk, codes0, .inr ⟨by simp, rfl⟩⟩
    rcases Nat.lt_or_ge m ac.length with hm2 | hm2
    · rw [decide_eq_true (show (m : Int) < (ac.length : Int) by omega), cond_true, decide_eq_true (show 0 ≤ (m : Int) ∧ (m : Int) < (ac.length : Int) by omega), cond_true, atN_get hm2, riE_is h hlt (byB_of h hlt)] at key
      exact fin (decide (ac.getD m 0 = (i : Int))) (by rw [decide_eq_true hm2, Bool.true_and]) key
    · rw [decide_eq_false (show ¬ (m : Int) < (ac.length : Int) by omega), cond_false] at key
      exact fin false (by rw [decide_eq_false (show ¬ m < ac.length by omega), Bool.false_and]) key
  · rw [decide_eq_false (show ¬ (i : Int) < (xs.length : Int) by omega), cond_false] at key
    refine ⟨_, _, _, key, codes0, .inr ⟨by simp, ?_⟩⟩
    rw [List.drop_eq_nil_of_le (by omega)]; rfl
end Go.Proofs.Ytojlmpcbplepcaa

/- Chapter 10: Right: its loop as a whole. -/
namespace Go.Proofs.Ytojlmpcbplepcaa
open Go Go.Eng
def crsP : List PV → Option (CD × List PV)
  | .i d :: .i p0 :: .i p1 :: .i p2 :: .i p3 :: .i a0 :: .i a1 :: .i a2 :: .i a3 :: .i h :: .i f0 :: .i f1 :: .i f2 :: .i f3 :: r => some (⟨d, ⟨p0, p1, p2, p3⟩, ⟨a0, a1, a2, a3⟩, h, ⟨f0, f1, f2, f3⟩⟩, r)
  | _ => none
theorem crsP_ok {l : List PV} {s : CD} {r : List PV} (h : crsP l = some (s, r)) : l = s.pv r := by
  unfold crsP at h
  split at h
  · cases h; rfl
  · cases h
structure NR where
  RB : Int → List Int → List Int → Bool
  RM : Int → List Int → List Int → Nat
  OK : List Int → Bool
def nR : NR := ⟨fun d xs ac => (rtF d xs ac xs 0 0).1, fun d xs ac => (rtF d xs ac xs 0 0).2, okL⟩
noncomputable def riTree (N : NR) (n1 n2 : Bool) : List PV → Fin
  | .b r :: .i m :: .i n :: .i i :: .l xs :: .l ac :: ps => match crsP ps with
    | some (s, []) => .br (decide (r = false ∧ m = 0 ∧ n = Int.ofNat xs.length ∧ i = 0) && N.OK xs) (.br (N.RB s.d xs ac) (.leaf (.exit 2) ((riX n1 n2).at (riOut false (N.RM s.d xs ac) xs ac s))) (.leaf .ret ((riX n1 n2).at (riOut false (N.RM s.d xs ac) xs ac s)))) .no
    | _ => .no
  | _ => .no
noncomputable def riL (N : NR) (n1 n2 : Bool) : Loops := sums (fun n => match n with | 11 => some (lsumF 2 (riT n1 n2) riLp (riTree N n1 n2)) | _ => none)
theorem riL_ok (n1 n2 : Bool) : loopsOk Try.prog (riL nR n1 n2) := by
  intro n g hg
  simp only [riL, sums] at hg
  split at hg
  · cases hg
    refine lsumF_ok (by cases n1 <;> cases n2 <;> kernel_rfl) (fun rd ps e1 st1 hq => ?_)
    unfold riTree at hq
    split at hq
    · rename_i r m n i xs ac ps
      split at hq
      · rename_i s hs
        rw [crsP_ok hs]
        simp only [Fin.pick] at hq
        cases hc : decide (r = false ∧ m = 0 ∧ n = Int.ofNat xs.length ∧ i = 0) && nR.OK xs with
        | false => rw [hc] at hq; cases hq
        | true =>
          rw [hc, cond_true] at hq
          simp only [Bool.and_eq_true, decide_eq_true_eq] at hc
          obtain ⟨⟨rfl, rfl, rfl, rfl⟩, h1⟩ := hc
          have := ri_loop n1 n2 rd xs ac s h1 (0, 0) ⟨Nat.zero_le _, Nat.le_refl _⟩
          rw [List.drop_zero] at this
          unfold riFin at this
          cases hr : nR.RB s.d xs ac with
          | true => rw [hr] at hq; rw [show (rtF s.d xs ac xs 0 0).1 = true from hr] at this; cases hq; exact this
          | false => rw [hr] at hq; rw [show (rtF s.d xs ac xs 0 0).1 = false from hr] at this; cases hq; exact this
      · cases hq
    · cases hq
  · cases hg
end Go.Proofs.Ytojlmpcbplepcaa

/- Chapter 10: Right's contract; whose turn it is. -/
namespace Go.Proofs.Ytojlmpcbplepcaa
open Go Go.Eng
theorem fn_crs {f : FuncId} {args : List V} {v : V} {nb : List Blk} {n1 n2 : Bool} {xs ac : List Int} (h : FnOK Try.prog f args (crsH false false xs ac) v (crsH false false xs ac ++ nb)) : FnOK Try.prog f args (crsH n1 n2 xs ac) v (crsH n1 n2 xs ac ++ nb) := FnOK.hard rfl h
theorem plain_crs {f : FuncId} {args : List V} {v : V} {n1 n2 : Bool} {xs ac : List Int} (h : FnOK Try.prog f args (crsH false false xs ac) v (crsH false false xs ac)) : FnOK Try.prog f args (crsH n1 n2 xs ac) v (crsH n1 n2 xs ac) := by
  have := fn_crs (nb := []) (n1 := n1) (n2 := n2) (by rw [List.append_nil]; exact h)
  rw [List.append_nil] at this; exact this
def seatB (p a f : Int) : List Bool := [decide (p < -1), decide (100 < p), decide (38 < a), decide (15 < f)]
noncomputable def fVs : List Bool → Option V → Option V
  | [], X => X
  | c :: r, X => bif c then some (.bool false) else fVs r X
def headL (s : CD) (xs : List Int) : List Bool := [decide (3 < s.d), decide (400 < Int.ofNat xs.length), decide (38 < s.h)] ++ (seatB s.p.a s.a.a s.f.a ++ (seatB s.p.b s.a.b s.f.b ++ (seatB s.p.c s.a.c s.f.c ++ seatB s.p.d s.a.d s.f.d)))
theorem right_eval10 (N : NJ) (R : NR) (xs ac : List Int) (s : CD) : evalFn Try.prog (orcJ N emptyTab plainL) (riL R false false) 100 17 Try.f17 [.agg (s.vs (.gs 0) (.gs 1))] (crsH false false xs ac) (fun v _ => some v) =
    fVs (headL s xs) (cond (codesB [(riLp, riLp)]) (bif decide (false = false ∧ (0 : Int) = 0 ∧ Int.ofNat xs.length = Int.ofNat xs.length ∧ (0 : Int) = 0) && R.OK xs then
      bif R.RB s.d xs ac then bif decide ((R.RM s.d xs ac : Int) = Int.ofNat ac.length) then bif decide (s.h = 0) then some (.bool true) else bif N.OK xs then some (.bool (!N.OV s.d xs)) else none else some (.bool false) else some (.bool false) else none) none) := by kernel_rfl
theorem fVs_is : ∀ (l : List Bool) (b : Bool), fVs l (some (.bool b)) = some (.bool (!l.any id && b))
  | [], b => by simp [fVs]
  | c :: r, b => by
    unfold fVs
    rw [fVs_is r b]
    cases c <;> simp
def rgtI (s : CD) (xs ac : List Int) : Bool := !(headL s xs).any id && ((rtF s.d xs ac xs 0 0).1 && (decide ((rtF s.d xs ac xs 0 0).2 = ac.length) && (decide (s.h = 0) || !ovI s.d xs)))
theorem riCd : codesB [(riLp, riLp)] = true := by rw [codesB_iff]; intro x hx; simp at hx; rw [hx]
theorem right17_fn (n1 n2 : Bool) {s : CD} {xs ac : List Int} (h : okL xs = true) : FnOK Try.prog 17 [.agg (s.vs (.gs 0) (.gs 1))] (crsH n1 n2 xs ac) (.bool (rgtI s xs ac)) (crsH n1 n2 xs ac) := by
  have key := right_eval10 nJ nR xs ac s
  rw [riCd, decide_eq_true (show false = false ∧ (0 : Int) = 0 ∧ Int.ofNat xs.length = Int.ofNat xs.length ∧ (0 : Int) = 0 from ⟨rfl, rfl, rfl, rfl⟩), show nR.OK xs = true from h, show nJ.OK xs = true from h] at key
  have e : (cond true (bif true && true then bif nR.RB s.d xs ac then bif decide ((nR.RM s.d xs ac : Int) = Int.ofNat ac.length) then bif decide (s.h = 0) then some (V.bool true) else bif true then some (.bool (!nJ.OV s.d xs)) else none else some (.bool false) else some (.bool false) else none) none) =
      some (.bool ((rtF s.d xs ac xs 0 0).1 && (decide ((rtF s.d xs ac xs 0 0).2 = ac.length) && (decide (s.h = 0) || !ovI s.d xs)))) := by
    show (bif (rtF s.d xs ac xs 0 0).1 then bif decide (((rtF s.d xs ac xs 0 0).2 : Int) = Int.ofNat ac.length) then bif decide (s.h = 0) then some (V.bool true) else some (.bool (!ovI s.d xs)) else some (.bool false) else some (.bool false)) = _
    have hd : decide (((rtF s.d xs ac xs 0 0).2 : Int) = Int.ofNat ac.length) = decide ((rtF s.d xs ac xs 0 0).2 = ac.length) := by
      have : Int.ofNat ac.length = (ac.length : Int) := rfl
      rw [this]
      by_cases hq : (rtF s.d xs ac xs 0 0).2 = ac.length
      · rw [decide_eq_true hq, decide_eq_true (by omega)]
      · rw [decide_eq_false hq, decide_eq_false (by omega)]
    rw [hd]
    cases (rtF s.d xs ac xs 0 0).1 <;> cases decide ((rtF s.d xs ac xs 0 0).2 = ac.length) <;> cases decide (s.h = 0) <;> rfl
  rw [e, fVs_is] at key
  obtain ⟨v1, h1, hk1, hok⟩ := evalFn_ok (orcJ_ok emptyTab_ok plainL_ok) mixed Try.func17 (riL_ok false false) key
  cases hk1
  exact plain_crs (hok.plain rfl crs_ro)
theorem turn_eval10 (MK : Int → Int → Int) (xs ac : List Int) (s : CD) : evalFn Try.prog (orcJ nJ (addTab 56 (iMaker MK) emptyTab) plainL) noLoops 100 37 Try.f37 [.agg (s.vs (.gs 0) (.gs 1))] (crsH false false xs ac) (fun v _ => some v) = some (.int .u8 (MK s.d (Int.ofNat xs.length))) := by kernel_rfl
def trnI (s : CD) (xs : List Int) : Int := mkI s.d (Int.ofNat xs.length)
theorem tabM_ok : PTabOk Try.prog (addTab 56 (iMaker mkI) emptyTab) := by
  refine addTab_ok ?_ emptyTab_ok
  intro args c v h _
  unfold iMaker at h
  split at h
  · cases h; exact maker_p _ _
  · cases h
theorem turn37_fn (n1 n2 : Bool) (s : CD) (xs ac : List Int) : FnOK Try.prog 37 [.agg (s.vs (.gs 0) (.gs 1))] (crsH n1 n2 xs ac) (.int .u8 (trnI s xs)) (crsH n1 n2 xs ac) := by
  obtain ⟨v1, h1, hk1, hok⟩ := evalFn_ok (orcJ_ok tabM_ok plainL_ok) mixed Try.func37 noLoops_ok (turn_eval10 mkI xs ac s)
  cases hk1
  exact plain_crs (hok.plain rfl crs_ro)
end Go.Proofs.Ytojlmpcbplepcaa

/- Chapter 10: Bid, Cheapest. -/
namespace Go.Proofs.Ytojlmpcbplepcaa
open Go Go.Eng
def badB (l d : Int) : Bool := bif decide (l < 1) then true else bif decide (7 < l) then true else decide (5 ≤ d)
def bidV (l d : Int) : Int := bif badB l d then 0 else wr .u8 (wr .u8 (3 + wr .u8 (5 * wr .u8 (l - 1))) + d)
def bidE (l d : Int) : Int := bif badB l d then 2 else 0
theorem bid_eval (l d : Int) : evalP emptyTab 98 Try.f98 [.int .u8 l, .int .u8 d] = bif decide (l < 1) then some (.tuple [.int .u8 0, .int .i64 2]) else bif decide (7 < l) then some (.tuple [.int .u8 0, .int .i64 2]) else
    bif decide (5 ≤ d) then some (.tuple [.int .u8 0, .int .i64 2]) else some (.tuple [.int .u8 (wr .u8 (wr .u8 (3 + wr .u8 (5 * wr .u8 (l - 1))) + d)), .int .i64 0]) := by kernel_rfl
theorem bid_pure (l d : Int) : FnPure Try.prog 98 [.int .u8 l, .int .u8 d] (.tuple [.int .u8 (bidV l d), .int .i64 (bidE l d)]) := by
  refine pure_at emptyTab_ok Try.func98 (by kernel_rfl) ?_ rfl rfl
  rw [bid_eval]
  unfold bidV bidE badB
  cases decide (l < 1) <;> cases decide (7 < l) <;> cases decide (5 ≤ d) <;> rfl
def gBid : List V → Option (Bool × V)
  | [.int .u8 l, .int .u8 d] => some (true, .tuple [.int .u8 (bidV l d), .int .i64 (bidE l d)])
  | _ => none
def tabBid : PTab := addTab 98 gBid (addTab 35 gRight emptyTab)
theorem tabBid_ok : PTabOk Try.prog tabBid := by
  refine addTab_ok ?_ (addTab_ok ?_ emptyTab_ok)
  · intro args c v h _
    unfold gBid at h
    split at h
    · cases h; exact bid_pure _ _
    · cases h
  · intro args c v h _
    unfold gRight at h
    split at h
    · cases h; exact right_p _
    · cases h
def chV (c d : Int) : Int := bif !decide (c ≤ 37) then 0 else bif decide (5 ≤ d) then 0 else bif decide (c < bidV 1 d) then bidV 1 d else bif decide (c < bidV 2 d) then bidV 2 d else bif decide (c < bidV 3 d) then bidV 3 d else bif decide (c < bidV 4 d) then bidV 4 d else bif decide (c < bidV 5 d) then bidV 5 d else bif decide (c < bidV 6 d) then bidV 6 d else bif decide (c < bidV 7 d) then bidV 7 d else 0
def chE (c d : Int) : Int := bif !decide (c ≤ 37) then 80 else bif decide (5 ≤ d) then 2 else bif decide (c < bidV 1 d) then 0 else bif decide (c < bidV 2 d) then 0 else bif decide (c < bidV 3 d) then 0 else bif decide (c < bidV 4 d) then 0 else bif decide (c < bidV 5 d) then 0 else bif decide (c < bidV 6 d) then 0 else bif decide (c < bidV 7 d) then 0 else 6
theorem ch_eval (c d : Int) : evalP tabBid 70 Try.f70 [.int .u8 c, .int .u8 d] = bif !decide (c ≤ 37) then some (.tuple [.int .u8 0, .int .i64 80]) else bif decide (5 ≤ d) then some (.tuple [.int .u8 0, .int .i64 2]) else bif decide (c < bidV 1 d) then some (.tuple [.int .u8 (bidV 1 d), .int .i64 0]) else bif decide (c < bidV 2 d) then some (.tuple [.int .u8 (bidV 2 d), .int .i64 0]) else bif decide (c < bidV 3 d) then some (.tuple [.int .u8 (bidV 3 d), .int .i64 0]) else bif decide (c < bidV 4 d) then some (.tuple [.int .u8 (bidV 4 d), .int .i64 0]) else bif decide (c < bidV 5 d) then some (.tuple [.int .u8 (bidV 5 d), .int .i64 0]) else bif decide (c < bidV 6 d) then some (.tuple [.int .u8 (bidV 6 d), .int .i64 0]) else bif decide (c < bidV 7 d) then some (.tuple [.int .u8 (bidV 7 d), .int .i64 0]) else some (.tuple [.int .u8 0, .int .i64 6]) := by kernel_rfl
theorem ch_pure (c d : Int) : FnPure Try.prog 70 [.int .u8 c, .int .u8 d] (.tuple [.int .u8 (chV c d), .int .i64 (chE c d)]) := by
  refine pure_at tabBid_ok Try.func70 (by kernel_rfl) ?_ rfl rfl
  rw [ch_eval]
  unfold chV chE
  cases decide (c ≤ 37) with
  | false => rfl
  | true => cases decide (5 ≤ d) with
    | true => rfl
    | false => cases decide (c < bidV 1 d) with
    | true => rfl
    | false => cases decide (c < bidV 2 d) with
    | true => rfl
    | false => cases decide (c < bidV 3 d) with
    | true => rfl
    | false => cases decide (c < bidV 4 d) with
    | true => rfl
    | false => cases decide (c < bidV 5 d) with
    | true => rfl
    | false => cases decide (c < bidV 6 d) with
    | true => rfl
    | false => cases decide (c < bidV 7 d) with
    | true => rfl
    | false => rfl
end Go.Proofs.Ytojlmpcbplepcaa
