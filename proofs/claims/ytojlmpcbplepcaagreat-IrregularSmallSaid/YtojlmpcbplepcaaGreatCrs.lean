/- Texts merged: Crs, Ri. -/
import Derived.Test.YtojlmpcbplepcaaGreatHist
/- Chapter 10: courses. -/
namespace Go.Proofs.YtojlmpcbplepcaaGreat
open Go Go.Eng
structure Q4 where
  a : Int
  b : Int
  c : Int
  d : Int
structure CD where
  d : Int
  p : Q4
  a : Q4
  h : Int
  f : Q4
def Q4.vs (k : IntKind) (q : Q4) (r : List V) : List V := .int k q.a :: .int k q.b :: .int k q.c :: .int k q.d :: r
def CD.vs (s : CD) (x y : V) : List V := .int .u8 s.d :: x :: y :: s.p.vs .i64 (s.a.vs .u8 (.int .u8 s.h :: s.f.vs .u8 []))
def Q4.pv (q : Q4) (r : List PV) : List PV := .i q.a :: .i q.b :: .i q.c :: .i q.d :: r
def CD.pv (s : CD) (r : List PV) : List PV := .i s.d :: s.p.pv (s.a.pv (.i s.h :: s.f.pv r))
def Q4.tv (k : IntKind) (r : List TV) : List TV := .int k :: .int k :: .int k :: .int k :: r
def crsT (x y : TV) : List TV := .int .u8 :: x :: y :: Q4.tv .i64 (Q4.tv .u8 (.int .u8 :: Q4.tv .u8 []))
def Q4.at (q : Q4) : Nat → Int
  | 0 => q.a | 1 => q.b | 2 => q.c | _ => q.d
def Q4.set (q : Q4) (v : Int) : Nat → Q4
  | 0 => { q with a := v } | 1 => { q with b := v } | 2 => { q with c := v } | _ => { q with d := v }
def ofCrs : List V → Option (CD × V × V)
  | [.int .u8 d, x, y, .int .i64 p0, .int .i64 p1, .int .i64 p2, .int .i64 p3, .int .u8 a0, .int .u8 a1, .int .u8 a2, .int .u8 a3, .int .u8 h, .int .u8 f0, .int .u8 f1, .int .u8 f2, .int .u8 f3] => some (⟨d, ⟨p0, p1, p2, p3⟩, ⟨a0, a1, a2, a3⟩, h, ⟨f0, f1, f2, f3⟩⟩, x, y)
  | _ => none
theorem ofCrs_ok {l : List V} {s : CD} {x y : V} (h : ofCrs l = some (s, x, y)) : l = s.vs x y := by
  unfold ofCrs at h
  split at h
  · cases h; rfl
  · cases h
structure NJ where
  OK : List Int → Bool
  OV : Int → List Int → Bool
  FR : Int → List Int → Int → Bool
  LW : List Int → Int → Bool
  PS : List Int → Bool
  BY : Int → Bool
def byB (x : Int) : Bool := decide (0 ≤ x ∧ x < 256)
def nJ : NJ := ⟨okL, ovI, frI, lwI, psI, byB⟩
def jOver (N : NJ) : List V → List Blk → Option (Bool × V × List Blk)
  | [.int .u8 d, .gs 0], [.rs _ 1 (.ints .u8 xs)] => some (N.OK xs, .bool (N.OV d xs), [])
  | _, _ => none
def jFree (N : NJ) : List V → List Blk → Option (Bool × V × List Blk)
  | [.int .u8 d, .gs 0, .int .u8 x], [.rs _ 1 (.ints .u8 xs)] => some (N.OK xs && N.BY x, .bool (N.FR d xs x), [])
  | _, _ => none
def jLow (N : NJ) : List V → List Blk → Option (Bool × V × List Blk)
  | [.gs 0, .int .u8 x], [.rs _ 1 (.ints .u8 xs)] => some (N.OK xs, .bool (N.LW xs x), [])
  | _, _ => none
def jPassed (N : NJ) : List V → List Blk → Option (Bool × V × List Blk)
  | [.gs 0], [.rs _ 1 (.ints .u8 xs)] => some (N.OK xs, .bool (N.PS xs), [])
  | _, _ => none
def hTabJ (N : NJ) (T : HTab) : HTab := addH 52 (jOver N) (addH 61 (jFree N) (addH 60 (jLow N) (addH 73 (jPassed N) T)))
theorem hTabJ_ok {T : HTab} (hT : HTabOk Tryz.prog T) : HTabOk Tryz.prog (hTabJ nJ T) := by
  refine addH_ok ?_ (addH_ok ?_ (addH_ok ?_ (addH_ok ?_ hT)))
  · intro args h c v nb hq hc
    unfold jOver at hq
    split at hq
    · cases hq; exact ⟨.of Tryz.func52 (by kernel_rfl), by rw [List.append_nil]; exact over36_fn _ hc⟩
    · cases hq
  · intro args h c v nb hq hc
    unfold jFree at hq
    split at hq
    · cases hq
      simp only [Bool.and_eq_true] at hc
      exact ⟨.of Tryz.func61 (by kernel_rfl), by rw [List.append_nil]; exact free40_fn _ hc.1 (of_decide_eq_true hc.2)⟩
    · cases hq
  · intro args h c v nb hq hc
    unfold jLow at hq
    split at hq
    · cases hq; exact ⟨.of Tryz.func60 (by kernel_rfl), by rw [List.append_nil]; exact low39_fn _ hc⟩
    · cases hq
  · intro args h c v nb hq hc
    unfold jPassed at hq
    split at hq
    · cases hq; exact ⟨.of Tryz.func73 (by kernel_rfl), by rw [List.append_nil]; exact passed49_fn _ hc⟩
    · cases hq
def domJ : FuncId → Bool := fun f => Nat.beq f 52 || (Nat.beq f 61 || (Nat.beq f 60 || Nat.beq f 73))
def nrC : FuncId → Nat → Option Row := fun _ n => match n with
  | 1 => some (.ints .i64 [])
  | _ => some (.ints .u8 [])
noncomputable abbrev orcJ (N : NJ) (T : PTab) (LL : FuncId → Loops) : Oracle := inl Tryz.prog ftab T LL 100 never domJ (hOrcX nrC (hTabJ N emptyH)) 20
theorem orcJ_ok {T : PTab} (hT : PTabOk Tryz.prog T) {LL : FuncId → Loops} (hL : ∀ f, loopsOk Tryz.prog (LL f)) : OracleOk Tryz.prog (orcJ nJ T LL) := inl_ok (hOrcX_ok (hTabJ_ok emptyH_ok)) ftab_ok hT hL mixed 20
def crsH (n1 n2 : Bool) (xs ac : List Int) : List Blk := [.rs n1 1 (.ints .u8 xs), .rs n2 1 (.ints .i64 ac)]
theorem crs_ro {n1 n2 : Bool} {xs ac : List Int} : ∀ (b : Nat) blk, (crsH n1 n2 xs ac)[b]? = some blk → blk.mine = false := by
  intro b blk hb
  match b, hb with
  | 0, hb => cases hb; rfl
  | 1, hb => cases hb; rfl
  | _ + 2, hb => simp [crsH] at hb
noncomputable def riLp : Code := loopOf 11 Tryz.f24
def riT (n1 n2 : Bool) : Tm := ⟨mkS [(1, .ptr 2 0), (2, .bool), (4, .int .i64), (54, .gs 0), (55, .int .i64), (56, .int .i64)] 0 121, [.rs n1 1 (.ints .u8), .rs n2 1 (.ints .i64), .own 27 (.vs (crsT (.gs 0) (.gs 1)))], []⟩
def riX (n1 n2 : Bool) : Tm := ⟨mkS [(1, .ptr 2 0), (2, .bool), (4, .int .i64)] 0 121, [.rs n1 1 (.ints .u8), .rs n2 1 (.ints .i64), .own 27 (.vs (crsT (.gs 0) (.gs 1)))], []⟩
end Go.Proofs.YtojlmpcbplepcaaGreat

/- Chapter 10: Right: its loop. -/
namespace Go.Proofs.YtojlmpcbplepcaaGreat
open Go Go.Eng
def riOut (r : Bool) (m : Int) (xs ac : List Int) (s : CD) : List PV := .b r :: .i m :: .l xs :: .l ac :: s.pv []
def riIn (r : Bool) (m n i : Int) (xs ac : List Int) (s : CD) : List PV := .b r :: .i m :: .i n :: .i i :: .l xs :: .l ac :: s.pv []
abbrev RR := Option (XE × List PV × List (Code × Code))
noncomputable def riE (N : NJ) (d i c : Int) (xs : List Int) (acc : Bool) (F A B : RR) : RR :=
  bif decide (0 + (i.toNat - 0) ≤ xs.length) then bif N.OK (List.take (i.toNat - 0) xs) then bif N.OV d (List.take (i.toNat - 0) xs) then F else
    bif decide (0 + (i.toNat - 0) ≤ xs.length) then bif N.OK (List.take (i.toNat - 0) xs) then bif !(bif N.LW (List.take (i.toNat - 0) xs) c then acc else !acc) then F else bif acc then A else
      bif decide (0 + (i.toNat - 0) ≤ xs.length) then bif N.OK (List.take (i.toNat - 0) xs) && N.BY c then bif !N.FR d (List.take (i.toNat - 0) xs) c then F else B else none else none else none else none else none else none
theorem ri_round (N : NJ) (n1 n2 : Bool) (rd : Option Nat) (r : Bool) (m n i : Int) (xs ac : List Int) (s : CD) : roundT Tryz.prog (orcJ N emptyTab plainL) noLoops 100 2 rd 24 riLp (riT n1 n2) (riX n1 n2) (riIn r m n i xs ac s) =
    bif decide (i < n) then bif decide (0 ≤ i ∧ i < Int.ofNat xs.length) then atN xs i.toNat fun c => bif decide ((0 : Int) ≤ 0 ∧ 0 ≤ i ∧ i ≤ Int.ofNat xs.length) then
      bif decide (m < Int.ofNat ac.length) then bif decide (0 ≤ m ∧ m < Int.ofNat ac.length) then atN ac m.toNat fun v =>
        riE N s.d i c xs (decide (v = i)) (some (.ret, riOut false m xs ac s, [])) (some (.normal, riIn r (wr .i64 (m + 1)) n (wr .i64 (i + 1)) xs ac s, [])) (some (.normal, riIn r m n (wr .i64 (i + 1)) xs ac s, [])) else none else
        riE N s.d i c xs false (some (.ret, riOut false m xs ac s, [])) (some (.normal, riIn r (wr .i64 (m + 1)) n (wr .i64 (i + 1)) xs ac s, [])) (some (.normal, riIn r m n (wr .i64 (i + 1)) xs ac s, [])) else none else none else
      some (.exit 2, riOut r m xs ac s, []) := by cases n1 <;> cases n2 <;> kernel_rfl
def rtF (d : Int) (xs ac : List Int) : List Int → Nat → Nat → Bool × Nat
  | [], _, m => (true, m)
  | c :: r, i, m => bif ovI d (xs.take i) then (false, m) else
    bif decide (m < ac.length) && decide (ac.getD m 0 = (i : Int)) then (bif lwI (xs.take i) c then rtF d xs ac r (i + 1) (m + 1) else (false, m)) else
      bif lwI (xs.take i) c then (false, m) else bif frI d (xs.take i) c then rtF d xs ac r (i + 1) m else (false, m)
theorem okL_take {xs : List Int} (h : okL xs = true) (n : Nat) : okL (xs.take n) = true := by
  obtain ⟨h1, h2⟩ := okL_iff.1 h
  refine okL_iff.2 ⟨by rw [List.length_take]; omega, ?_⟩
  rw [allU_iff] at h2 ⊢
  exact fun x hx => h2 x (List.mem_of_mem_take hx)
theorem byB_of {xs : List Int} (h : okL xs = true) {i : Nat} (hi : i < xs.length) : byB (xs.getD i 0) = true := by
  have := allU_get (okL_iff.1 h).2 hi
  rw [List.getD_eq_getElem?_getD, List.getElem?_eq_getElem hi]
  exact decide_eq_true this
theorem riE_is {d c : Int} {i : Nat} {xs : List Int} {acc : Bool} {F A B : RR} (h : okL xs = true) (hi : i < xs.length) (hc : byB c = true) :
    riE nJ d i c xs acc F A B = bif ovI d (xs.take i) then F else bif acc then (bif lwI (xs.take i) c then A else F) else bif lwI (xs.take i) c then F else bif frI d (xs.take i) c then B else F := by
  unfold riE
  rw [show ((i : Nat) : Int).toNat - 0 = i by omega, decide_eq_true (show 0 + i ≤ xs.length by omega), show nJ.OK (xs.take i) = true from okL_take h i, show nJ.BY c = true from hc]
  show (bif ovI d (xs.take i) then F else bif !(bif lwI (xs.take i) c then acc else !acc) then F else bif acc then A else bif !frI d (xs.take i) c then F else B) = _
  cases ovI d (xs.take i) <;> cases acc <;> cases lwI (xs.take i) c <;> cases frI d (xs.take i) c <;> rfl
def riFin (xs ac : List Int) (s : CD) (q : Bool × Nat) : XE × List PV := (bif q.1 then .exit 2 else .ret, riOut false q.2 xs ac s)
theorem ri_loop (n1 n2 : Bool) (rd : Option Nat) (xs ac : List Int) (s : CD) (h : okL xs = true) : ∀ x : Nat × Nat, (x.1 ≤ xs.length ∧ x.2 ≤ x.1) →
    SimC Tryz.prog 2 rd (.loop riLp) ((riT n1 n2).at (riIn false x.2 (xs.length : Int) x.1 xs ac s)) (riFin xs ac s (rtF s.d xs ac (xs.drop x.1) x.1 x.2)).1 ((riX n1 n2).at (riFin xs ac s (rtF s.d xs ac (xs.drop x.1) x.1 x.2)).2) := by
  refine loop_of_rounds (C := orcJ nJ emptyTab plainL) (L := noLoops) (N := 100) (me := 24) (T := riT n1 n2) (T' := riX n1 n2) (orcJ_ok emptyTab_ok plainL_ok) mixed noLoops_ok (by cases n1 <;> cases n2 <;> kernel_rfl) (by cases n1 <;> cases n2 <;> kernel_rfl) (X := Nat × Nat)
    (fun x => riIn false x.2 (xs.length : Int) x.1 xs ac s) (fun x => x.1 ≤ xs.length ∧ x.2 ≤ x.1) (fun x => xs.length - x.1) (fun x => riFin xs ac s (rtF s.d xs ac (xs.drop x.1) x.1 x.2)) ?_
  rintro ⟨i, m⟩ ⟨hi, hm⟩
  dsimp only at hi hm ⊢
  have hl := (okL_iff.1 h).1
  have key := ri_round nJ n1 n2 rd false (m : Int) (xs.length : Int) (i : Int) xs ac s
  have z1 : Int.ofNat xs.length = (xs.length : Int) := rfl
  have z2 : Int.ofNat ac.length = (ac.length : Int) := rfl
  rcases Nat.lt_or_ge i xs.length with hlt | hge
  · have hg : xs.getD i 0 = xs[i] := by rw [List.getD_eq_getElem?_getD, List.getElem?_eq_getElem hlt]; rfl
    rw [z1, z2, decide_eq_true (show (i : Int) < (xs.length : Int) by omega), cond_true, decide_eq_true (show 0 ≤ (i : Int) ∧ (i : Int) < (xs.length : Int) by omega), cond_true, show ((i : Int)).toNat = i from rfl, atN_get hlt,
      decide_eq_true (show (0 : Int) ≤ 0 ∧ 0 ≤ (i : Int) ∧ (i : Int) ≤ (xs.length : Int) by omega), cond_true, wr64 (n := (m : Int) + 1) (by omega) (by omega), wr64 (n := (i : Int) + 1) (by omega) (by omega),
      riE_is h hlt (byB_of h hlt), show ((m : Int)).toNat = m from rfl] at key
    rw [List.drop_eq_getElem_cons hlt, ← hg]
    have fin : ∀ acc : Bool, acc = (decide (m < ac.length) && decide (ac.getD m 0 = (i : Int))) →
        roundT Tryz.prog (orcJ nJ emptyTab plainL) noLoops 100 2 rd 24 riLp (riT n1 n2) (riX n1 n2) (riIn false m (xs.length : Int) i xs ac s) = (bif ovI s.d (xs.take i) then some (.ret, riOut false m xs ac s, []) else bif acc then (bif lwI (xs.take i) (xs.getD i 0) then some (.normal, riIn false ((m : Int) + 1) (xs.length : Int) ((i : Int) + 1) xs ac s, []) else some (.ret, riOut false m xs ac s, [])) else bif lwI (xs.take i) (xs.getD i 0) then some (.ret, riOut false m xs ac s, []) else bif frI s.d (xs.take i) (xs.getD i 0) then some (.normal, riIn false m (xs.length : Int) ((i : Int) + 1) xs ac s, []) else some (.ret, riOut false m xs ac s, [])) →
        ∃ e qs l, roundT Tryz.prog (orcJ nJ emptyTab plainL) noLoops 100 2 rd 24 riLp (riT n1 n2) (riX n1 n2) (riIn false m (xs.length : Int) i xs ac s) = some (e, qs, l) ∧ codesOk l ∧
          ((e = .normal ∧ ∃ y : Nat × Nat, qs = riIn false y.2 (xs.length : Int) y.1 xs ac s ∧ (y.1 ≤ xs.length ∧ y.2 ≤ y.1) ∧ xs.length - y.1 < xs.length - i ∧ riFin xs ac s (rtF s.d xs ac (xs.drop y.1) y.1 y.2) = riFin xs ac s (rtF s.d xs ac (xs.getD i 0 :: xs.drop (i + 1)) i m)) ∨ (e ≠ .normal ∧ (e, qs) = riFin xs ac s (rtF s.d xs ac (xs.getD i 0 :: xs.drop (i + 1)) i m))) := by
      intro acc ha hk
      have step : ∀ m2 : Nat, ((m : Int) + 1 = ((m + 1 : Nat) : Int)) := fun _ => by omega
      have e1 : ((m : Int) + 1) = ((m + 1 : Nat) : Int) := by omega
      have e2 : ((i : Int) + 1) = ((i + 1 : Nat) : Int) := by omega
      rw [e1, e2] at hk
      simp only [rtF]
      rw [← ha]
      cases h1 : ovI s.d (xs.take i) with
      | true => rw [h1, cond_true] at hk; exact ⟨_, _, _, hk, codes0, .inr ⟨by simp, rfl⟩⟩
      | false =>
        rw [h1, cond_false] at hk
        cases h2 : acc with
        | true =>
          rw [h2, cond_true] at hk
          cases h3 : lwI (xs.take i) (xs.getD i 0) with
          | true => rw [h3, cond_true] at hk; exact ⟨_, _, _, hk, codes0, .inl ⟨rfl, (i + 1, m + 1), rfl, ⟨by dsimp only; omega, by dsimp only; omega⟩, by dsimp only; omega, rfl⟩⟩
          | false => rw [h3, cond_false] at hk; exact ⟨_, _, _, hk, codes0, .inr ⟨by simp, rfl⟩⟩
        | false =>
          rw [h2, cond_false] at hk
          cases h3 : lwI (xs.take i) (xs.getD i 0) with
          | true => rw [h3, cond_true] at hk; exact ⟨_, _, _, hk, codes0, .inr ⟨by simp, rfl⟩⟩
          | false =>
            rw [h3, cond_false] at hk
            cases h4 : frI s.d (xs.take i) (xs.getD i 0) with
            | true => rw [h4, cond_true] at hk; exact ⟨_, _, _, hk, codes0, .inl ⟨rfl, (i + 1, m), rfl, ⟨by dsimp only; omega, by dsimp only; omega⟩, by dsimp only; omega, rfl⟩⟩
            | false => rw [h4, cond_false] at hk; exact ⟨_, _, _, hk, codes0, .inr ⟨by simp, rfl⟩⟩
    rcases Nat.lt_or_ge m ac.length with hm2 | hm2
    · rw [decide_eq_true (show (m : Int) < (ac.length : Int) by omega), cond_true, decide_eq_true (show 0 ≤ (m : Int) ∧ (m : Int) < (ac.length : Int) by omega), cond_true, atN_get hm2, riE_is h hlt (byB_of h hlt)] at key
      exact fin (decide (ac.getD m 0 = (i : Int))) (by rw [decide_eq_true hm2, Bool.true_and]) key
    · rw [decide_eq_false (show ¬ (m : Int) < (ac.length : Int) by omega), cond_false] at key
      exact fin false (by rw [decide_eq_false (show ¬ m < ac.length by omega), Bool.false_and]) key
  · rw [decide_eq_false (show ¬ (i : Int) < (xs.length : Int) by omega), cond_false] at key
    refine ⟨_, _, _, key, codes0, .inr ⟨by simp, ?_⟩⟩
    rw [List.drop_eq_nil_of_le (by omega)]; rfl
end Go.Proofs.YtojlmpcbplepcaaGreat
