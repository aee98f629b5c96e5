/- Chapter 9: follow, for every list of bytes. -/
import Derived.Test.YtojlmpcbplepcaaGreatBase0
namespace Go.Proofs.YtojlmpcbplepcaaGreat
open Go Go.Eng
theorem codes0 : codesOk [] := fun x h => by cases h
def allU : List Int → Bool
  | [] => true
  | c :: r => decide (0 ≤ c ∧ c < 256) && allU r
theorem allU_get : ∀ {l : List Int}, allU l = true → ∀ {i : Nat} (hi : i < l.length), 0 ≤ l[i] ∧ l[i] < 256
  | c :: r, h, 0, _ => by
    simp only [allU, Bool.and_eq_true, decide_eq_true_eq] at h
    exact h.1
  | c :: r, h, i + 1, hi => by
    simp only [allU, Bool.and_eq_true] at h
    exact allU_get h.2 (i := i) (by simpa using hi)
theorem allU_iff {l : List Int} : allU l = true ↔ ∀ c ∈ l, 0 ≤ c ∧ c < 256 := by
  induction l with
  | nil => simp [allU]
  | cons c r ih => simp [allU, ih]
theorem wr64 {n : Int} (h : -9223372036854775808 ≤ n) (h2 : n < 9223372036854775808) : wr .i64 n = n := wr_i64_id ⟨h, h2⟩
structure FR where
  w : St
  s : St
  at_ : Int
  e : Int
def flw : List Int → Nat → St → FR
  | [], _, s => ⟨s, s, -1, 0⟩
  | c :: r, i, s => bif decide (chk s c = 0) then flw r (i + 1) (aft s c) else ⟨s, st0 0, i, chk s c⟩
def fol (d : Int) (xs : List Int) : FR := bif decide (3 < d) then ⟨st0 0, st0 0, -1, 2⟩ else flw xs 0 (st0 d)
theorem nx_range (t : Int) : 0 ≤ nx t ∧ nx t < 4 := by
  unfold nx
  have : 0 ≤ wr .u8 (t + 1) := by show 0 ≤ (t + 1) % 256; omega
  rw [Int.tmod_eq_emod_of_nonneg this]
  omega
theorem setF_turn (s : St) (b : Bd) (k : Nat) : (s.setF b k).turn = s.turn := by
  unfold St.setF; split <;> rfl
theorem aft_turn (s : St) (c : Int) : (aft s c).turn = nx s.turn := by
  unfold aft
  cases decide (c = 0) with
  | true => rfl
  | false => cases (decide (c = 1) || decide (c = 2)) with
    | true => rfl
    | false => cases (s.fst (kOf s.turn (dnI c))).m with
      | true => rfl
      | false => simp only [cond_false]; rw [setF_turn]; rfl
theorem aft_okT (s : St) (c : Int) : okT (aft s c) = true := by
  have := nx_range s.turn
  simp only [okT, aft_turn, Bool.and_eq_true, decide_eq_true_eq]; exact this
theorem chk_ok {s : St} {c : Int} (h : chk s c = 0) (hc : 0 ≤ c) : okC c = true := by
  unfold chk at h
  unfold okC
  cases hd : decide (c ≤ 37) with
  | true => simpa using hc
  | false => rw [hd] at h; cases h
def foFin (a e : Int) (xs : List Int) (z s : St) : List Int → Nat → XE × List PV
  | [], _ => (.exit 0, .i a :: .i e :: .l xs :: z.pv (s.pv []))
  | c :: r, i => bif decide (chk s c = 0) then foFin a e xs z (aft s c) r (i + 1) else (.ret, .i i :: .i (chk s c) :: .l xs :: (st0 0).pv (s.pv []))
theorem fo_loop (nn : Bool) (rd : Option Nat) (a e : Int) (z : St) (xs : List Int) (hu : allU xs = true) (hl : xs.length ≤ 9223372036854775806) : ∀ x : Nat × St, (x.1 ≤ xs.length ∧ okT x.2 = true) →
    SimC Tryz.prog 1 rd (.loop foLp) ((foT nn).at (.i a :: .i e :: .i (xs.length : Int) :: .i (x.1 : Int) :: .l xs :: z.pv (x.2.pv []))) (foFin a e xs z x.2 (xs.drop x.1) x.1).1 ((foX nn).at (foFin a e xs z x.2 (xs.drop x.1) x.1).2) := by
  refine loop_of_rounds (C := orcE (tabF chk okT aft ovr) plainL) (L := noLoops) (N := 100) (me := 101) (T := foT nn) (T' := foX nn) (orcE_ok tabF_ok plainL_ok) mixed noLoops_ok (by cases nn <;> kernel_rfl) (by cases nn <;> kernel_rfl) (X := Nat × St)
    (fun x => .i a :: .i e :: .i (xs.length : Int) :: .i (x.1 : Int) :: .l xs :: z.pv (x.2.pv [])) (fun x => x.1 ≤ xs.length ∧ okT x.2 = true) (fun x => xs.length - x.1) (fun x => foFin a e xs z x.2 (xs.drop x.1) x.1) ?_
  rintro ⟨i, s⟩ ⟨hi, hs⟩
  dsimp only at hi hs ⊢
  have h := fo_round chk okT aft ovr nn rd a e (xs.length : Int) (i : Int) xs z s
  rcases Nat.lt_or_ge i xs.length with hlt | hge
  · have hc := allU_get hu hlt
    unfold atU at h
    rw [decide_eq_true (show (i : Int) < (xs.length : Int) by omega), cond_true, decide_eq_true (show 0 ≤ (i : Int) ∧ (i : Int) < Int.ofNat xs.length from ⟨by omega, by show (i : Int) < (xs.length : Int); omega⟩), cond_true, show ((i : Int)).toNat = i from rfl, List.getElem?_eq_getElem hlt] at h
    dsimp only at h
    rw [List.drop_eq_getElem_cons hlt]
    simp only [foFin]
    by_cases hb : chk s xs[i] = 0
    · rw [decide_eq_true hb, Bool.not_true, cond_false, hs, chk_ok hb hc.1, Bool.and_self, cond_true, wr64 (by omega) (by omega)] at h
      refine ⟨_, _, _, h, codes0, .inl ⟨rfl, (i + 1, aft s xs[i]), rfl, ⟨by dsimp only; omega, aft_okT _ _⟩, by dsimp only; omega, ?_⟩⟩
      rw [decide_eq_true hb]; rfl
    · rw [decide_eq_false hb, Bool.not_false, cond_true] at h
      refine ⟨_, _, _, h, codes0, .inr ⟨by simp, ?_⟩⟩
      rw [decide_eq_false hb]; rfl
  · rw [decide_eq_false (show ¬ (i : Int) < (xs.length : Int) by omega), cond_false] at h
    refine ⟨_, _, _, h, codes0, .inr ⟨by simp, ?_⟩⟩
    rw [List.drop_eq_nil_of_le (by omega)]; rfl
theorem foFin_is (xs : List Int) (z : St) : ∀ (r : List Int) (i : Nat) (s : St), (flw r i s).e = 0 ∧ foFin 0 0 xs z s r i = (.exit 0, .i 0 :: .i 0 :: .l xs :: z.pv ((flw r i s).s.pv [])) ∧ (flw r i s).at_ = -1 ∨
    (flw r i s).e ≠ 0 ∧ foFin 0 0 xs z s r i = (.ret, .i (flw r i s).at_ :: .i (flw r i s).e :: .l xs :: (st0 0).pv ((flw r i s).w.pv [])) ∧ (flw r i s).s = st0 0
  | [], i, s => .inl ⟨rfl, rfl, rfl⟩
  | c :: r, i, s => by
    simp only [flw, foFin]
    by_cases hb : chk s c = 0
    · rw [decide_eq_true hb]
      simp only [cond_true]
      exact foFin_is xs z r (i + 1) (aft s c)
    · rw [decide_eq_false hb]
      simp only [cond_false]
      exact .inr ⟨hb, trivial, trivial⟩
def bdP : List PV → Option (Bd × List PV)
  | .i c :: .i l :: .i d :: .i s :: .b m :: r => some (⟨c, l, d, s, m⟩, r)
  | _ => none
theorem bdP_ok {l : List PV} {b : Bd} {r : List PV} (h : bdP l = some (b, r)) : l = b.pv r := by
  unfold bdP at h
  split at h
  · cases h; rfl
  · cases h
def bdsP : Nat → List PV → List Bd → Option (List Bd × List PV)
  | 0, r, a => some (a, r)
  | n + 1, l, a => match bdP l with
    | some (b, r) => bdsP n r (b :: a)
    | none => none
def Pvs : List Bd → List PV → List PV
  | [], r => r
  | b :: q, r => Pvs q (b.pv r)
theorem bdsP_ok : ∀ {n : Nat} {l : List PV} {a : List Bd} {r : List Bd} {t : List PV}, bdsP n l a = some (r, t) → ∃ q, r = q ++ a ∧ l = Pvs q t
  | 0, l, a, r, t, h => by cases h; exact ⟨[], rfl, rfl⟩
  | n + 1, l, a, r, t, h => by
    simp only [bdsP] at h
    split at h
    · rename_i b r2 hb
      obtain ⟨q, h1, h2⟩ := bdsP_ok h
      refine ⟨q ++ [b], by rw [h1]; simp, ?_⟩
      rw [bdP_ok hb, h2]
      have : ∀ (q : List Bd) (b : Bd) (r : List PV), b.pv (Pvs q r) = Pvs (q ++ [b]) r := by
        intro q
        induction q with
        | nil => intro b r; rfl
        | cons x q ih => intro b r; simp only [Pvs, List.cons_append]; exact ih b _
      exact this q b t
    · cases h
def hdP (l : List PV) : Option (Bd × Int × Int × Int × List PV) := match bdP l with
  | some (b, r) => match r with
    | .i t :: .i k :: .i p :: r => some (b, t, k, p, r)
    | _ => none
  | none => none
def stP (l : List PV) : Option (St × List PV) := match hdP l with
  | some (b, t, k, p, r) => match bdsP 10 r [] with
    | some ([f9, f8, f7, f6, f5, f4, f3, f2, f1, f0], q) => some (⟨b, t, k, p, f0, f1, f2, f3, f4, f5, f6, f7, f8, f9⟩, q)
    | _ => none
  | none => none
theorem stP_ok {l : List PV} {s : St} {r : List PV} (h : stP l = some (s, r)) : l = s.pv r := by
  unfold stP at h
  split at h
  · rename_i b t k p r1 hh
    unfold hdP at hh
    split at hh
    · rename_i b2 r2 hb
      split at hh
      · rename_i t2 k2 p2 r3
        cases hh
        split at h
        · rename_i f9 f8 f7 f6 f5 f4 f3 f2 f1 f0 q0 hr
          cases h
          obtain ⟨q, h1, h2⟩ := bdsP_ok hr
          rw [List.append_nil] at h1
          subst h1
          rw [bdP_ok hb, h2]
          rfl
        · cases h
      · cases hh
    · cases hh
  · cases h
def foC (OT : St → Bool) (a e n i : Int) (xs : List Int) (s : St) : Bool := decide (a = 0 ∧ e = 0 ∧ n = (xs.length : Int) ∧ i = 0 ∧ xs.length ≤ 9223372036854775806) && (allU xs && OT s)
noncomputable def foTree (OT : St → Bool) (FL : List Int → St → FR) (nn : Bool) : List PV → Fin
  | .i a :: .i e :: .i n :: .i i :: .l xs :: ps => match stP ps with
    | some (z, ps) => match stP ps with
      | some (s, []) => .br (foC OT a e n i xs s) (.br (decide ((FL xs s).e = 0)) (.leaf (.exit 0) ((foX nn).at (.i 0 :: .i 0 :: .l xs :: z.pv ((FL xs s).s.pv [])))) (.leaf .ret ((foX nn).at (.i (FL xs s).at_ :: .i (FL xs s).e :: .l xs :: (st0 0).pv ((FL xs s).w.pv []))))) .no
      | _ => .no
    | none => .no
  | _ => .no
def flw0 (xs : List Int) (s : St) : FR := flw xs 0 s
noncomputable def foL (OT : St → Bool) (FL : List Int → St → FR) (nn : Bool) : Loops := sums (fun n => match n with | 5 => some (lsumF 1 (foT nn) foLp (foTree OT FL nn)) | _ => none)
theorem foL_ok (nn : Bool) : loopsOk Tryz.prog (foL okT flw0 nn) := by
  intro n g hg
  simp only [foL, sums] at hg
  split at hg
  · cases hg
    refine lsumF_ok (by cases nn <;> kernel_rfl) (fun rd ps e1 st1 hq => ?_)
    unfold foTree at hq
    split at hq
    · rename_i a e n i xs ps
      split at hq
      · rename_i z ps1 hz
        split at hq
        · rename_i s hs
          rw [stP_ok hz, stP_ok hs]
          simp only [Fin.pick] at hq
          cases hc : foC okT a e n i xs s with
          | false => rw [hc] at hq; cases hq
          | true =>
            rw [hc, cond_true] at hq
            simp only [foC, Bool.and_eq_true, decide_eq_true_eq] at hc
            obtain ⟨⟨rfl, rfl, rfl, rfl, h1⟩, h2, h3⟩ := hc
            have := fo_loop nn rd 0 0 z xs h2 h1 (0, s) ⟨Nat.zero_le _, h3⟩
            dsimp only at this
            rw [show xs.drop 0 = xs from rfl] at this
            rcases foFin_is xs z xs 0 s with ⟨q1, q2, _⟩ | ⟨q1, q2, _⟩
            · rw [q2] at this
              rw [show flw0 xs s = flw xs 0 s from rfl, decide_eq_true q1, cond_true] at hq
              cases hq
              exact this
            · rw [q2] at this
              rw [show flw0 xs s = flw xs 0 s from rfl, decide_eq_false q1, cond_false] at hq
              cases hq
              exact this
        · cases hq
      · cases hq
    · cases hq
  · cases hg
noncomputable def folE (OT : St → Bool) (FL : List Int → St → FR) (d : Int) (xs : List Int) : Option V := bif decide (3 < d) then some (.tuple [.agg (st0 0).vs, .int .i64 (-1), .int .i64 2]) else
  cond (codesB [(foLp, foLp)]) (bif foC OT 0 0 (Int.ofNat xs.length) 0 xs (st0 d) then bif decide ((FL xs (st0 d)).e = 0) then some (.tuple [.agg (FL xs (st0 d)).s.vs, .int .i64 (-1), .int .i64 0]) else some (.tuple [.agg (st0 0).vs, .int .i64 (FL xs (st0 d)).at_, .int .i64 (FL xs (st0 d)).e]) else none) none
theorem fol_eval (OT : St → Bool) (FL : List Int → St → FR) (nn : Bool) (d : Int) (xs : List Int) : evalFn Tryz.prog (orcE emptyTab plainL) (foL OT FL nn) 100 101 Tryz.f101 [.int .u8 d, .gs 0] [.rs nn 1 (.ints .u8 xs)] (fun v _ => some v) = folE OT FL d xs := by cases nn <;> kernel_rfl
end Go.Proofs.YtojlmpcbplepcaaGreat
