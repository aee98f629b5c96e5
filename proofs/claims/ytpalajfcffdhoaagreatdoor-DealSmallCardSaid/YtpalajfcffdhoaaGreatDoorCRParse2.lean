/- Texts merged: CRParse2, CRParse3, Sp1, Sp2. -/
import Derived.Test.YtpalajfcffdhoaaGreatDoorCTxt
import Derived.Test.YtpalajfcffdhoaaGreatDoorE3
/- Chapter 4, the reference: Parse: what its loops read, and that it is what card's own reads. -/
namespace Go.Proofs.YtpalajfcffdhoaaGreatDoor.N4
open Go Go.Eng
theorem rkD_bd (c : UInt8) : ∀ n, -1 ≤ rkD c n ∧ rkD c n < n
  | 0 => by simp [rkD]
  | n + 1 => by
    have := rkD_bd c n
    simp only [rkD]
    split <;> omega
theorem rkD_is {c : UInt8} : ∀ {n : Nat}, 0 ≤ rkD c n → rU.getD (rkD c n).toNat 0 = c
  | 0, h => by simp [rkD] at h
  | n + 1, h => by
    simp only [rkD] at h ⊢
    split
    · rename_i hc
      rw [show ((n : Nat) : Int).toNat = n from rfl]; exact hc
    · rename_i hc
      rw [if_neg hc] at h
      exact rkD_is h
theorem rkD_all : ∀ la, la < 14 → ∀ n, n < 13 → n < la → rkD (rU.getD n 0) la = (n : Int) := by decide
def pmR : List UInt8 → Nat → Nat → Nat → Option (Nat × Nat)
  | [], m, su, _ => some (m, su)
  | c :: r, m, su, la => if c = 46 then (match su with
      | 0 => none
      | s + 1 => pmR r m s 13) else
    if rkD c la < 0 then none else pmR r (m ||| 2 ^ (13 * su + (rkD c la).toNat)) su (rkD c la).toNat
def tailT (m : Nat) : Nat → Nat → List UInt8
  | 0, la => suf m 0 la
  | s + 1, la => suf m (s + 1) la ++ 46 :: tailT m s 13
theorem tail_nil (m : Nat) {s la : Nat} (h : ∀ i, i < la → m.testBit (13 * s + i) = false) : tailT m s la = tailT m s 0 := by
  have := suf_skip (r := m) (s := s) (k := 0) la (Nat.zero_le _) (fun i _ hi => h i hi)
  cases s with
  | zero => exact this
  | succ s => simp only [tailT, this]
theorem tail_skip (m : Nat) {s k la : Nat} (hk : k ≤ la) (h : ∀ i, k ≤ i → i < la → m.testBit (13 * s + i) = false) : tailT m s la = tailT m s k := by
  have := suf_skip (r := m) (s := s) (k := k) la hk h
  cases s with
  | zero => exact this
  | succ s => simp only [tailT, this]
theorem tail_step (m : Nat) {s n : Nat} : tailT m s (n + 1) = if m.testBit (13 * s + n) then rU.getD n 0 :: tailT m s n else tailT m s n := by
  cases s with
  | zero => simp only [tailT, suf]
  | succ s => simp only [tailT, suf]; split <;> rfl
theorem tail_wtxt (m : Nat) : tailT m 3 13 = wtxt m := rfl
theorem pm_fwd : ∀ {l : List UInt8} {m s la m' : Nat}, s ≤ 3 → la ≤ 13 → m < 4503599627370496 → (∀ i, i < 13 * s + la → m.testBit i = false) → pmR l m s la = some (m', 0) →
    l = tailT m' s la ∧ (∀ i, 13 * s + la ≤ i → m'.testBit i = m.testBit i) ∧ m' < 4503599627370496
  | [], m, s, la, m', _, _, hm, hz, h => by
    simp only [pmR] at h
    cases h
    exact ⟨(suf_skip (r := m) (s := 0) (k := 0) la (Nat.zero_le _) (fun i _ hi => hz _ (by omega))).symm, fun _ _ => rfl, hm⟩
  | c :: r, m, s, la, m', hs, hla, hm, hz, h => by
    simp only [pmR] at h
    split at h
    · rename_i hc
      cases s with
      | zero => cases h
      | succ s =>
        dsimp only at h
        obtain ⟨a1, a2, a3⟩ := pm_fwd (s := s) (la := 13) (by omega) (Nat.le_refl _) hm (fun i hi => hz i (by omega)) h
        refine ⟨?_, fun i hi => a2 i (by omega), a3⟩
        rw [tail_nil m' (fun i hi => by rw [a2 _ (by omega)]; exact hz _ (by omega)), hc, a1]; rfl
    · split at h
      · cases h
      · rename_i hc hk
        obtain ⟨b1, b2⟩ := rkD_bd c la
        have hr := rkD_is (c := c) (n := la) (by omega)
        generalize hq : (rkD c la).toNat = k at *
        have hkl : k < la := by omega
        have hlt : m ||| 2 ^ (13 * s + k) < 4503599627370496 := Nat.or_lt_two_pow (n := 52) hm (Nat.pow_lt_pow_right (by decide) (by omega))
        obtain ⟨a1, a2, a3⟩ := pm_fwd (s := s) (la := k) hs (by omega) hlt (fun i hi => by rw [or_test, hz i (by omega), decide_eq_false (by omega)]; rfl) h
        refine ⟨?_, fun i hi => by rw [a2 i (by omega), or_test, decide_eq_false (by omega), Bool.or_false], a3⟩
        rw [tail_skip m' (k := k + 1) (by omega) (fun i h3 h4 => by rw [a2 _ (by omega), or_test, hz _ (by omega), decide_eq_false (by omega)]; rfl), tail_step, a2 _ (Nat.le_refl _), or_test, decide_eq_true rfl, Bool.or_true, if_pos rfl, hr, ← a1]
theorem pm_bwd {r : Nat} : ∀ {s n la m : Nat}, s ≤ 3 → n ≤ la → la ≤ 13 → ∃ m', pmR (tailT r s n) m s la = some (m', 0)
  | 0, 0, la, m, _, _, _ => ⟨m, rfl⟩
  | s + 1, 0, la, m, h1, _, _ => by
    obtain ⟨m', h⟩ := pm_bwd (r := r) (s := s) (n := 13) (la := 13) (m := m) (by omega) (Nat.le_refl _) (Nat.le_refl _)
    refine ⟨m', ?_⟩
    show pmR (46 :: tailT r s 13) m (s + 1) la = _
    simp only [pmR]
    exact h
  | s, n + 1, la, m, h1, h2, h3 => by
    rw [tail_step]
    cases hb : r.testBit (13 * s + n) with
    | true =>
      rw [if_pos rfl]
      obtain ⟨m', h⟩ := pm_bwd (r := r) (s := s) (n := n) (la := n) (m := m ||| 2 ^ (13 * s + n)) h1 (Nat.le_refl _) (by omega)
      refine ⟨m', ?_⟩
      have hk := rkD_all la (by omega) n (by omega) (by omega)
      simp only [pmR]
      rw [if_neg (rk_get (k := n) (by omega)).2, hk, if_neg (by omega), show ((n : Nat) : Int).toNat = n from rfl]
      exact h
    | false =>
      rw [if_neg (by simp)]
      exact pm_bwd h1 (by omega) h3
termination_by s n => (s, n)
def prR (l : List UInt8) : Option Nat := match pmR l 0 3 13 with
  | some (m, 0) => some m
  | _ => none
theorem prR_is (l : List UInt8) : prR l = parseN l := by
  have fw : ∀ m, pmR l 0 3 13 = some (m, 0) → parseN l = some m := fun m h => by
    obtain ⟨a1, _, a3⟩ := pm_fwd (by decide) (Nat.le_refl 13) (by decide) (fun i _ => Nat.zero_testBit i) h
    rw [a1, tail_wtxt]
    exact parse_back a3
  have bw : ∀ m, parseN l = some m → ∃ m', pmR l 0 3 13 = some (m', 0) := fun m h => by
    rw [(parse_only h).1, ← tail_wtxt]
    exact pm_bwd (by decide) (Nat.le_refl _) (Nat.le_refl _)
  unfold prR
  split
  · rename_i m h
    exact (fw m h).symm
  · rename_i hn
    cases h : parseN l with
    | none => rfl
    | some m =>
      obtain ⟨m', h'⟩ := bw m h
      exact (hn m' h').elim
def rpFin (z e : Int) : Option (Nat × Nat) → XE × List PV
  | none => (.ret, [.i 0, .i 40])
  | some p => (.exit 0, [.i z, .i e, .i (p.1 : Int), .i (p.2 : Int)])
structure rpS where
  (i m su la : Nat)
def rpInv (t : List UInt8) (x : rpS) : Prop := x.i ≤ t.length ∧ x.m < 4503599627370496 ∧ x.su ≤ 3 ∧ x.la ≤ 13 ∧ ∀ j, j < 13 * x.su + x.la → x.m.testBit j = false
theorem rp_loop1 (rd : Option Nat) (t : List UInt8) (z e : Int) (ht : t.length ≤ 1000000) : ∀ x : rpS, rpInv t x →
    ∃ n, SimL Tryz.prog 0 rd rpLp1 n (rpT1.at [.s (bA t), .i z, .i e, .i (x.m : Int), .i (x.su : Int), .i (x.la : Int), .i (x.i : Int)]) (rpFin z e (pmR (t.drop x.i) x.m x.su x.la)).1 ((rpE (rpFin z e (pmR (t.drop x.i) x.m x.su x.la)).1).at (rpFin z e (pmR (t.drop x.i) x.m x.su x.la)).2) := by
  refine loop_of_roundsX_n (C := orcNR R0) (L := rpL2) (N := 100) (me := 74) (T := rpT1) (T' := rpE) orcNR_ok mixed rpL2_ok (by kernel_rfl) rpE_ok (X := rpS)
    (fun x => [.s (bA t), .i z, .i e, .i (x.m : Int), .i (x.su : Int), .i (x.la : Int), .i (x.i : Int)]) (fun x => rpInv t x) (fun x => t.length - x.i) (fun x => rpFin z e (pmR (t.drop x.i) x.m x.su x.la)) ?_
  rintro ⟨i, m, su, la⟩ ⟨hi, hm, hs, hla, hz⟩
  dsimp only at hi hm hs hla hz ⊢
  have h := rp_round1 R0 rd (bA t) z e (m : Int) (su : Int) (la : Int) (i : Int)
  rcases Nat.lt_or_ge i t.length with hlt | hge
  · have cd : codesB [(rpLp2, rpLp2)] = true := by rw [codesB_iff]; intro x hx; simp at hx; rw [hx]
    rw [decide_eq_true (show (i : Int) < Int.ofNat (bA t).data.toList.length by show (i : Int) < (t.length : Int); omega), cond_true, chAt_at hlt] at h
    rw [List.drop_eq_getElem_cons hlt]
    simp only [pmR]
    by_cases hc : t[i] = 46
    · rw [decide_eq_true (show (t[i].toNat : Int) = 46 by rw [hc]; rfl), cond_true, wrI64 (by omega) (by omega)] at h
      rw [if_pos hc]
      cases su with
      | zero =>
        rw [decide_eq_true (show ((0 : Nat) : Int) - 1 < 0 by decide)] at h
        exact ⟨_, _, _, h, codesE, .inr ⟨by simp, rfl⟩⟩
      | succ s =>
        rw [decide_eq_false (show ¬ (((s + 1 : Nat) : Int) - 1 < 0) by omega), cond_false, show ((s + 1 : Nat) : Int) - 1 = (s : Int) by omega, wrI64 (by omega) (by omega)] at h
        exact ⟨_, _, _, h, codesE, .inl ⟨rfl, ⟨i + 1, m, s, 13⟩, rfl, ⟨by dsimp only; omega, hm, by dsimp only; omega, Nat.le_refl _, fun j hj => hz j (by dsimp only at hj; omega)⟩, by dsimp only; omega, rfl⟩⟩
    · have hne : ¬ (t[i].toNat : Int) = 46 := fun hh => hc (by
        have h1 : t[i].toNat = 46 := by omega
        have h2 : t[i] = UInt8.ofNat t[i].toNat := by simp
        rw [h2, h1]; rfl)
      have hC : rpC2 (bA t) (la : Int) (i : Int) (-1) 0 = true := by
        unfold rpC2
        rw [decide_eq_true_eq]
        exact ⟨rfl, rfl, by omega, by omega, by omega, by show (i : Int) < (t.length : Int); omega⟩
      have hk : rkSq (bA t) (i : Int) (la : Int) = rkD t[i] la := by
        unfold rkSq
        rw [show (bA t).data.toList = t from rfl, show ((i : Int)).toNat = i from rfl, show ((la : Int)).toNat = la from rfl, List.getD_eq_getElem?_getD, List.getElem?_eq_getElem hlt, Option.getD_some]
      rw [decide_eq_false hne, cond_false, cd, cond_true, hC, cond_true, hk] at h
      rw [if_neg hc]
      obtain ⟨b1, b2⟩ := rkD_bd t[i] la
      by_cases hn : rkD t[i] la < 0
      · rw [decide_eq_true hn] at h
        rw [if_pos hn]
        exact ⟨_, _, _, h, codesE, .inr ⟨by simp, rfl⟩⟩
      · rw [if_neg hn]
        obtain ⟨k, hk'⟩ : ∃ k : Nat, rkD t[i] la = (k : Int) := ⟨(rkD t[i] la).toNat, by omega⟩
        rw [hk'] at h b2 ⊢
        rw [show ((k : Nat) : Int).toNat = k from rfl]
        have hbit := hz (13 * su + k) (by omega)
        have hor := or_add (13 * su + k) m hbit
        have hlt52 : m ||| 2 ^ (13 * su + k) < 4503599627370496 := Nat.or_lt_two_pow (n := 52) hm (Nat.pow_lt_pow_right (by decide) (by omega))
        have hu8 : wr .u8 ((13 * su + k : Nat) : Int) = ((13 * su + k : Nat) : Int) := by show ((13 * su + k : Nat) : Int) % 256 = _; omega
        have hbc : R0.bitC ((13 * su + k : Nat) : Int) = true := by
          show decide (0 ≤ ((13 * su + k : Nat) : Int) ∧ ((13 * su + k : Nat) : Int) ≤ 63) = true
          rw [decide_eq_true_eq]; omega
        have hw : wr .u64 ((m : Int) + R0.bit ((13 * su + k : Nat) : Int)) = ((m ||| 2 ^ (13 * su + k) : Nat) : Int) := by
          show ((m : Int) + ((2 ^ (13 * su + k) : Nat) : Int)) % 18446744073709551616 = _
          rw [hor] at hlt52 ⊢
          generalize 2 ^ (13 * su + k) = q at *
          omega
        rw [decide_eq_false (show ¬ ((k : Int) < 0) by omega), cond_false, rIx_eq hs (by omega), hu8, hbc, cond_true, hw, wrI64 (by omega) (by omega)] at h
        exact ⟨_, _, _, h, codesE, .inl ⟨rfl, ⟨i + 1, m ||| 2 ^ (13 * su + k), su, k⟩, rfl, ⟨by dsimp only; omega, hlt52, hs, by dsimp only; omega, fun j hj => by
          dsimp only at hj ⊢
          rw [or_test, hz j (by omega), decide_eq_false (by omega)]; rfl⟩, by dsimp only; omega, rfl⟩⟩
  · rw [decide_eq_false (show ¬ (i : Int) < Int.ofNat (bA t).data.toList.length from fun h => by have : (i : Int) < (t.length : Int) := h; omega), cond_false] at h
    refine ⟨_, _, _, h, codesE, .inr ⟨by simp, ?_⟩⟩
    rw [List.drop_eq_nil_of_le (by omega)]; rfl
end Go.Proofs.YtpalajfcffdhoaaGreatDoor.N4

/- Chapter 4, the reference: Parse: its contract, that of card's own. -/
namespace Go.Proofs.YtpalajfcffdhoaaGreatDoor.N4
open Go Go.Eng
def pmO (s : ByteArray) : Bool := (pmR s.data.toList 0 3 13).isSome
def pmM (s : ByteArray) : Int := match pmR s.data.toList 0 3 13 with
  | some p => p.1
  | none => 0
def pmS (s : ByteArray) : Int := match pmR s.data.toList 0 3 13 with
  | some p => p.2
  | none => 0
def rpP (z e m su la i : Int) (s : ByteArray) : Prop := z = 0 ∧ e = 0 ∧ m = 0 ∧ su = 3 ∧ la = 13 ∧ i = 0 ∧ s.data.toList.length ≤ 1000000
noncomputable def rpTree1 : List PV → Fin
  | [.s s, .i z, .i e, .i m, .i su, .i la, .i i] => .br (pB (rpP z e m su la i s)) (.br (pmO s) (.leaf (.exit 0) (rpX1.at [.i 0, .i 0, .i (pmM s), .i (pmS s)])) (.leaf .ret (rpXr.at [.i 0, .i 40]))) .no
  | _ => .no
noncomputable def rpL1 : Loops := sums (fun n => match n with | 5 => some (lsumF 0 rpT1 rpLp1 rpTree1) | _ => none)
theorem rpL1_ok : loopsOk Tryz.prog rpL1 := by
  intro n g hg
  simp only [rpL1, sums] at hg
  split at hg
  · cases hg
    refine lsumF_ok (by kernel_rfl) (fun rd ps e1 st1 hq => ?_)
    unfold rpTree1 at hq
    split at hq
    · rename_i s z e m su la i
      simp only [Fin.pick] at hq
      cases hc : pB (rpP z e m su la i s) with
      | false => rw [hc] at hq; cases hq
      | true =>
        rw [hc, cond_true] at hq
        rw [pB_iff] at hc
        obtain ⟨rfl, rfl, rfl, rfl, rfl, rfl, h1⟩ := hc
        obtain ⟨n, this⟩ := rp_loop1 rd s.data.toList 0 0 h1 ⟨0, 0, 3, 13⟩ ⟨Nat.zero_le _, by decide, Nat.le_refl _, Nat.le_refl _, fun t _ => by simp⟩
        dsimp only at this
        rw [show s.data.toList.drop 0 = s.data.toList from rfl] at this
        unfold pmO pmM pmS at hq
        cases hz : pmR s.data.toList 0 3 13 with
        | some p =>
          rw [hz] at hq this
          cases hq
          exact this.loop
        | none =>
          rw [hz] at hq this
          cases hq
          exact this.loop
    · cases hq
  · cases hg
theorem rparse_eval (N : NR) (s : ByteArray) : evalFn Tryz.prog (orcNR N) rpL1 100 74 Tryz.f74 [.str s] [] (fun v _ => some v) =
    cond (codesB [(rpLp1, rpLp1)]) (bif pB (rpP 0 0 0 3 13 0 s) then bif pmO s then bif !decide (pmS s = 0) then some (.tuple [.int .u64 0, .int .i64 40]) else some (.tuple [.int .u64 (pmM s), .int .i64 0]) else some (.tuple [.int .u64 0, .int .i64 40]) else none) none := by kernel_rfl
theorem rparse_p {s : ByteArray} (h : s.data.toList.length ≤ 1000000) : FnPure Tryz.prog 74 [.str s] (.tuple [.int .u64 (prV s), .int .i64 (prE s)]) := by
  have cd : codesB [(rpLp1, rpLp1)] = true := by rw [codesB_iff]; intro x hx; simp at hx; rw [hx]
  have key : evalFn Tryz.prog (orcNR R0) rpL1 100 74 Tryz.f74 [.str s] [] (fun v _ => some v) = some (.tuple [.int .u64 (prV s), .int .i64 (prE s)]) := by
    rw [rparse_eval, cd, pB_iff.2 ⟨rfl, rfl, rfl, rfl, rfl, rfl, h⟩]
    unfold prV prE
    rw [← prR_is]
    unfold prR pmO pmM pmS
    cases hp : pmR s.data.toList 0 3 13 with
    | none => rfl
    | some p =>
      obtain ⟨m, q⟩ := p
      cases q with
      | zero => rfl
      | succ q =>
        simp only [Option.isSome_some, cond_true]
        rw [decide_eq_false (show ¬ ((q + 1 : Nat) : Int) = 0 by omega)]; rfl
  exact fnPure_of_eval (N := 100) orcNR_ok mixed Tryz.func74 (by kernel_rfl) rpL1_ok key rfl rfl
end Go.Proofs.YtpalajfcffdhoaaGreatDoor.N4

/- Chapter 6: strings.Split at spaces, within deal.Read: one round. -/
namespace Go.Proofs.YtpalajfcffdhoaaGreatDoor
open Go Go.Eng
def u64t : TR := .vs [.int .u64, .int .u64, .int .u64, .int .u64]
noncomputable def ssLp : Code := loopOf 11 Tryz.f100
def ssT : Tm := ⟨mkS [(0, .str), (1, .str), (2, .lit .i64 0), (3, .int .i64), (9, .gs 2), (10, .int .i64)] 0 66, [.own 24 u64t, .own 24 u64t, .grow true 9 1 .strs], []⟩
structure R8 where
  r0 : Int
  r1 : Int
  r2 : Int
  r3 : Int
  p0 : Int
  p1 : Int
  p2 : Int
  p3 : Int
def ssP (s : ByteArray) (n i : Int) (r : R8) (ss : List ByteArray) : List PV := [.s s, .s ⟨⟨[32]⟩⟩, .i n, .i i, .i r.r0, .i r.r1, .i r.r2, .i r.r3, .i r.p0, .i r.p1, .i r.p2, .i r.p3, .ss ss]
noncomputable def ssR (n i : Int) (k : Int) (s : ByteArray) (r : R8) (ss : List ByteArray) : RT := bif decide (i < n) then bif decide (k < 0) then some (.exit 0, ssP s n i r ss, []) else
    bif decide (0 ≤ (0 : Int) ∧ 0 ≤ wr .i64 (k + 0) ∧ wr .i64 (k + 0) ≤ Int.ofNat s.data.toList.length) then bif decide (0 ≤ i ∧ i < Int.ofNat ss.length) then bif decide (i.toNat < ss.length) then
      bif decide (0 ≤ wr .i64 (k + 1) ∧ wr .i64 (k + 1) ≤ Int.ofNat s.data.toList.length ∧ Int.ofNat s.data.toList.length ≤ Int.ofNat s.data.toList.length) then
        some (.normal, ssP (extS s (wr .i64 (k + 1)).toNat (Int.ofNat s.data.toList.length).toNat) n (wr .i64 (i + 1)) r (ss.set i.toNat (extS s (0 : Int).toNat (wr .i64 (k + 0)).toNat)), [])
      else none else none else none else none
  else some (.exit 0, ssP s n i r ss, [])
theorem ss_round (rd : Option Nat) (s : ByteArray) (n i : Int) (r : R8) (ss : List ByteArray) : roundT Tryz.prog (N4.orcS N4.tabI plainL) noLoops 100 2 rd 100 ssLp ssT ssT (ssP s n i r ss) = ssR n i (N4.idxI s 32) s r ss := by kernel_rfl
structure ES where
  pk : ByteArray → Bool
  pv : ByteArray → Int
  pe : ByteArray → Int
  u4 : Int → Int → Int → Int → Bool
  pb : Int → Int → Int → Int → Bool
  C : ByteArray → Int → Int → List ByteArray → Bool
  S : ByteArray → ByteArray
  L : ByteArray → List ByteArray
  I : ByteArray → Int
  cs : ByteArray → ByteArray
  cb : ByteArray → Bool
section
variable (E : ES)
def ssTr : List PV → Fin
  | [.s s, .s sep, .i n, .i i, .i r0, .i r1, .i r2, .i r3, .i p0, .i p1, .i p2, .i p3, .ss ss] => .br (strEq sep ⟨⟨[32]⟩⟩ && E.C s n i ss) (.leaf (.exit 0) (ssT.at (ssP (E.S s) n (E.I s) ⟨r0, r1, r2, r3, p0, p1, p2, p3⟩ (E.L s)))) .no
  | _ => .no
noncomputable def ssL : FuncId → Loops := fun f => match f with
  | 100 => sums (fun n => match n with | 11 => some (lsumF 2 ssT ssLp (ssTr E)) | _ => none)
  | _ => noLoops
def sPa : List V → Option (Bool × V)
  | [.str s] => some (E.pk s, .tuple [.int .u64 (E.pv s), .int .i64 (E.pe s)])
  | _ => none
def sPb : List V → Option (Bool × V)
  | [.agg [.int .u64 a, .int .u64 b, .int .u64 c, .int .u64 d]] => some (E.u4 a b c d, .bool (E.pb a b c d))
  | _ => none
def sCp : List V → Option (Bool × V)
  | [.str s, .str ⟨⟨[78, 58]⟩⟩] => some (true, .tuple [.str (E.cs s), .bool (E.cb s)])
  | _ => none
def tabSp : PTab := addTab 71 (sCp E) (addTab 73 (sPa E) (addTab 20 (sPb E) N4.tabI))
noncomputable abbrev orcSp : Oracle := N4.orcS (tabSp E) (ssL E)
end
end Go.Proofs.YtpalajfcffdhoaaGreatDoor

/- Chapter 6: deal.Read's own course. -/
namespace Go.Proofs.YtpalajfcffdhoaaGreatDoor
open Go Go.Eng
def nZ (s : ByteArray) : Int := foldI minI (wr .i64 (N4.cntI s 32 + 1)) [wr .i64 (Int.ofNat s.data.toList.length + 1)]
def e61 : Option V := some (.tuple [.agg [.int .u64 0, .int .u64 0, .int .u64 0, .int .u64 0], .int .i64 61])
section
variable (E : ES)
def rdF (p0 p1 p2 p3 : Int) : Option V := bif E.u4 p0 p1 p2 p3 then bif !E.pb p0 p1 p2 p3 then e61 else some (.tuple [.agg [.int .u64 p0, .int .u64 p1, .int .u64 p2, .int .u64 p3], .int .i64 0]) else none
def rdI (i : Int) (vl : Nat) (L : List ByteArray) (K : Int → Option V) (F : Option V) : Option V := bif decide (i < Int.ofNat vl) then bif decide (0 ≤ i ∧ i < Int.ofNat vl ∧ 0 + vl ≤ L.length) then (match L[i.toNat]? with
  | some x => bif E.pk x then bif !decide (E.pe x = 0) then e61 else K (E.pv x) else none
  | none => none) else none else F
def rdX (vl : Nat) (L : List ByteArray) : Option V := rdI E 0 vl L (fun p0 => rdI E 1 vl L (fun p1 => rdI E 2 vl L (fun p2 => rdI E 3 vl L (fun p3 => rdI E 4 vl L (fun _ => none) (rdF E p0 p1 p2 p3)) (rdF E p0 p1 p2 0)) (rdF E p0 p1 0 0)) (rdF E p0 0 0 0)) (rdF E 0 0 0 0)
noncomputable def rdS (s : ByteArray) (K : Nat → List ByteArray → Option V) : Option V :=
  bif decide (0 ≤ nZ s ∧ nZ s ≤ nZ s ∧ nZ s * 17 ≤ 140737488355328) then (cond (codesB [(ssLp, ssLp)])
    (bif strEq ⟨⟨[32]⟩⟩ ⟨⟨[32]⟩⟩ && E.C s (wr .i64 (nZ s - 1)) 0 (List.replicate (nZ s).toNat ⟨#[]⟩) then 
        bif decide (0 ≤ E.I s ∧ E.I s < Int.ofNat (E.L s).length) then bif decide ((E.I s).toNat < (E.L s).length) then
          bif decide (0 ≤ (0 : Int) ∧ 0 ≤ wr .i64 (E.I s + 1) ∧ wr .i64 (E.I s + 1) ≤ Int.ofNat ((E.L s).set (E.I s).toNat (E.S s)).length) then K (wr .i64 (E.I s + 1)).toNat ((E.L s).set (E.I s).toNat (E.S s)) else none
        else none else none
     else none) none) else none
theorem read_eval (s : ByteArray) : evalFn Tryz.prog (orcSp E) noLoops 100 38 Tryz.f38 [.str s] [] (fun v _ => some v) =
    bif !E.cb s then e61 else bif decide (69 < Int.ofNat s.data.toList.length) then e61 else
    rdS E (E.cs s) fun vl L => bif !decide (Int.ofNat vl = 4) then e61 else rdX E vl L := by kernel_rfl
end
end Go.Proofs.YtpalajfcffdhoaaGreatDoor
