/- Texts merged: DlT, Dl3, DlE, DlP. -/
import Derived.Test.YtpalajfcffdhoaaAw3
/- Chapter 6: the deal that numbers make: the states of its loops. -/
namespace Go.Proofs.Ytpalajfcffdhoaa
open Go Go.Eng Go.Deal
noncomputable def dlLp2 : Code := loopOf 8 Try.f37
noncomputable def dlLp3 : Code := loopOf 15 Try.f37
def z64 : TR := .vs [.lit .u64 0, .lit .u64 0, .lit .u64 0, .lit .u64 0]
def u64s : TR := .vs [.int .u64, .int .u64, .int .u64, .int .u64]
def dlT2 (nn : Bool) : Tm := ⟨mkS [(2, .ptr 1 0), (3, .ptr 2 0), (22, .view 0 1), (23, .int .i64), (24, .int .i64)] 0 62, [.rs nn 1 (.ints .u8), .own 24 z64, .own 105 (.ints .i64)], []⟩
def dlX2 (nn : Bool) : Tm := ⟨mkS [(2, .ptr 1 0), (3, .ptr 2 0)] 0 62, [.rs nn 1 (.ints .u8), .own 24 z64, .own 105 (.ints .i64)], []⟩
def dlT3 (nn : Bool) : Tm := ⟨mkS [(2, .ptr 1 0), (8, .ptr 3 0), (47, .agg [.int .i64]), (48, .int .i64)] 0 62, [.rs nn 1 (.ints .u8), .own 24 z64, .own 105 (.ints .i64), .own 24 u64s], []⟩
noncomputable abbrev orcD : Oracle := orcK n6 (addK tabM) plainL
end Go.Proofs.Ytpalajfcffdhoaa

/- Chapter 6: the deal that numbers make: its last loop. -/
namespace Go.Proofs.Ytpalajfcffdhoaa
open Go Go.Eng Go.Deal
noncomputable abbrev orcZ : Oracle := orcN n6 emptyTab plainL
def d3T (nn : Bool) : Tm := ⟨mkS [(2, .ptr 1 0), (8, .ptr 3 0), (47, .agg (List.replicate 52 (.int .i64))), (48, .int .i64)] 0 62, [.rs nn 1 (.ints .u8), .own 24 z64, .own 105 (.ints .i64), .own 24 u64s], []⟩
def d3X (nn : Bool) : Tm := ⟨mkS [(2, .ptr 1 0), (8, .ptr 3 0)] 0 62, [.rs nn 1 (.ints .u8), .own 24 z64, .own 105 (.ints .i64), .own 24 u64s], []⟩
def lstF (f : Nat → Int) : List Int := [f 0, f 1, f 2, f 3, f 4, f 5, f 6, f 7, f 8, f 9, f 10, f 11, f 12, f 13, f 14, f 15, f 16, f 17, f 18, f 19, f 20, f 21, f 22, f 23, f 24, f 25, f 26, f 27, f 28, f 29, f 30, f 31, f 32, f 33, f 34, f 35, f 36, f 37, f 38, f 39, f 40, f 41, f 42, f 43, f 44, f 45, f 46, f 47, f 48, f 49, f 50, f 51]
def lstP (f : Nat → Int) (r : List PV) : List PV := .i (f 0) :: .i (f 1) :: .i (f 2) :: .i (f 3) :: .i (f 4) :: .i (f 5) :: .i (f 6) :: .i (f 7) :: .i (f 8) :: .i (f 9) :: .i (f 10) :: .i (f 11) :: .i (f 12) :: .i (f 13) :: .i (f 14) :: .i (f 15) :: .i (f 16) :: .i (f 17) :: .i (f 18) :: .i (f 19) :: .i (f 20) :: .i (f 21) :: .i (f 22) :: .i (f 23) :: .i (f 24) :: .i (f 25) :: .i (f 26) :: .i (f 27) :: .i (f 28) :: .i (f 29) :: .i (f 30) :: .i (f 31) :: .i (f 32) :: .i (f 33) :: .i (f 34) :: .i (f 35) :: .i (f 36) :: .i (f 37) :: .i (f 38) :: .i (f 39) :: .i (f 40) :: .i (f 41) :: .i (f 42) :: .i (f 43) :: .i (f 44) :: .i (f 45) :: .i (f 46) :: .i (f 47) :: .i (f 48) :: .i (f 49) :: .i (f 50) :: .i (f 51) :: r
def d3N (f : Nat → Int) (i : Int) (ls xs : List Int) (a b c d : Int) : RT := some (.normal, lstP f [.i (wr .i64 (i + 1)), .l ls, .l xs, .i a, .i b, .i c, .i d], [])
def d3S (j : Int) (f : Nat → Int) (i : Int) (ls xs : List Int) (a b c d v : Int) : RT := bif decide (j = 0) then d3N f i ls xs v b c d else bif decide (j = 1) then d3N f i ls xs a v c d else bif decide (j = 2) then d3N f i ls xs a b v d else bif decide (j = 3) then d3N f i ls xs a b c v else none
def d3C (j x : Int) (f : Nat → Int) (i : Int) (ls xs : List Int) (a b c d v : Int) : RT := bif decide (x < 0) then none else d3S j f i ls xs a b c d (orI v (shlI x))
def d3L (j x : Int) (f : Nat → Int) (i : Int) (ls xs : List Int) (a b c d : Int) : RT := bif decide (j = 0) then d3C j x f i ls xs a b c d a else bif decide (j = 1) then d3C j x f i ls xs a b c d b else bif decide (j = 2) then d3C j x f i ls xs a b c d c else bif decide (j = 3) then d3C j x f i ls xs a b c d d else none
theorem d3_round (nn : Bool) (rd : Option Nat) (f : Nat → Int) (ls xs : List Int) (i a b c d : Int) : roundT Try.prog orcZ noLoops 100 1 rd 37 dlLp3 (d3T nn) (d3X nn) (lstP f [.i i, .l ls, .l xs, .i a, .i b, .i c, .i d]) =
    bif decide (i < 52) then bif decide (0 ≤ i ∧ i < 52) then d3L (wr .i64 (i.tdiv 13)) ((lstF f).getD (i.toNat * 1) 0) f i ls xs a b c d else none else some (.exit 4, [.l ls, .l xs, .i a, .i b, .i c, .i d], []) := by cases nn <;> kernel_rfl
end Go.Proofs.Ytpalajfcffdhoaa

/- Chapter 6: the deal that numbers make: its formula. -/
namespace Go.Proofs.Ytpalajfcffdhoaa
open Go Go.Eng Go.Deal
def atL {α : Type} (l : List Int) (i : Nat) (K : Int → Option α) : Option α := match l[i]? with
  | some v => K v
  | none => none
def dlJ (i v : Int) : Int := wr .i64 (i + (wr .i64 v).tmod (wr .i64 (52 - i)))
def dlR2 (ln : Nat) (n i : Int) (ls xs : List Int) : RT := bif decide (i < n) then bif decide (0 ≤ i ∧ i < Int.ofNat ln ∧ 0 + ln ≤ ls.length) then atL ls i.toNat fun v => bif decide (wr .i64 (52 - i) = 0) then none else
    bif decide (0 ≤ dlJ i v ∧ dlJ i v < 52) then atL xs (dlJ i v).toNat fun v1 => bif decide (0 ≤ i ∧ i < 52) then atL xs i.toNat fun v2 => bif decide (0 ≤ i ∧ i < 52) then bif decide (i.toNat < xs.length) then
      bif decide (0 ≤ dlJ i v ∧ dlJ i v < 52) then bif decide ((dlJ i v).toNat < (xs.set i.toNat v1).length) then
        some (.normal, [.n 0, .n ln, .i n, .i (wr .i64 (i + 1)), .l ls, .l ((xs.set i.toNat v1).set (dlJ i v).toNat v2)], [])
      else none else none else none else none else none else none else none
  else some (.exit 2, [.l ls, .l xs], [])
theorem dl_round2 (nn : Bool) (rd : Option Nat) (ln : Nat) (n i : Int) (ls xs : List Int) : roundT Try.prog orcZ noLoops 100 1 rd 37 dlLp2 (dlT2 nn) (dlX2 nn) [.n 0, .n ln, .i n, .i i, .l ls, .l xs] = dlR2 ln n i ls xs := by cases nn <;> kernel_rfl
def lpF (l : List PV) (j : Nat) : Int := (headP (l.drop j)).toI
section
variable (C : Nat → Nat → Int → Int → List Int → List Int → Bool) (F : List Int → List Int) (C3 : List PV → Bool) (G0 G1 G2 G3 : List PV → Int)
noncomputable def dlTr (nn : Bool) : List PV → Fin
  | [.n l, .n ln, .i n, .i i, .l ls, .l xs] => .br (C l ln n i ls xs) (.leaf (.exit 2) ((dlX2 nn).at [.l ls, .l (F ls)])) .no
  | _ => .no
noncomputable def d3Tr (nn : Bool) (ps : List PV) : Fin := .br (C3 ps) (.leaf (.exit 4) ((d3X nn).at [.l (headP (ps.drop 53)).toL, .l (headP (ps.drop 54)).toL, .i (G0 ps), .i (G1 ps), .i (G2 ps), .i (G3 ps)])) .no
noncomputable def dlL (nn : Bool) : Loops := sums (fun n => match n with | 8 => some (lsumF 1 (dlT2 nn) dlLp2 (dlTr C F nn)) | 15 => some (lsumF 1 (d3T nn) dlLp3 (d3Tr C3 G0 G1 G2 G3 nn)) | _ => none)
def minL (ls : List Int) : Int := foldI minI (Int.ofNat ls.length) [52]
theorem dl_eval (nn : Bool) (ls : List Int) : evalFn Try.prog orcZ (dlL C F C3 G0 G1 G2 G3 nn) 100 37 Try.f37 [.gs 0] [.rs nn 1 (.ints .u8 ls)] (fun v _ => some v) =
    bif decide ((0 : Int) ≤ 0 ∧ 0 ≤ minL ls ∧ minL ls ≤ Int.ofNat ls.length) then cond (codesB [(dlLp2, dlLp2)]) (bif C 0 (minL ls).toNat (Int.ofNat (minL ls).toNat) 0 ls or0 then
      bif decide (0 + 52 ≤ (F ls).length) then cond (codesB [(dlLp3, dlLp3)]) (bif C3 (lstP (fun j => (F ls).getD j 0) [.i 0, .l ls, .l (F ls), .i 0, .i 0, .i 0, .i 0]) then
        some (q4 (G0 (lstP (fun j => (F ls).getD j 0) [.i 0, .l ls, .l (F ls), .i 0, .i 0, .i 0, .i 0])) (G1 (lstP (fun j => (F ls).getD j 0) [.i 0, .l ls, .l (F ls), .i 0, .i 0, .i 0, .i 0])) (G2 (lstP (fun j => (F ls).getD j 0) [.i 0, .l ls, .l (F ls), .i 0, .i 0, .i 0, .i 0])) (G3 (lstP (fun j => (F ls).getD j 0) [.i 0, .l ls, .l (F ls), .i 0, .i 0, .i 0, .i 0]))) else none) none else none else none) none else none := by cases nn <;> kernel_rfl
end
end Go.Proofs.Ytpalajfcffdhoaa

/- Chapter 6: the deal that numbers make: its loops, its contract. -/
namespace Go.Proofs.Ytpalajfcffdhoaa
open Go Go.Eng Go.Deal
theorem codesNil : codesOk [] := fun x h => by cases h
theorem orcZ_ok : OracleOk Try.prog orcZ := orcN_ok emptyTab_ok plainL_ok
def okV (ls : List Int) : Prop := ∀ v ∈ ls, 0 ≤ v ∧ v < 256
theorem atL_at {α : Type} {l : List Int} {i : Nat} (h : i < l.length) (K : Int → Option α) : atL l i K = K l[i] := by
  unfold atL; rw [List.getElem?_eq_getElem h]
theorem dl_loop2 (nn : Bool) (rd : Option Nat) (ls : List Int) (hv : okV ls) (ln : Nat) (hl : ln = min ls.length 52) : ∀ x : Nat × List Int, (x.1 ≤ ln ∧ x.2.length = 52) →
    SimC Try.prog 1 rd (.loop dlLp2) ((dlT2 nn).at [.n 0, .n ln, .i (ln : Int), .i (x.1 : Int), .l ls, .l x.2]) (.exit 2) ((dlX2 nn).at [.l ls, .l (dl x.1 (ls.drop x.1) x.2)]) := by
  refine loop_of_rounds (C := orcZ) (L := noLoops) (N := 100) (me := 37) (T := dlT2 nn) (T' := dlX2 nn) orcZ_ok mixed noLoops_ok (by cases nn <;> kernel_rfl) (by cases nn <;> kernel_rfl) (X := Nat × List Int)
    (fun x => [.n 0, .n ln, .i (ln : Int), .i (x.1 : Int), .l ls, .l x.2]) (fun x => x.1 ≤ ln ∧ x.2.length = 52) (fun x => ln - x.1) (fun x => (.exit 2, [.l ls, .l (dl x.1 (ls.drop x.1) x.2)])) ?_
  rintro ⟨i, xs⟩ ⟨hi, hx⟩
  dsimp only at hi hx ⊢
  have h := dl_round2 nn rd ln (ln : Int) (i : Int) ls xs
  unfold dlR2 at h
  by_cases hlt : i < ln
  · have hil : i < ls.length := by omega
    have hvi := hv ls[i] (List.getElem_mem hil)
    obtain ⟨v, hvv⟩ : ∃ v : Nat, ls[i] = (v : Int) := ⟨ls[i].toNat, by omega⟩
    have hmod : v % (52 - i) < 52 - i := Nat.mod_lt _ (by omega)
    have hJ : dlJ (i : Int) (v : Int) = ((i + v % (52 - i) : Nat) : Int) := by
      unfold dlJ
      rw [wr64 (x := 52 - (i : Int)) (by omega) (by omega), wr64 (x := (v : Int)) (by omega) (by omega), show (52 : Int) - (i : Int) = ((52 - i : Nat) : Int) by omega,
        Int.tmod_eq_emod_of_nonneg (by omega), show (v : Int) % ((52 - i : Nat) : Int) = ((v % (52 - i) : Nat) : Int) by omega, wr64 (by omega) (by omega)]
      omega
    rw [decide_eq_true (show (i : Int) < (ln : Int) by omega), cond_true, decide_eq_true (show 0 ≤ (i : Int) ∧ (i : Int) < Int.ofNat ln ∧ 0 + ln ≤ ls.length from ⟨by omega, by show (i : Int) < (ln : Int); omega, by omega⟩), cond_true, Int.toNat_natCast, atL_at hil, hvv,
      decide_eq_false (show ¬ wr .i64 (52 - (i : Int)) = 0 by rw [wr64 (by omega) (by omega)]; omega), cond_false, hJ] at h
    generalize hj : i + v % (52 - i) = j at *
    have hj52 : j < 52 := by omega
    rw [decide_eq_true (show 0 ≤ (j : Int) ∧ (j : Int) < 52 by omega), cond_true, Int.toNat_natCast, atL_at (by omega), decide_eq_true (show 0 ≤ (i : Int) ∧ (i : Int) < 52 by omega), cond_true, atL_at (by omega), cond_true,
      decide_eq_true (show i < xs.length by omega), cond_true, cond_true, decide_eq_true (show j < (xs.set i xs[j]).length by rw [List.length_set]; omega), cond_true, wr64 (by omega) (by omega)] at h
    have hs : (xs.set i xs[j]).set j xs[i] = swp xs i j := by
      unfold swp
      have e1 : xs.getD j 0 = xs[j] := by simp [show j < xs.length by omega]
      have e2 : xs.getD i 0 = xs[i] := by simp [show i < xs.length by omega]
      rw [e1, e2]
    rw [hs] at h
    refine ⟨_, _, _, h, codesNil, .inl ⟨rfl, (i + 1, swp xs i j), rfl, ⟨by dsimp only; omega, by rw [swp_len]; exact hx⟩, by dsimp only; omega, ?_⟩⟩
    dsimp only
    rw [List.drop_eq_getElem_cons hil, hvv]
    simp only [dl]
    rw [if_pos (show i < 52 by omega), Int.toNat_natCast, hj]
  · rw [decide_eq_false (show ¬ (i : Int) < (ln : Int) by omega), cond_false] at h
    refine ⟨_, _, _, h, codesNil, .inr ⟨(fun h => by cases h), ?_⟩⟩
    have : dl i (ls.drop i) xs = xs := by
      rcases Nat.lt_or_ge i ls.length with h' | h'
      · rw [List.drop_eq_getElem_cons h']
        simp only [dl]
        rw [if_neg (by omega)]
      · rw [List.drop_eq_nil_of_le h']; rfl
    rw [this]
structure H4 where
  a : Nat
  b : Nat
  c : Nat
  d : Nat
def d3U (f : Nat → Int) (i : Nat) (q : H4) : H4 := if i / 13 = 0 then { q with a := q.a ||| 2 ^ (f i).toNat } else if i / 13 = 1 then { q with b := q.b ||| 2 ^ (f i).toNat } else if i / 13 = 2 then { q with c := q.c ||| 2 ^ (f i).toNat } else { q with d := q.d ||| 2 ^ (f i).toNat }
def d3F (f : Nat → Int) : Nat → Nat → H4 → H4
  | 0, _, q => q
  | n + 1, i, q => d3F f n (i + 1) (d3U f i q)
def okQ (q : H4) : Prop := q.a < 2 ^ 52 ∧ q.b < 2 ^ 52 ∧ q.c < 2 ^ 52 ∧ q.d < 2 ^ 52
theorem lstF_get (f : Nat → Int) : ∀ i, i < 52 → (lstF f).getD i 0 = f i := by
  intro i hi
  have : (lstF f).getD i 0 = ((List.range 52).map f).getD i 0 := rfl
  rw [this]
  simp [hi]
theorem d3_loop (nn : Bool) (rd : Option Nat) (f : Nat → Int) (hf : ∀ j, j < 52 → 0 ≤ f j ∧ f j < 52) (ls xs : List Int) : ∀ x : Nat × H4, (x.1 ≤ 52 ∧ okQ x.2) →
    SimC Try.prog 1 rd (.loop dlLp3) ((d3T nn).at (lstP f [.i (x.1 : Int), .l ls, .l xs, .i (x.2.a : Int), .i (x.2.b : Int), .i (x.2.c : Int), .i (x.2.d : Int)])) (.exit 4)
      ((d3X nn).at [.l ls, .l xs, .i ((d3F f (52 - x.1) x.1 x.2).a : Int), .i ((d3F f (52 - x.1) x.1 x.2).b : Int), .i ((d3F f (52 - x.1) x.1 x.2).c : Int), .i ((d3F f (52 - x.1) x.1 x.2).d : Int)]) := by
  refine loop_of_rounds (C := orcZ) (L := noLoops) (N := 100) (me := 37) (T := d3T nn) (T' := d3X nn) orcZ_ok mixed noLoops_ok (by cases nn <;> kernel_rfl) (by cases nn <;> kernel_rfl) (X := Nat × H4)
    (fun x => lstP f [.i (x.1 : Int), .l ls, .l xs, .i (x.2.a : Int), .i (x.2.b : Int), .i (x.2.c : Int), .i (x.2.d : Int)]) (fun x => x.1 ≤ 52 ∧ okQ x.2) (fun x => 52 - x.1)
    (fun x => (.exit 4, [.l ls, .l xs, .i ((d3F f (52 - x.1) x.1 x.2).a : Int), .i ((d3F f (52 - x.1) x.1 x.2).b : Int), .i ((d3F f (52 - x.1) x.1 x.2).c : Int), .i ((d3F f (52 - x.1) x.1 x.2).d : Int)])) ?_
  rintro ⟨i, q⟩ ⟨hi, hq⟩
  dsimp only at hi hq ⊢
  have h := d3_round nn rd f ls xs (i : Int) (q.a : Int) (q.b : Int) (q.c : Int) (q.d : Int)
  by_cases hlt : i < 52
  · obtain ⟨c, hc⟩ : ∃ c : Nat, f i = (c : Int) := ⟨(f i).toNat, by have := hf i hlt; omega⟩
    have hc52 : c < 52 := by have := hf i hlt; omega
    rw [decide_eq_true (show (i : Int) < 52 by omega), cond_true, decide_eq_true (show 0 ≤ (i : Int) ∧ (i : Int) < 52 by omega), cond_true, Int.toNat_natCast, Nat.mul_one, lstF_get f i hlt, hc,
      show (i : Int).tdiv 13 = ((i / 13 : Nat) : Int) by rw [Int.tdiv_eq_ediv_of_nonneg (by omega)]; omega, wr64 (by omega) (by omega)] at h
    have hj : i / 13 < 4 := by omega
    have p64 : 2 ^ c < 18446744073709551616 := by have := p52 (p := c) (by omega); omega
    have key : ∀ {v : Nat}, v < 2 ^ 52 → orI (v : Int) (shlI (c : Int)) = ((v ||| 2 ^ c : Nat) : Int) := fun {v} hv => by
      rw [shlI_n (by omega)]; exact or_nat (lt64 hv) p64
    have e52 : 52 - i = (52 - (i + 1)) + 1 := by omega
    obtain ⟨qa, qb, qc, qd⟩ := hq
    have hU : d3F f (52 - i) i q = d3F f (52 - (i + 1)) (i + 1) (d3U f i q) := by rw [e52]; rfl
    have hfc : (f i).toNat = c := by rw [hc]; rfl
    unfold d3L d3C d3S d3N at h
    have hcase : i / 13 = 0 ∨ i / 13 = 1 ∨ i / 13 = 2 ∨ i / 13 = 3 := by omega
    rcases hcase with g | g | g | g
    · have hq' : d3U f i q = ⟨q.a ||| 2 ^ c, q.b, q.c, q.d⟩ := by unfold d3U; rw [if_pos g, hfc]
      rw [g, decide_eq_true (show ((0 : Nat) : Int) = 0 by decide), cond_true, decide_eq_false (show ¬ (c : Int) < 0 by omega), cond_false, cond_true, key qa, wr64 (by omega) (by omega)] at h
      refine ⟨_, _, _, h, codesNil, .inl ⟨rfl, (i + 1, ⟨q.a ||| 2 ^ c, q.b, q.c, q.d⟩), rfl, ⟨by dsimp only; omega, put_lt hc52 qa, qb, qc, qd⟩, by dsimp only; omega, ?_⟩⟩
      dsimp only; rw [hU, hq']
    · have hq' : d3U f i q = ⟨q.a, q.b ||| 2 ^ c, q.c, q.d⟩ := by unfold d3U; rw [if_neg (by omega), if_pos g, hfc]
      rw [g, decide_eq_false (show ¬ ((1 : Nat) : Int) = 0 by decide), decide_eq_true (show ((1 : Nat) : Int) = 1 by decide), cond_false, cond_true, decide_eq_false (show ¬ (c : Int) < 0 by omega), cond_false, cond_false, cond_true, key qb, wr64 (by omega) (by omega)] at h
      refine ⟨_, _, _, h, codesNil, .inl ⟨rfl, (i + 1, ⟨q.a, q.b ||| 2 ^ c, q.c, q.d⟩), rfl, ⟨by dsimp only; omega, qa, put_lt hc52 qb, qc, qd⟩, by dsimp only; omega, ?_⟩⟩
      dsimp only; rw [hU, hq']
    · have hq' : d3U f i q = ⟨q.a, q.b, q.c ||| 2 ^ c, q.d⟩ := by unfold d3U; rw [if_neg (by omega), if_neg (by omega), if_pos g, hfc]
      rw [g, decide_eq_false (show ¬ ((2 : Nat) : Int) = 0 by decide), decide_eq_false (show ¬ ((2 : Nat) : Int) = 1 by decide), decide_eq_true (show ((2 : Nat) : Int) = 2 by decide), cond_false, cond_false, cond_true, decide_eq_false (show ¬ (c : Int) < 0 by omega), cond_false, cond_false, cond_false, cond_true, key qc, wr64 (by omega) (by omega)] at h
      refine ⟨_, _, _, h, codesNil, .inl ⟨rfl, (i + 1, ⟨q.a, q.b, q.c ||| 2 ^ c, q.d⟩), rfl, ⟨by dsimp only; omega, qa, qb, put_lt hc52 qc, qd⟩, by dsimp only; omega, ?_⟩⟩
      dsimp only; rw [hU, hq']
    · have hq' : d3U f i q = ⟨q.a, q.b, q.c, q.d ||| 2 ^ c⟩ := by unfold d3U; rw [if_neg (by omega), if_neg (by omega), if_neg (by omega), hfc]
      rw [g, decide_eq_false (show ¬ ((3 : Nat) : Int) = 0 by decide), decide_eq_false (show ¬ ((3 : Nat) : Int) = 1 by decide), decide_eq_false (show ¬ ((3 : Nat) : Int) = 2 by decide), decide_eq_true (show ((3 : Nat) : Int) = 3 by decide), cond_false, cond_false, cond_false, cond_true, decide_eq_false (show ¬ (c : Int) < 0 by omega), cond_false, cond_false, cond_false, cond_false, cond_true, key qd, wr64 (by omega) (by omega)] at h
      refine ⟨_, _, _, h, codesNil, .inl ⟨rfl, (i + 1, ⟨q.a, q.b, q.c, q.d ||| 2 ^ c⟩), rfl, ⟨by dsimp only; omega, qa, qb, qc, put_lt hc52 qd⟩, by dsimp only; omega, ?_⟩⟩
      dsimp only; rw [hU, hq']
  · have : i = 52 := by omega
    subst this
    rw [decide_eq_false (show ¬ ((52 : Nat) : Int) < 52 by decide), cond_false] at h
    exact ⟨_, _, _, h, codesNil, .inr ⟨(fun h => by cases h), rfl⟩⟩
end Go.Proofs.Ytpalajfcffdhoaa
