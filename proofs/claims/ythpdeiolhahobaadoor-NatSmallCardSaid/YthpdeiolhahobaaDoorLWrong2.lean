/- Chapter 2: the law NatWrong is true. -/
import Derived.Test.YthpdeiolhahobaaDoorAwake
import Derived.Test.YthpdeiolhahobaaDoorCho2
namespace Go.Proofs.YthpdeiolhahobaaDoor
open Go Go.Eng
def lwI (T : ByteArray) (f : Int) : Int := (wr .i64 f).tmod (wr .i64 (Int.ofNat (lenS T) + 1))
def lwS0 (T : ByteArray) : ByteArray := catS ⟨#[48]⟩ T
def lwS1 (T : ByteArray) (e i : Int) : ByteArray := catS (catS (extS T 0 i.toNat) (bytesOf [e])) (extS T i.toNat (Int.ofNat (lenS T)).toNat)
def lwC (N : NW) (T : ByteArray) (n : Int) (X : Option V) : Option V := bif decide (N.ofE (foldI minI n [-1]) = 21) then bif decide (N.che (foldI minI n [-1]) = 2) then bif decide (N.che (foldI maxI n [129]) = 5) then bif decide (N.rdE (lwS0 T) = 20) then bif decide (N.rdE ⟨#[]⟩ = 20) then X else fls2 else fls2 else fls2 else fls2 else fls2
def lwAll (N : NW) (T : ByteArray) (n e i : Int) (ia : Bool) : Option V :=
  bif N.ofC (foldI minI n [-1]) then bif ia then bif decide (1 + lenS T ≤ 9223372036854775807) then bif N.rdC (lwS0 T) then bif N.rdC ⟨#[]⟩ then bif decide (wr .i64 (Int.ofNat (lenS T) + 1) = 0) then none else
  bif decide ((0 : Int) ≤ 0 ∧ 0 ≤ i ∧ i ≤ Int.ofNat (lenS T)) then bif decide (lenS (extS T 0 i.toNat) + 1 ≤ 9223372036854775807) then bif decide (0 ≤ i ∧ i ≤ Int.ofNat (lenS T) ∧ Int.ofNat (lenS T) ≤ Int.ofNat (lenS T)) then
  bif decide (lenS (catS (extS T 0 i.toNat) (bytesOf [e])) + lenS (extS T i.toNat (Int.ofNat (lenS T)).toNat) ≤ 9223372036854775807) then bif N.rdC (lwS1 T e i) then
    bif decide (48 ≤ e) then lwC N T n (bif decide (e ≤ 57) then some (.bool true) else some (.bool (decide (N.rdE (lwS1 T e i) = 20)))) else lwC N T n (some (.bool (decide (N.rdE (lwS1 T e i) = 20))))
  else none else none else none else none else none else none else none else none else none else none
theorem wrong_eval (N : NW) (a b c d n e f : Int) : evalFn Tryd.prog (orcW N) noLoops 200 5 Tryd.f5 [.agg [.int .u32 a, .int .u32 b, .int .u32 c, .int .u32 d], .int .i64 n, .int .u8 e, .int .u8 f] [] (fun v _ => some v) =
    lwAll N (N.tx (N.z a b c d)) n e (lwI (N.tx (N.z a b c d)) f) (N.inn a b c d) := by kernel_rfl
def txB (z : Int) : ByteArray := bytesOf (tx z.toNat)
def rdC0 (s : ByteArray) : Bool := decide (lenS s ≤ 9223372036854775807)
def ofC0 (n : Int) : Bool := decide (-9223372036854775808 ≤ n ∧ n < 9223372036854775808)
def W0 : NW := ⟨nval, w0, w1, w2, w3, inN, ofZ, ofE, ofC0, chZ, chE, txB, rdV, rdE, rdC0, intZ, intE, cmpI⟩
theorem tabW_ok : PTabOk Tryd.prog (tabNW W0) := by
  refine addTab_ok ?_ (addTab_ok ?_ (addTab_ok ?_ (addTab_ok ?_ (addTab_ok ?_ (addTab_ok ?_ (addTab_ok ?_ emptyTab_ok))))))
  · intro args c v h hc
    unfold gOfW at h
    split at h
    · cases h; exact of_p (of_decide_eq_true hc)
    · cases h
  · intro args c v h _
    unfold gChW at h
    split at h
    · cases h; exact choose_p _ _
    · cases h
  · intro args c v h hc
    unfold gTxW at h
    split at h
    · cases h; exact text_p hc
    · cases h
  · intro args c v h hc
    unfold gRdW at h
    split at h
    · cases h; exact read_p (of_decide_eq_true hc)
    · cases h
  · intro args c v h hc
    unfold gIntW at h
    split at h
    · cases h; exact int_p hc
    · cases h
  · intro args c v h hc
    unfold gCmpW at h
    split at h
    · cases h
      have hc' : (inN _ _ _ _ && inN _ _ _ _) = true := hc
      simp only [Bool.and_eq_true] at hc'
      exact cmp_p hc'.1 hc'.2
    · cases h
  · intro args c v h _
    unfold gAwake at h
    split at h
    · cases h; exact awake_p
    · cases h
theorem orcW_ok : OracleOk Tryd.prog (orcW W0) := orcP_ok tabW_ok plainL_ok
theorem lenS_txB {z : Int} (h : 0 ≤ z ∧ z < 340282366920938463463374607431768211456) : 0 < lenS (txB z) ∧ lenS (txB z) ≤ 39 := by
  have e : lenS (txB z) = (tx z.toNat).length := by unfold txB bytesOf lenS; simp
  rw [e]
  exact ⟨tx_pos _, tx_len (by omega)⟩
theorem rdOk_all : ∀ {l : List UInt8}, rdOk l = true → l.all isDig = true
  | [], h => by cases h
  | [b], h => by simpa [rdOk] using h
  | b :: b2 :: r, h => by
    simp only [rdOk, Bool.and_eq_true] at h
    rw [List.all_cons, Bool.and_eq_true]
    exact ⟨h.2.1, h.2.2⟩
theorem rdE_bad {s : ByteArray} (h : rdOk s.data.toList = false) : rdE s = 20 := by unfold rdE; rw [h]; rfl
theorem catS_list (a b : ByteArray) : (catS a b).data.toList = a.data.toList ++ b.data.toList := rfl
theorem rdE_s0 {T : ByteArray} (h : 0 < lenS T) : rdE (lwS0 T) = 20 := by
  refine rdE_bad ?_
  unfold lwS0
  rw [catS_list]
  unfold lenS at h
  show rdOk (48 :: T.data.toList) = false
  cases hl : T.data.toList with
  | nil => rw [hl] at h; simp at h
  | cons b r => rfl
theorem rdE_s1 {T : ByteArray} {e i : Int} (he : 0 ≤ e ∧ e < 256) (hd : ¬ (48 ≤ e ∧ e ≤ 57)) : rdE (lwS1 T e i) = 20 := by
  refine rdE_bad ?_
  cases hr : rdOk (lwS1 T e i).data.toList with
  | false => rfl
  | true =>
    exfalso
    have h1 := rdOk_all hr
    unfold lwS1 at h1
    rw [catS_list, catS_list, List.all_append, List.all_append, Bool.and_eq_true, Bool.and_eq_true] at h1
    have h2 := h1.1.2
    have h3 : isDig (UInt8.ofNat e.toNat) = true := by simpa [bytesOf] using h2
    unfold isDig at h3
    simp only [decide_eq_true_eq, UInt8.toNat_ofNat'] at h3
    omega
theorem wrong_true {a b c d n e f : Int} (hx : inN a b c d = true) (hn : -9223372036854775808 ≤ n ∧ n < 9223372036854775808) (he : 0 ≤ e ∧ e < 256) (hf : 0 ≤ f ∧ f < 256) :
    evalFn Tryd.prog (orcW W0) noLoops 200 5 Tryd.f5 [.agg [.int .u32 a, .int .u32 b, .int .u32 c, .int .u32 d], .int .i64 n, .int .u8 e, .int .u8 f] [] (fun v _ => some v) = some (.bool true) := by
  rw [wrong_eval, show W0.tx = txB from rfl, show W0.z = nval from rfl, show W0.inn = inN from rfl, hx]
  obtain ⟨t0, t1⟩ := lenS_txB (nval_range hx)
  generalize txB (nval a b c d) = T at *
  have hm : foldI minI n [-1] = if -1 < n then -1 else n := by
    simp only [foldI, minI]
    by_cases h : -1 < n
    · rw [decide_eq_true h, if_pos h]; rfl
    · rw [decide_eq_false h, if_neg h]; rfl
  have hM : foldI maxI n [129] = if n < 129 then 129 else n := by
    simp only [foldI, maxI]
    by_cases h : n < 129
    · rw [decide_eq_true h, if_pos h]; rfl
    · rw [decide_eq_false h, if_neg h]; rfl
  have hmr : foldI minI n [-1] < 0 ∧ -9223372036854775808 ≤ foldI minI n [-1] := by rw [hm]; split <;> omega
  have hMr : 128 < foldI maxI n [129] := by rw [hM]; split <;> omega
  have hL : Int.ofNat (lenS T) = ((lenS T : Nat) : Int) := rfl
  have hi : lwI T f = f % ((lenS T : Int) + 1) := by
    unfold lwI
    rw [hL, wr64 (x := f) (by omega) (by omega), wr64 (by omega) (by omega), Int.tmod_eq_emod_of_nonneg (by omega)]
  have hi2 : 0 ≤ lwI T f ∧ lwI T f ≤ ((lenS T : Nat) : Int) := by
    rw [hi]
    have h1 := Int.emod_nonneg f (show (lenS T : Int) + 1 ≠ 0 by omega)
    have h2 := Int.emod_lt_of_pos f (show 0 < (lenS T : Int) + 1 by omega)
    omega
  generalize lwI T f = i at *
  have l0 : lenS (extS T 0 i.toNat) ≤ lenS T := by unfold extS lenS; simp; omega
  have l1 : lenS (extS T i.toNat (Int.ofNat (lenS T)).toNat) ≤ lenS T := by unfold extS lenS; simp
  have l2 : lenS (catS (extS T 0 i.toNat) (bytesOf [e])) = lenS (extS T 0 i.toNat) + 1 := by unfold lenS; rw [catS_list, List.length_append]; simp [bytesOf]
  have l3 : lenS (lwS1 T e i) = lenS (catS (extS T 0 i.toNat) (bytesOf [e])) + lenS (extS T i.toNat (Int.ofNat (lenS T)).toNat) := by unfold lwS1 lenS; rw [catS_list, List.length_append]
  have l4 : lenS (lwS0 T) = lenS T + 1 := by unfold lwS0 lenS; rw [catS_list, List.length_append]; simp; omega
  have chain : ∀ X : Option V, lwC W0 T n X = X := fun X => by
    unfold lwC
    have c1 : W0.ofE (foldI minI n [-1]) = 21 := by
      rw [show W0.ofE = ofE from rfl]; unfold ofE; rw [decide_eq_true hmr.1]; rfl
    have c2 : W0.che (foldI minI n [-1]) = 2 := by
      rw [show W0.che = chE from rfl]; unfold chE; rw [decide_eq_true hmr.1]; rfl
    have c3 : W0.che (foldI maxI n [129]) = 5 := by
      rw [show W0.che = chE from rfl]; unfold chE; rw [decide_eq_false (show ¬ foldI maxI n [129] < 0 by omega), decide_eq_true hMr]; rfl
    rw [c1, c2, c3, show W0.rdE = rdE from rfl, rdE_s0 t0, show rdE ⟨#[]⟩ = 20 from rfl]; rfl
  unfold lwAll
  rw [chain, chain, show W0.ofC = ofC0 from rfl, show W0.rdC = rdC0 from rfl, show W0.rdE = rdE from rfl]
  have d1 : ofC0 (foldI minI n [-1]) = true := by unfold ofC0; rw [decide_eq_true (by omega)]
  have d2 : rdC0 (lwS0 T) = true := by unfold rdC0; rw [decide_eq_true (by omega)]
  have d3 : rdC0 (lwS1 T e i) = true := by unfold rdC0; rw [decide_eq_true (by omega)]
  have d4 : rdC0 ⟨#[]⟩ = true := by unfold rdC0; rw [decide_eq_true (by show (0 : Nat) ≤ _; omega)]
  rw [d1, d2, d3, d4, hL, wr64 (x := ((lenS T : Nat) : Int) + 1) (by omega) (by omega), decide_eq_true (show 1 + lenS T ≤ 9223372036854775807 by omega), decide_eq_false (show ¬ ((lenS T : Nat) : Int) + 1 = 0 by omega),
    decide_eq_true (show (0 : Int) ≤ 0 ∧ 0 ≤ i ∧ i ≤ ((lenS T : Nat) : Int) by omega), decide_eq_true (show lenS (extS T 0 i.toNat) + 1 ≤ 9223372036854775807 by omega), decide_eq_true (show 0 ≤ i ∧ i ≤ ((lenS T : Nat) : Int) ∧ ((lenS T : Nat) : Int) ≤ ((lenS T : Nat) : Int) by omega)]
  rw [hL] at l1 l3
  rw [decide_eq_true (show lenS (catS (extS T 0 i.toNat) (bytesOf [e])) + lenS (extS T i.toNat (((lenS T : Nat) : Int)).toNat) ≤ 9223372036854775807 by omega)]
  simp only [cond_true, cond_false]
  by_cases h48 : 48 ≤ e
  · rw [decide_eq_true h48]
    by_cases h57 : e ≤ 57
    · rw [decide_eq_true h57]; rfl
    · rw [decide_eq_false h57, rdE_s1 he (by omega)]; rfl
  · rw [decide_eq_false h48, rdE_s1 he (by omega)]; rfl
end Go.Proofs.YthpdeiolhahobaaDoor
