/- Texts merged: Hist, Ir2. -/
import Derived.Test.YtojlmpcbplepcaaGreatLeg
/- Chapter 9: what a state tells of the calls that led to it. -/
namespace Go.Proofs.YtojlmpcbplepcaaGreat
open Go Go.Eng
def rkF : Nat → Int → List Int → Option Int
  | _, r, [] => some r
  | k, r, x :: t => if x = 0 then rkF (k + 1) r t else if x = r + 1 ∧ decide (k % 2 = 1) = decide (r = 1) then rkF (k + 1) (r + 1) t else none
def rkS (k : Nat) (x : Int) (r : Int) : Option Int := if x = 0 then some r else if x = r + 1 ∧ decide (k % 2 = 1) = decide (r = 1) then some (r + 1) else none
theorem rkF_snoc (x : Int) : ∀ (t : List Int) (k : Nat) (r : Int), rkF k r (t ++ [x]) = (rkF k r t).bind (rkS (k + t.length) x)
  | [], k, r => by
    simp only [List.nil_append, rkF, rkS, Option.bind_some, List.length_nil, Nat.add_zero]
  | y :: t, k, r => by
    simp only [List.cons_append, rkF, List.length_cons]
    have e : k + 1 + t.length = k + (t.length + 1) := by omega
    by_cases h0 : y = 0
    · rw [if_pos h0, if_pos h0, rkF_snoc x t (k + 1) r, e]
    · rw [if_neg h0, if_neg h0]
      by_cases h1 : y = r + 1 ∧ decide (k % 2 = 1) = decide (r = 1)
      · rw [if_pos h1, if_pos h1, rkF_snoc x t (k + 1) (r + 1), e]
      · rw [if_neg h1, if_neg h1]; rfl
def fCond (d : Int) (sd : Int) (dn : Int) (i : Nat) (x : Int) : Bool := isBid x && (decide (dnI x = dn) && decide ((d + (i : Int)) % 2 = sd))
def fstI (d sd dn : Int) : Nat → List Int → Option Nat
  | _, [] => none
  | i, x :: r => bif fCond d sd dn i x then some i else fstI d sd dn (i + 1) r
theorem fstI_snoc (d sd dn : Int) (x : Int) : ∀ (l : List Int) (i : Nat), fstI d sd dn i (l ++ [x]) = (match fstI d sd dn i l with | some j => some j | none => bif fCond d sd dn (i + l.length) x then some (i + l.length) else none)
  | [], i => by simp only [List.nil_append, fstI, List.length_nil, Nat.add_zero]
  | y :: l, i => by
    simp only [List.cons_append, fstI, List.length_cons]
    cases fCond d sd dn i y with
    | true => rfl
    | false =>
      simp only [cond_false]
      rw [fstI_snoc d sd dn x l (i + 1), show i + 1 + l.length = i + (l.length + 1) by omega]
def mxS (s : St) : Int := bif s.b.m then 3 + 9 * (s.b.c - 3) + 1 + 3 * s.risk + s.passes else s.passes
def tz (l : List Int) : Nat := (l.reverse.takeWhile fun x => decide (x = 0)).length
theorem tz_pass (l : List Int) : tz (l ++ [0]) = tz l + 1 := by simp [tz]
theorem tz_call {c : Int} (h : c ≠ 0) (l : List Int) : tz (l ++ [c]) = 0 := by simp [tz, h]
structure Hist (d : Int) (l : List Int) (s : St) : Prop where
  turn : s.turn = (d + (l.length : Int)) % 4
  nob : s.b.m = false → (∀ c ∈ l, c = 0) ∧ s.passes = (l.length : Int) ∧ s.risk = 0
  bid : s.b.m = true → ∃ a : Nat, a < l.length ∧ l.getD a 0 = s.b.c ∧ isBid s.b.c = true ∧ s.b.s = (d + (a : Int)) % 4 ∧ (∀ j, a < j → j < l.length → isBid (l.getD j 0) = false) ∧ rkF 0 0 (l.drop (a + 1)) = some s.risk
  fst : ∀ sd dn : Nat, sd < 2 → dn < 5 → match fstI d (sd : Int) (dn : Int) 0 l with
    | none => (s.fst (sd * 5 + dn)).m = false
    | some i => (s.fst (sd * 5 + dn)).m = true ∧ (s.fst (sd * 5 + dn)).s = (d + (i : Int)) % 4
  tz : s.passes = (tz l : Int)
  len : (l.length : Int) ≤ mxS s
theorem hist0 {d : Int} (hd : 0 ≤ d ∧ d < 4) : Hist d [] (st0 d) :=
  ⟨by show d = _; simp; omega, fun _ => ⟨(fun c hc => by cases hc), rfl, rfl⟩, (fun h => by cases h), fun sd dn _ _ => by simp only [fstI]; rw [fst0]; rfl, rfl, by show (0 : Int) ≤ 0; omega⟩
theorem getD_app {l : List Int} {c : Int} {j : Nat} (h : j < l.length) : (l ++ [c]).getD j 0 = l.getD j 0 := by
  rw [List.getD_eq_getElem?_getD, List.getD_eq_getElem?_getD, List.getElem?_append_left h]
theorem getD_last (l : List Int) (c : Int) : (l ++ [c]).getD l.length 0 = c := by
  rw [List.getD_eq_getElem?_getD, List.getElem?_append_right (Nat.le_refl _)]; simp
theorem drop_app {l : List Int} {c : Int} {a : Nat} (h : a < l.length) : (l ++ [c]).drop (a + 1) = l.drop (a + 1) ++ [c] := by
  rw [List.drop_append_of_le_length (by omega)]
theorem hist_keep {d c : Int} {l : List Int} {s t : St} (h : Hist d l s) (hc : isBid c = false) (hf : ∀ j, t.fst j = s.fst j) : ∀ sd dn : Nat, sd < 2 → dn < 5 → match fstI d (sd : Int) (dn : Int) 0 (l ++ [c]) with
    | none => (t.fst (sd * 5 + dn)).m = false
    | some i => (t.fst (sd * 5 + dn)).m = true ∧ (t.fst (sd * 5 + dn)).s = (d + (i : Int)) % 4 := by
  intro sd dn h1 h2
  have := h.fst sd dn h1 h2
  rw [fstI_snoc, hf]
  cases he : fstI d (sd : Int) (dn : Int) 0 l with
  | some i => rw [he] at this; exact this
  | none =>
    rw [he] at this
    have e : fCond d (sd : Int) (dn : Int) (0 + l.length) c = false := by unfold fCond; rw [hc]; rfl
    dsimp only
    rw [e]; exact this
theorem hist_aft {d c : Int} {l : List Int} {s : St} (h : Hist d l s) (iv : Inv s) (hp : 0 ≤ s.passes ∧ s.passes ≤ 4) (hc : chk s c = 0) (hc0 : 0 ≤ c) : Hist d (l ++ [c]) (aft s c) := by
  have hlen : ((l ++ [c]).length : Int) = (l.length : Int) + 1 := by simp
  have htn : nx s.turn = (d + ((l.length : Int) + 1)) % 4 := by rw [nx_is iv.g.1, h.turn]; omega
  obtain ⟨ho, h37⟩ := chk_open hc
  have hcl := h.len
  have hr := iv.risk
  have hpass : s.b.m = true → s.passes ≤ 2 := fun hm => by
    unfold ovr at ho; rw [hm] at ho; simp only [cond_true, decide_eq_false_iff_not] at ho; omega
  have hpass0 : s.b.m = false → s.passes ≤ 3 := fun hm => by
    unfold ovr at ho; rw [hm] at ho; simp only [cond_false, decide_eq_false_iff_not] at ho; omega
  have h4 : c = 0 ∨ (c = 1 ∨ c = 2) ∨ isBid c = true := by
    simp only [isBid, Bool.and_eq_true, decide_eq_true_eq]; omega
  rcases h4 with rfl | h4 | h4
  · -- a pass
    rw [aft_pass]
    have e2 : (passA s).passes = s.passes + 1 := wr64 (by omega) (by omega)
    refine ⟨by rw [hlen]; exact htn, fun hm => ?_, fun hm => ?_, hist_keep h rfl (fun _ => rfl), ?_, ?_⟩
    · obtain ⟨q1, q2, q3⟩ := h.nob hm
      refine ⟨fun x hx => ?_, by rw [e2, hlen, q2], q3⟩
      rcases List.mem_append.1 hx with hx | hx
      · exact q1 x hx
      · exact List.mem_singleton.1 hx
    · obtain ⟨a, q1, q2, q3, q4, q5, q6⟩ := h.bid hm
      refine ⟨a, by simp; omega, by rw [getD_app q1]; exact q2, q3, q4, fun j h1 h2 => ?_, ?_⟩
      · simp only [List.length_append, List.length_singleton] at h2
        by_cases hj : j < l.length
        · rw [getD_app hj]; exact q5 j h1 hj
        · rw [show j = l.length by omega, getD_last]; rfl
      · rw [drop_app q1, rkF_snoc, q6]; rfl
    · rw [e2, h.tz, tz_pass]; omega
    · rw [hlen]
      unfold mxS at hcl ⊢
      rw [e2, show (passA s).b = s.b from rfl, show (passA s).risk = s.risk from rfl]
      cases hm : s.b.m with
      | true => rw [hm] at hcl; simp only [cond_true] at hcl ⊢; omega
      | false => rw [hm] at hcl; simp only [cond_false] at hcl ⊢; omega
  · -- a double, a redouble
    rw [aft_dbl h4]
    have hnb : isBid c = false := by rcases h4 with rfl | rfl <;> rfl
    have hm : s.b.m = true ∧ s.risk = c - 1 ∧ (c = 2 ↔ same2 s = true) := by
      unfold chk at hc
      rw [ho, decide_eq_true h37] at hc
      rcases h4 with rfl | rfl
      · cases hbm : s.b.m with
        | false => rw [hbm] at hc; cases hc
        | true =>
          rw [hbm] at hc
          cases hs : same2 s with
          | true => rw [hs] at hc; cases hc
          | false =>
            rw [hs] at hc
            by_cases hk : s.risk = 0
            · exact ⟨rfl, by omega, by simp⟩
            · rw [decide_eq_false hk] at hc; cases hc
      · cases hbm : s.b.m with
        | false => rw [hbm] at hc; cases hc
        | true =>
          rw [hbm] at hc
          cases hs : same2 s with
          | false => rw [hs] at hc; cases hc
          | true =>
            rw [hs] at hc
            by_cases hk : s.risk = 1
            · exact ⟨rfl, by omega, by simp⟩
            · rw [decide_eq_false hk] at hc; cases hc
    obtain ⟨hbm, hrk, hsm⟩ := hm
    have hp2 := hpass hbm
    obtain ⟨a, q1, q2, q3, q4, q5, q6⟩ := h.bid hbm
    refine ⟨by rw [hlen]; exact htn, fun hm => (by rw [show (dblA s c).b = s.b from rfl, hbm] at hm; cases hm), fun _ => ⟨a, by simp; omega, by rw [getD_app q1]; exact q2, q3, q4, fun j h1 h2 => ?_, ?_⟩, hist_keep h hnb (fun _ => rfl), ?_, ?_⟩
    · simp only [List.length_append, List.length_singleton] at h2
      by_cases hj : j < l.length
      · rw [getD_app hj]; exact q5 j h1 hj
      · rw [show j = l.length by omega, getD_last]; exact hnb
    · rw [drop_app q1, rkF_snoc, q6]
      show rkS (0 + (l.drop (a + 1)).length) c s.risk = some c
      have hdl : (l.drop (a + 1)).length = l.length - (a + 1) := List.length_drop
      have hpar : same2 s = true ↔ (0 + (l.drop (a + 1)).length) % 2 = 1 := by
        unfold same2
        rw [decide_eq_true_eq, q4, h.turn, Int.tmod_eq_emod_of_nonneg (by omega), Int.tmod_eq_emod_of_nonneg (by omega), hdl]
        omega
      unfold rkS
      have hc1 : decide ((0 + (l.drop (a + 1)).length) % 2 = 1) = decide (s.risk = 1) := by
        congr 1
        simp only [eq_iff_iff]
        rw [← hpar, ← hsm, hrk]; omega
      rw [if_neg (by omega), if_pos ⟨by omega, hc1⟩]
      congr 1; omega
    · show (0 : Int) = _
      rw [tz_call (by omega)]; rfl
    · rw [hlen]
      unfold mxS at hcl ⊢
      rw [show (dblA s c).b = s.b from rfl, show (dblA s c).risk = c from rfl, show (dblA s c).passes = 0 from rfl, hbm]
      rw [hbm] at hcl
      simp only [cond_true] at hcl ⊢
      omega
  · -- a bid
    obtain ⟨a1, a2, a3, a4, a5⟩ := aft_bid (s := s) h4
    have hb := h4
    simp only [isBid, Bool.and_eq_true, decide_eq_true_eq] at hb
    have hdr := dn_range h4
    have hgt : s.b.m = true → s.b.c < c := fun hm => by
      unfold chk at hc
      rw [ho, decide_eq_true h37, decide_eq_false (show ¬ c = 0 by omega), decide_eq_false (show ¬ c = 1 by omega), decide_eq_false (show ¬ c = 2 by omega)] at hc
      by_cases hk : s.b.c < c
      · exact hk
      · rw [decide_eq_false hk] at hc; cases hc
    refine ⟨by rw [hlen, a2]; exact htn, fun hm => (by rw [a1] at hm; cases hm), fun _ => ⟨l.length, by simp, by rw [getD_last, a1]; rfl, by rw [a1]; exact h4, by rw [a1]; show s.turn = _; exact h.turn, fun j h1 h2 => (by simp at h2; omega), ?_⟩, fun sd dn h1 h2 => ?_, ?_, ?_⟩
    · rw [a3, List.drop_eq_nil_of_le (by simp)]; rfl
    · have hf := h.fst sd dn h1 h2
      rw [fstI_snoc, a5 _ (by omega)]
      have hfc : fCond d (sd : Int) (dn : Int) (0 + l.length) c = decide (sd * 5 + dn = kOf s.turn (dnI c)) := by
        unfold fCond
        rw [h4, Bool.true_and, ← Bool.decide_and]
        congr 1
        simp only [eq_iff_iff]
        unfold kOf
        rw [h.turn, Nat.zero_add]
        omega
      cases he : fstI d (sd : Int) (dn : Int) 0 l with
      | some i =>
        rw [he] at hf
        dsimp only at hf ⊢
        rw [if_neg (fun ⟨_, q⟩ => by rw [hf.1] at q; cases q)]
        exact hf
      | none =>
        rw [he] at hf
        dsimp only at hf ⊢
        rw [hfc]
        by_cases hk : sd * 5 + dn = kOf s.turn (dnI c)
        · rw [decide_eq_true hk, if_pos ⟨hk, hf⟩]
          refine ⟨rfl, ?_⟩
          show s.turn = _
          rw [h.turn, Nat.zero_add]
        · rw [decide_eq_false hk, if_neg (fun ⟨q, _⟩ => hk q)]; exact hf
    · rw [a4, tz_call (by omega)]; rfl
    · rw [hlen]
      unfold mxS at hcl ⊢
      rw [a3, a4, a1]
      show _ ≤ bif true then _ else _
      simp only [cond_true]
      show _ ≤ 3 + 9 * (c - 3) + 1 + 3 * 0 + 0
      cases hm : s.b.m with
      | true =>
        have := hgt hm
        have := hpass hm
        rw [hm] at hcl
        simp only [cond_true] at hcl
        omega
      | false =>
        have := hpass0 hm
        rw [hm] at hcl
        simp only [cond_false] at hcl
        omega
theorem hist {d : Int} {l : List Int} (hk : okA d l = true) (h : (fol d l).e = 0) : Hist d l (fol d l).s := by
  have hd := fol_d h
  have hd0 : 0 ≤ d := by simp only [okA, Bool.and_eq_true, decide_eq_true_eq] at hk; exact hk.1
  have key := right_ind (d := d) hd (P := fun l s => okA d l = true → Hist d l s) (fun _ => hist0 ⟨hd0, by omega⟩) (fun l c hl ih hc hk => by
    have hu := okA_U hk
    have hk1 : okA d l = true := by
      simp only [okA, smallL, Bool.and_eq_true, decide_eq_true_eq, allU_iff, List.length_append, List.length_singleton] at hk ⊢
      exact ⟨hk.1, by omega, fun x hx => hk.2.2 x (List.mem_append_left _ hx)⟩
    have hc0 : 0 ≤ c := by rw [allU_iff] at hu; exact (hu c (by simp)).1
    exact hist_aft (ih hk1) (inv_fol hk1 hl) (passes_ok hd l hl (okA_U hk1)) hc hc0)
  exact key l h hk
end Go.Proofs.YtojlmpcbplepcaaGreat

/- Chapter 10: over, free, low, passed: their contracts. -/
namespace Go.Proofs.YtojlmpcbplepcaaGreat
open Go Go.Eng
def atN {α : Type} (l : List Int) (i : Nat) (K : Int → Option α) : Option α := match l[i]? with | some v => K v | none => none
noncomputable def overE (N : NI) (d : Int) (xs ys : List Int) : Option V := bif N.K (N.MK d (N.LI xs)) ys then some (.bool (N.OB (N.MK d (N.LI xs)) ys)) else none
def tl (N : NI) (xs : List Int) : List Int := List.take ((Int.ofNat xs.length).toNat - (N.LI xs).toNat) (List.drop (N.LI xs).toNat xs)
theorem over_eval10 (N : NI) (nn : Bool) (d : Int) (xs : List Int) : evalFn Tryz.prog (orcI N (tabI N) plainL) noLoops 100 52 Tryz.f52 [.int .u8 d, .gs 0] [.rs nn 1 (.ints .u8 xs)] (fun v _ => some v) =
    bif N.KS xs then bif decide (0 ≤ N.LI xs ∧ N.LI xs ≤ Int.ofNat xs.length ∧ Int.ofNat xs.length ≤ Int.ofNat xs.length) then bif decide ((N.LI xs).toNat + ((Int.ofNat xs.length).toNat - (N.LI xs).toNat) ≤ xs.length) then overE N d xs (tl N xs) else none else none else none := by cases nn <;> kernel_rfl
noncomputable def freeE (N : NI) (d x : Int) (xs ys : List Int) : Option V := bif decide (ys.length * 2 ≤ 70368744177664) then bif decide ((ys ++ [x]).length * 2 ≤ 70368744177664) then
  bif N.K (N.MK d (N.LI xs)) (ys ++ [x]) then some (.bool (decide (N.CE (N.MK d (N.LI xs)) (ys ++ [x]) = 0))) else none else none else none
theorem free_eval (N : NI) (nn : Bool) (d x : Int) (xs : List Int) : evalFn Tryz.prog (orcI N (tabI N) plainL) noLoops 100 61 Tryz.f61 [.int .u8 d, .gs 0, .int .u8 x] [.rs nn 1 (.ints .u8 xs)] (fun v _ => some v) =
    bif N.KS xs then bif decide (0 ≤ N.LI xs ∧ N.LI xs ≤ Int.ofNat xs.length ∧ Int.ofNat xs.length ≤ Int.ofNat xs.length) then bif decide ((N.LI xs).toNat + ((Int.ofNat xs.length).toNat - (N.LI xs).toNat) ≤ xs.length) then freeE N d x xs (tl N xs) else none else none else none := by cases nn <;> kernel_rfl
theorem low_eval (N : NI) (nn : Bool) (x : Int) (xs : List Int) : evalFn Tryz.prog (orcI N (tabI N) plainL) noLoops 100 60 Tryz.f60 [.gs 0, .int .u8 x] [.rs nn 1 (.ints .u8 xs)] (fun v _ => some v) =
    bif N.KS xs then bif isBid x then bif N.LB xs then bif decide (0 ≤ N.LI xs ∧ N.LI xs < Int.ofNat xs.length) then atN xs (N.LI xs).toNat fun c => some (.bool (decide (x ≤ c))) else none else some (.bool false) else some (.bool false) else none := by cases nn <;> kernel_rfl
theorem passed_eval (N : NI) (nn : Bool) (xs : List Int) : evalFn Tryz.prog (orcI N (tabI N) plainL) noLoops 100 73 Tryz.f73 [.gs 0] [.rs nn 1 (.ints .u8 xs)] (fun v _ => some v) =
    bif decide (Int.ofNat xs.length = 0) then some (.bool true) else bif decide (0 ≤ wr .i64 (Int.ofNat xs.length - 1) ∧ wr .i64 (Int.ofNat xs.length - 1) < Int.ofNat xs.length) then atN xs (wr .i64 (Int.ofNat xs.length - 1)).toNat fun c => some (.bool (decide (c = 0))) else none := by cases nn <;> kernel_rfl
def okL (xs : List Int) : Bool := decide (xs.length ≤ 100000) && allU xs
def lastI (xs : List Int) : Int := (lastN xs xs.length).1
def hasB (xs : List Int) : Bool := (lastN xs xs.length).2
def rcD (d : Int) (xs : List Int) : Int := mkI d (lastI xs)
def rcL (xs : List Int) : List Int := xs.drop (lastI xs).toNat
def ovI (d : Int) (xs : List Int) : Bool := decide ((fol (rcD d xs) (rcL xs)).e = 0) && ovr (fol (rcD d xs) (rcL xs)).s
def frI (d : Int) (xs : List Int) (x : Int) : Bool := decide ((fol (rcD d xs) (rcL xs ++ [x])).e = 0)
def lwI (xs : List Int) (x : Int) : Bool := isBid x && (hasB xs && decide (x ≤ xs.getD (lastI xs).toNat 0))
def psI (xs : List Int) : Bool := decide (xs.length = 0) || decide (xs.getD (xs.length - 1) 0 = 0)
theorem mk_range (d i : Int) : 0 ≤ mkI d i ∧ mkI d i < 256 := by
  unfold mkI
  show 0 ≤ _ % 256 ∧ _ % 256 < 256
  omega
theorem lastI_range (xs : List Int) : 0 ≤ lastI xs ∧ (lastI xs < (xs.length : Int) ∨ lastI xs = 0) ∧ (hasB xs = true → lastI xs < (xs.length : Int)) ∧ (hasB xs = false → lastI xs = 0) := by
  unfold lastI hasB
  cases h : (lastN xs xs.length).2 with
  | true =>
    obtain ⟨k, h1, h2, _, _⟩ := lastN_some _ h
    rw [h2]
    exact ⟨by omega, .inl (by omega), fun _ => by omega, fun h => by cases h⟩
  | false =>
    have := last_no xs _ h
    exact ⟨by omega, .inr this, (fun h => by cases h), fun _ => this⟩
theorem allU_drop {l : List Int} (h : allU l = true) (n : Nat) : allU (l.drop n) = true := by
  rw [allU_iff] at h ⊢
  exact fun x hx => h x (List.mem_of_mem_drop hx)
theorem allU_snoc {l : List Int} {x : Int} (h : allU l = true) (hx : 0 ≤ x ∧ x < 256) : allU (l ++ [x]) = true := by
  rw [allU_iff] at h ⊢
  intro y hy
  rcases List.mem_append.1 hy with hy | hy
  · exact h y hy
  · rw [List.mem_singleton] at hy; subst hy; exact hx
theorem okL_iff {xs : List Int} : okL xs = true ↔ xs.length ≤ 100000 ∧ allU xs = true := by simp [okL]
theorem okA_of {d : Int} {xs : List Int} (hd : 0 ≤ d) (h : xs.length ≤ 200000) (hu : allU xs = true) : okA d xs = true := by
  simp only [okA, smallL, Bool.and_eq_true, decide_eq_true_eq]
  exact ⟨hd, by omega, hu⟩
theorem tl_is (xs : List Int) : tl nI xs = rcL xs := by
  show List.take (xs.length - (lastI xs).toNat) (List.drop (lastI xs).toNat xs) = List.drop (lastI xs).toNat xs
  rw [List.take_of_length_le]
  rw [List.length_drop]; omega
theorem rcL_len (xs : List Int) : (rcL xs).length ≤ xs.length := by unfold rcL; rw [List.length_drop]; omega
theorem sm_of {xs : List Int} (h : xs.length ≤ 100000) : nI.KS xs = true := decide_eq_true (by omega)
theorem d1_of (xs : List Int) : decide (0 ≤ nI.LI xs ∧ nI.LI xs ≤ Int.ofNat xs.length ∧ Int.ofNat xs.length ≤ Int.ofNat xs.length) = true ∧ decide ((nI.LI xs).toNat + ((Int.ofNat xs.length).toNat - (nI.LI xs).toNat) ≤ xs.length) = true := by
  have := lastI_range xs
  have h0 : nI.LI xs = lastI xs := rfl
  have h1 : Int.ofNat xs.length = (xs.length : Int) := rfl
  rw [h0, h1]
  exact ⟨decide_eq_true (by omega), decide_eq_true (by omega)⟩
theorem over36_fn (nn : Bool) {d : Int} {xs : List Int} (h : okL xs = true) : FnOK Tryz.prog 52 [.int .u8 d, .gs 0] [.rs nn 1 (.ints .u8 xs)] (.bool (ovI d xs)) [.rs nn 1 (.ints .u8 xs)] := by
  obtain ⟨hl, hu⟩ := okL_iff.1 h
  have key := over_eval10 nI nn d xs
  rw [sm_of hl, (d1_of xs).1, (d1_of xs).2, tl_is] at key
  have hk : nI.K (nI.MK d (nI.LI xs)) (rcL xs) = true := okA_of (mk_range _ _).1 (by have := rcL_len xs; omega) (allU_drop hu _)
  unfold overE at key
  rw [hk] at key
  obtain ⟨v1, h1, hk1, hok⟩ := evalFn_ok (orcI_ok tabI_ok plainL_ok) mixed Tryz.func52 noLoops_ok key
  cases hk1
  exact hok.plain rfl rs_ro
theorem free40_fn (nn : Bool) {d x : Int} {xs : List Int} (h : okL xs = true) (hx : 0 ≤ x ∧ x < 256) : FnOK Tryz.prog 61 [.int .u8 d, .gs 0, .int .u8 x] [.rs nn 1 (.ints .u8 xs)] (.bool (frI d xs x)) [.rs nn 1 (.ints .u8 xs)] := by
  obtain ⟨hl, hu⟩ := okL_iff.1 h
  have key := free_eval nI nn d x xs
  rw [sm_of hl, (d1_of xs).1, (d1_of xs).2, tl_is] at key
  have hr := rcL_len xs
  have hk : nI.K (nI.MK d (nI.LI xs)) (rcL xs ++ [x]) = true := okA_of (mk_range _ _).1 (by simp; omega) (allU_snoc (allU_drop hu _) hx)
  unfold freeE at key
  rw [decide_eq_true (show (rcL xs).length * 2 ≤ 70368744177664 by omega), decide_eq_true (show (rcL xs ++ [x]).length * 2 ≤ 70368744177664 by simp; omega), hk] at key
  obtain ⟨v1, h1, hk1, hok⟩ := evalFn_ok (orcI_ok tabI_ok plainL_ok) mixed Tryz.func61 noLoops_ok key
  cases hk1
  exact hok.plain rfl rs_ro
theorem atN_get {α : Type} {l : List Int} {i : Nat} (h : i < l.length) (K : Int → Option α) : atN l i K = K (l.getD i 0) := by
  unfold atN; rw [List.getElem?_eq_getElem h, List.getD_eq_getElem?_getD, List.getElem?_eq_getElem h]; rfl
theorem low39_fn (nn : Bool) {x : Int} {xs : List Int} (h : okL xs = true) : FnOK Tryz.prog 60 [.gs 0, .int .u8 x] [.rs nn 1 (.ints .u8 xs)] (.bool (lwI xs x)) [.rs nn 1 (.ints .u8 xs)] := by
  obtain ⟨hl, hu⟩ := okL_iff.1 h
  have key := low_eval nI nn x xs
  have hr := lastI_range xs
  have e : (bif isBid x then bif nI.LB xs then bif decide (0 ≤ nI.LI xs ∧ nI.LI xs < Int.ofNat xs.length) then atN xs (nI.LI xs).toNat fun c => some (V.bool (decide (x ≤ c))) else none else some (.bool false) else some (.bool false)) = some (.bool (lwI xs x)) := by
    unfold lwI
    cases isBid x with
    | false => rfl
    | true =>
      rw [show nI.LB xs = hasB xs from rfl, show nI.LI xs = lastI xs from rfl]
      cases hb : hasB xs with
      | false => rfl
      | true =>
        have := hr.2.2.1 hb
        rw [decide_eq_true (show 0 ≤ lastI xs ∧ lastI xs < Int.ofNat xs.length from ⟨hr.1, this⟩), cond_true, cond_true, cond_true, atN_get (by omega)]
        rfl
  rw [sm_of hl, cond_true, e] at key
  obtain ⟨v1, h1, hk1, hok⟩ := evalFn_ok (orcI_ok tabI_ok plainL_ok) mixed Tryz.func60 noLoops_ok key
  cases hk1
  exact hok.plain rfl rs_ro
theorem passed49_fn (nn : Bool) {xs : List Int} (h : okL xs = true) : FnOK Tryz.prog 73 [.gs 0] [.rs nn 1 (.ints .u8 xs)] (.bool (psI xs)) [.rs nn 1 (.ints .u8 xs)] := by
  obtain ⟨hl, hu⟩ := okL_iff.1 h
  have key := passed_eval nI nn xs
  have h1 : Int.ofNat xs.length = (xs.length : Int) := rfl
  have e : (bif decide (Int.ofNat xs.length = 0) then some (V.bool true) else bif decide (0 ≤ wr .i64 (Int.ofNat xs.length - 1) ∧ wr .i64 (Int.ofNat xs.length - 1) < Int.ofNat xs.length) then atN xs (wr .i64 (Int.ofNat xs.length - 1)).toNat fun c => some (.bool (decide (c = 0))) else none) = some (.bool (psI xs)) := by
    unfold psI
    rw [h1]
    by_cases h0 : xs.length = 0
    · rw [decide_eq_true h0, decide_eq_true (show ((xs.length : Nat) : Int) = 0 by omega)]; rfl
    · rw [decide_eq_false h0, decide_eq_false (show ¬ ((xs.length : Nat) : Int) = 0 by omega), wr64 (by omega) (by omega), decide_eq_true (show 0 ≤ (xs.length : Int) - 1 ∧ (xs.length : Int) - 1 < (xs.length : Int) by omega), cond_false, cond_true,
        show ((xs.length : Int) - 1).toNat = xs.length - 1 by omega, atN_get (by omega)]
      rfl
  rw [e] at key
  obtain ⟨v1, h1, hk1, hok⟩ := evalFn_ok (orcI_ok tabI_ok plainL_ok) mixed Tryz.func73 noLoops_ok key
  cases hk1
  exact hok.plain rfl rs_ro
end Go.Proofs.YtojlmpcbplepcaaGreat
