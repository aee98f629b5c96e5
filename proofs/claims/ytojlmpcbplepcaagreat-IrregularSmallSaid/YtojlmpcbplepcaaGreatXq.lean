/- Texts merged: Xq, Xa. -/
import Derived.Test.YtojlmpcbplepcaaGreatXp
import Derived.Test.YtojlmpcbplepcaaGreatLe
/- Chapter 10: the reference's Right, plainly: it says what the program's says. -/
namespace Go.Proofs.YtojlmpcbplepcaaGreat
open Go Go.Eng
def accB (ac : List Int) (i : Int) : Bool := ac.any fun a => decide (a = i)
def acB (ac : List Int) (n : Int) (i : Nat) : Bool := !(decide (ac.getD i 0 < 0) || (decide (n ≤ ac.getD i 0) || (decide (0 < i) && decide (ac.getD i 0 ≤ ac.getD (i - 1) 0))))
def acS (ac : List Int) (n : Int) : Nat → Nat → Bool
  | _, 0 => true
  | i, k + 1 => bif acB ac n i then acS ac n (i + 1) k else false
def clB (xs ac : List Int) (i : Nat) : Bool := !tzE (xs.take i) && bif accB ac (i : Int) then lwI (xs.take i) (xs.getD i 0) else rfrI (xs.take i) (xs.getD i 0)
def clS (xs ac : List Int) : Nat → Nat → Bool
  | _, 0 => true
  | i, k + 1 => bif clB xs ac i then clS xs ac (i + 1) k else false
def rrI (s : CD) (xs ac : List Int) : Bool := !(headL s xs).any id && (acS ac (xs.length : Int) 0 ac.length && (clS xs ac 0 xs.length && (decide (s.h = 0) || !tzE xs)))
theorem acS_iff {ac : List Int} {n : Int} : ∀ (k i : Nat), acS ac n i k = true ↔ ∀ j, i ≤ j → j < i + k → acB ac n j = true
  | 0, i => ⟨fun _ j h1 h2 => by omega, fun _ => rfl⟩
  | k + 1, i => by
    unfold acS
    constructor
    · intro h j h1 h2
      cases hb : acB ac n i with
      | false => rw [hb] at h; cases h
      | true =>
        rw [hb, cond_true] at h
        rcases Nat.eq_or_lt_of_le h1 with e | e
        · rw [← e]; exact hb
        · exact (acS_iff k (i + 1)).1 h j e (by omega)
    · intro h
      rw [h i (Nat.le_refl _) (by omega), cond_true]
      exact (acS_iff k (i + 1)).2 fun j h1 h2 => h j (by omega) (by omega)
theorem clS_iff {xs ac : List Int} : ∀ (k i : Nat), clS xs ac i k = true ↔ ∀ j, i ≤ j → j < i + k → clB xs ac j = true
  | 0, i => ⟨fun _ j h1 h2 => by omega, fun _ => rfl⟩
  | k + 1, i => by
    unfold clS
    constructor
    · intro h j h1 h2
      cases hb : clB xs ac i with
      | false => rw [hb] at h; cases h
      | true =>
        rw [hb, cond_true] at h
        rcases Nat.eq_or_lt_of_le h1 with e | e
        · rw [← e]; exact hb
        · exact (clS_iff k (i + 1)).1 h j e (by omega)
    · intro h
      rw [h i (Nat.le_refl _) (by omega), cond_true]
      exact (clS_iff k (i + 1)).2 fun j h1 h2 => h j (by omega) (by omega)
theorem accB_iff {ac : List Int} {i : Int} : accB ac i = true ↔ i ∈ ac := by
  unfold accB
  rw [List.any_eq_true]
  constructor
  · rintro ⟨x, h1, h2⟩
    rw [← of_decide_eq_true h2]; exact h1
  · intro h
    exact ⟨i, h, decide_eq_true rfl⟩
theorem acB_iff {ac : List Int} {n : Int} {i : Nat} : acB ac n i = true ↔ 0 ≤ ac.getD i 0 ∧ ac.getD i 0 < n ∧ (0 < i → ac.getD (i - 1) 0 < ac.getD i 0) := by
  unfold acB
  generalize ac.getD i 0 = x
  generalize ac.getD (i - 1) 0 = y
  rw [Bool.not_eq_true', Bool.or_eq_false_iff, Bool.or_eq_false_iff, decide_eq_false_iff_not, decide_eq_false_iff_not, Bool.and_eq_false_iff, decide_eq_false_iff_not, decide_eq_false_iff_not]
  constructor
  · rintro ⟨h1, h2, h3⟩
    exact ⟨by omega, by omega, fun h => by omega⟩
  · rintro ⟨h1, h2, h3⟩
    refine ⟨by omega, by omega, ?_⟩
    rcases Nat.eq_zero_or_pos i with h | h
    · exact .inl (by omega)
    · exact .inr (by have := h3 h; omega)
theorem inc_of {ac : List Int} {n : Int} (h : ∀ j, j < ac.length → acB ac n j = true) : ∀ b a : Nat, a < b → b < ac.length → ac.getD a 0 < ac.getD b 0 := by
  intro b
  induction b with
  | zero => intro a h1; omega
  | succ b ih =>
    intro a h1 h2
    have h3 := (acB_iff.1 (h (b + 1) h2)).2.2 (by omega)
    rw [show b + 1 - 1 = b by omega] at h3
    rcases Nat.eq_or_lt_of_le (Nat.lt_succ_iff.1 h1) with e | e
    · rw [e]; exact h3
    · have := ih a e (by omega); omega
theorem getD_mem {l : List Int} {i : Nat} (h : i < l.length) : l.getD i 0 ∈ l := by
  rw [List.getD_eq_getElem?_getD, List.getElem?_eq_getElem h]; exact List.getElem_mem h
theorem take_getD {l : List Int} {i : Nat} (h : i < l.length) : l.take (i + 1) = l.take i ++ [l.getD i 0] := by
  rw [List.take_add_one, List.getElem?_eq_getElem h, List.getD_eq_getElem?_getD, List.getElem?_eq_getElem h]; rfl
theorem low_free {d : Int} {xs : List Int} (g : GI d xs) (ho : ovI d xs = false) {c : Int} (hf : frI d xs c = true) : lwI xs c = false := by
  cases hb : isBid c with
  | true => rw [g.bid ho hb] at hf; simpa using hf
  | false => unfold lwI; rw [hb]; rfl
theorem gc_of_checks {d : Int} (hd : 0 ≤ d ∧ d ≤ 3) {xs ac : List Int} (hl : xs.length ≤ 100000) (hu : ∀ c ∈ xs, 0 ≤ c) (ha : ∀ j, j < ac.length → acB ac (xs.length : Int) j = true) (hc : ∀ j, j < xs.length → clB xs ac j = true) :
    ∀ i : Nat, i ≤ xs.length → ∃ m, m ≤ ac.length ∧ GC d (xs.take i) (ac.take m) ∧ (∀ j, j < m → ac.getD j 0 < (i : Int)) ∧ ∀ j, m ≤ j → j < ac.length → (i : Int) ≤ ac.getD j 0 := by
  intro i
  induction i with
  | zero => exact fun _ => ⟨0, Nat.zero_le _, .nil, fun j hj => by omega, fun j _ hj => (acB_iff.1 (ha j hj)).1⟩
  | succ i ih =>
    intro hi
    obtain ⟨m, m1, m2, m3, m4⟩ := ih (by omega)
    have hlen : (xs.take i).length = i := by rw [List.length_take]; omega
    have g := m2.gi hd (by omega)
    have hk := hc i (by omega)
    unfold clB at hk
    rw [Bool.and_eq_true, end_gi g (by omega)] at hk
    obtain ⟨k1, k2⟩ := hk
    have ho : ovI d (xs.take i) = false := by simpa using k1
    have hx : 0 ≤ xs.getD i 0 := hu _ (getD_mem (by omega))
    rw [take_getD (by omega)]
    cases hb : accB ac (i : Int) with
    | true =>
      rw [hb, cond_true] at k2
      have hmem := accB_iff.1 hb
      obtain ⟨j, hj⟩ := List.getElem?_of_mem hmem
      have hjl : j < ac.length := getElem?_lt hj
      have hjv : ac.getD j 0 = (i : Int) := by rw [List.getD_eq_getElem?_getD, hj]; rfl
      have hjm : j = m := by
        rcases Nat.lt_trichotomy j m with h | h | h
        · have := m3 j h; omega
        · exact h
        · have h5 := inc_of ha j m h hjl
          have h6 := m4 m (Nat.le_refl _) (by omega)
          omega
      subst hjm
      refine ⟨j + 1, by omega, ?_, fun q hq => ?_, fun q h1 h2 => ?_⟩
      · rw [take_getD hjl, hjv]
        have := GC.low m2 ho k2
        rw [hlen] at this
        exact this
      · rcases Nat.eq_or_lt_of_le (Nat.lt_succ_iff.1 hq) with e | e
        · rw [e, hjv]; omega
        · have := m3 q e; omega
      · have := inc_of ha q j (by omega) h2
        omega
    | false =>
      rw [hb, cond_false, free_gi g (by omega) ho hx] at k2
      refine ⟨m, m1, .free m2 ho (low_free g ho k2) k2 hx, fun q hq => by have := m3 q hq; omega, fun q h1 h2 => ?_⟩
      have h3 := m4 q h1 h2
      have h4 : ac.getD q 0 ≠ (i : Int) := fun e => by
        have : accB ac (i : Int) = true := accB_iff.2 (e ▸ getD_mem h2)
        rw [hb] at this; cases this
      omega
structure GF (d : Int) (xs ac : List Int) : Prop where
  a : ∀ j, j < ac.length → acB ac (xs.length : Int) j = true
  g : ∀ i, i < xs.length → GI d (xs.take i) ∧ ovI d (xs.take i) = false ∧ ((i : Int) ∈ ac → lwI (xs.take i) (xs.getD i 0) = true) ∧ ((i : Int) ∉ ac → frI d (xs.take i) (xs.getD i 0) = true)
theorem gf_of {d : Int} (hd : 0 ≤ d ∧ d ≤ 3) {xs ac : List Int} (h : GC d xs ac) : xs.length ≤ 100000 → GF d xs ac := by
  induction h with
  | nil => exact fun _ => ⟨fun j hj => by simp at hj, fun i hi => by simp at hi⟩
  | @free xs ac c h1 h2 h3 h4 h5 ih =>
    intro hl
    rw [List.length_append, List.length_singleton] at hl
    have f := ih (by omega)
    have hlt : ∀ z ∈ ac, z < (xs.length : Int) := fun z hz => by
      obtain ⟨j, hj⟩ := List.getElem?_of_mem hz
      have := (acB_iff.1 (f.a j (getElem?_lt hj))).2.1
      rw [List.getD_eq_getElem?_getD, hj] at this
      exact this
    refine ⟨fun j hj => ?_, fun i hi => ?_⟩
    · obtain ⟨a1, a2, a3⟩ := acB_iff.1 (f.a j hj)
      exact acB_iff.2 ⟨a1, by rw [List.length_append, List.length_singleton]; omega, a3⟩
    · rw [List.length_append, List.length_singleton] at hi
      rcases Nat.eq_or_lt_of_le (Nat.lt_succ_iff.1 hi) with e | e
      · rw [e, List.take_left', getD_last]
        · exact ⟨h1.gi hd (by omega), h2, fun hm => by have := hlt _ hm; omega, fun _ => h4⟩
        · rfl
      · rw [List.take_append_of_le_length (by omega), getD_app e]; exact f.g i e
  | @low xs ac c h1 h2 h3 ih =>
    intro hl
    rw [List.length_append, List.length_singleton] at hl
    have f := ih (by omega)
    have hlt : ∀ z ∈ ac, z < (xs.length : Int) := fun z hz => by
      obtain ⟨j, hj⟩ := List.getElem?_of_mem hz
      have := (acB_iff.1 (f.a j (getElem?_lt hj))).2.1
      rw [List.getD_eq_getElem?_getD, hj] at this
      exact this
    refine ⟨fun j hj => ?_, fun i hi => ?_⟩
    · rw [List.length_append, List.length_singleton] at hj
      rcases Nat.eq_or_lt_of_le (Nat.lt_succ_iff.1 hj) with e | e
      · rw [e]
        refine acB_iff.2 ⟨by rw [getD_last]; omega, by rw [getD_last, List.length_append, List.length_singleton]; omega, fun h0 => ?_⟩
        rw [getD_last, getD_app (by omega)]
        exact hlt _ (getD_mem (by omega))
      · obtain ⟨a1, a2, a3⟩ := acB_iff.1 (f.a j e)
        refine acB_iff.2 ⟨by rw [getD_app e]; exact a1, by rw [getD_app e, List.length_append, List.length_singleton]; omega, fun h0 => ?_⟩
        rw [getD_app e, getD_app (by omega)]; exact a3 h0
    · rw [List.length_append, List.length_singleton] at hi
      rcases Nat.eq_or_lt_of_le (Nat.lt_succ_iff.1 hi) with e | e
      · rw [e, List.take_left', getD_last]
        · exact ⟨h1.gi hd (by omega), h2, fun _ => h3, fun hm => absurd (by simp) hm⟩
        · rfl
      · rw [List.take_append_of_le_length (by omega), getD_app e]
        obtain ⟨g1, g2, g3, g4⟩ := f.g i e
        exact ⟨g1, g2, fun hm => g3 (by
          rcases List.mem_append.1 hm with h | h
          · exact h
          · rw [List.mem_singleton] at h; omega), fun hm => g4 fun h => hm (List.mem_append_left _ h)⟩
theorem clB_of {d : Int} {xs ac : List Int} (hl : xs.length ≤ 100000) (hu : ∀ c ∈ xs, 0 ≤ c) (f : GF d xs ac) {i : Nat} (hi : i < xs.length) : clB xs ac i = true := by
  obtain ⟨g1, g2, g3, g4⟩ := f.g i hi
  have hlen : (xs.take i).length ≤ 100000 := by rw [List.length_take]; omega
  unfold clB
  rw [end_gi g1 hlen, g2]
  cases hb : accB ac (i : Int) with
  | true => rw [cond_true, g3 (accB_iff.1 hb)]; rfl
  | false =>
    rw [cond_false, free_gi g1 hlen g2 (hu _ (getD_mem hi)), g4 (fun h => by have := accB_iff.2 h; rw [hb] at this; cases this)]; rfl
theorem head_d {s : CD} {xs : List Int} (h : (headL s xs).any id = false) : s.d ≤ 3 ∧ xs.length ≤ 400 := by
  unfold headL at h
  simp only [List.any_append, List.any_cons, id_eq, Bool.or_eq_false_iff, decide_eq_false_iff_not] at h
  have e : Int.ofNat xs.length = (xs.length : Int) := rfl
  rw [e] at h
  omega
theorem right_is {s : CD} {xs ac : List Int} (h : okL xs = true) (hd : dkB s = true) : rrI s xs ac = rgtI s xs ac := by
  obtain ⟨hl, hu⟩ := okL_iff.1 h
  have hu0 : ∀ c ∈ xs, 0 ≤ c := fun c hc => (allU_iff.1 hu c hc).1
  have hd0 : 0 ≤ s.d := (of_decide_eq_true hd).1
  unfold rrI rgtI
  cases hh : (headL s xs).any id with
  | true => rfl
  | false =>
    obtain ⟨hd3, hl4⟩ := head_d hh
    simp only [Bool.not_false, Bool.true_and]
    rw [Bool.eq_iff_iff]
    constructor
    · intro hr
      simp only [Bool.and_eq_true] at hr
      obtain ⟨r1, r2, r3⟩ := hr
      have ha : ∀ j, j < ac.length → acB ac (xs.length : Int) j = true := fun j hj => (acS_iff _ _).1 r1 j (Nat.zero_le _) (by omega)
      have hc : ∀ j, j < xs.length → clB xs ac j = true := fun j hj => (clS_iff _ _).1 r2 j (Nat.zero_le _) (by omega)
      obtain ⟨m, m1, m2, m3, m4⟩ := gc_of_checks ⟨hd0, hd3⟩ hl hu0 ha hc xs.length (Nat.le_refl _)
      have hm : m = ac.length := by
        rcases Nat.eq_or_lt_of_le m1 with e | e
        · exact e
        · have h1 := m4 m (Nat.le_refl _) e
          have h2 := (acB_iff.1 (ha m e)).2.1
          omega
      subst hm
      rw [List.take_length, List.take_length] at m2
      have hg := m2.right [] (fun z hz => by cases hz)
      rw [List.append_nil] at hg
      rw [hg]
      rw [end_gi (m2.gi ⟨hd0, hd3⟩ (by omega)) hl] at r3
      rw [r3]
      simp
    · intro hr
      simp only [Bool.and_eq_true, decide_eq_true_eq] at hr
      obtain ⟨r1, r2, r3⟩ := hr
      obtain ⟨k1, k2⟩ := GC.of (ac := ac) xs.length xs rfl hu0 r1
      rw [r2, List.take_length] at k2
      have f := gf_of ⟨hd0, hd3⟩ k2 hl
      rw [(acS_iff _ _).2 (fun j _ hj => f.a j (by omega)), (clS_iff _ _).2 (fun j _ hj => clB_of hl hu0 f (by omega)), end_gi (k2.gi ⟨hd0, hd3⟩ (by omega)) hl, r3]
      rfl
end Go.Proofs.YtojlmpcbplepcaaGreat

/- Chapter 10: the reference's small functions over lists of calls: templates. -/
namespace Go.Proofs.YtojlmpcbplepcaaGreat
open Go Go.Eng
def gIsB (IB : Int → Bool) : List V → Option (Bool × V)
  | [.int .u8 x] => some (true, .bool (IB x))
  | _ => none
def tabIB (IB : Int → Bool) : PTab := addTab 63 (gIsB IB) emptyTab
theorem isb_eval (x : Int) : evalFn Tryz.prog (orcE emptyTab plainL) noLoops 100 63 Tryz.f63 [.int .u8 x] [] (fun v _ => some v) = bif decide (3 ≤ x) then some (.bool (decide (x < 38))) else some (.bool false) := by kernel_rfl
theorem isBid_38 (x : Int) : isBid x = (bif decide (3 ≤ x) then decide (x < 38) else false) := by
  unfold isBid
  by_cases h : 3 ≤ x
  · rw [decide_eq_true h, cond_true, Bool.true_and]; congr 1; simp only [eq_iff_iff]; omega
  · rw [decide_eq_false h]; rfl
theorem isb_p (x : Int) : FnPure Tryz.prog 63 [.int .u8 x] (.bool (isBid x)) := by
  refine fnPure_of_eval (N := 100) (orcE_ok emptyTab_ok plainL_ok) mixed Tryz.func63 (by kernel_rfl) noLoops_ok ?_ rfl rfl
  rw [isb_eval, isBid_38]
  cases decide (3 ≤ x) <;> rfl
theorem tabIB_ok : PTabOk Tryz.prog (tabIB isBid) := by
  refine addTab_ok (fun args c v h _ => ?_) emptyTab_ok
  unfold gIsB at h
  split at h
  · cases h; exact isb_p _
  · cases h
abbrev u8L : TR := .ints .u8
noncomputable def xLp113 : Code := loopOf 2 Tryz.f68
def x113T : Tm := ⟨mkS [(0, .gs 0), (3, .int .i64)] 0 17, [.rs false 1 u8L], []⟩
def x113X : Tm := ⟨mkS [(2, .int .i64)] 0 17, [.rs false 1 u8L], []⟩
def x113Y : Tm := ⟨mkS [] 0 17, [.rs false 1 u8L], []⟩
noncomputable def xLp109 : Code := loopOf 3 Tryz.f53
def x109T : Tm := ⟨mkS [(0, .gs 0), (3, .int .i64), (4, .int .i64)] 0 32, [.rs false 1 u8L], []⟩
def x109X : Tm := ⟨mkS [(0, .gs 0), (3, .int .i64)] 0 32, [.rs false 1 u8L], []⟩
noncomputable def xLp100 : Code := loopOf 6 Tryz.f59
def x100T : Tm := ⟨mkS [(0, .gs 0), (1, .int .u8), (5, .int .i64)] 0 55, [.rs false 1 u8L], []⟩
def x100X : Tm := ⟨mkS [(4, .bool)] 0 55, [.rs false 1 u8L], []⟩
def x100Y : Tm := ⟨mkS [] 0 55, [.rs false 1 u8L], []⟩
noncomputable def xLp101 : Code := loopOf 2 Tryz.f62
def x101T : Tm := ⟨mkS [(0, .gs 0), (1, .int .u8), (5, .int .i64)] 0 18, [.rs false 1 u8L], []⟩
def x101X : Tm := ⟨mkS [(4, .bool)] 0 18, [.rs false 1 u8L], []⟩
def x101Y : Tm := ⟨mkS [] 0 18, [.rs false 1 u8L], []⟩
noncomputable def xLp114 : Code := loopOf 2 Tryz.f71
def x114T : Tm := ⟨mkS [(1, .int .i64), (2, .ptr 2 0), (5, .int .i64)] 0 20, [.rs false 1 u8L, .rs false 1 (.ints .i64), .own 35 (.vs (crsT (.gs 0) (.gs 1)))], []⟩
def x114X : Tm := ⟨mkS [(4, .bool)] 0 20, [.rs false 1 u8L, .rs false 1 (.ints .i64)], []⟩
def x114Y : Tm := ⟨mkS [] 0 20, [.rs false 1 u8L, .rs false 1 (.ints .i64)], []⟩
def outX (X Y : Tm) : XE → Tm
  | .ret => X
  | _ => Y
end Go.Proofs.YtojlmpcbplepcaaGreat
