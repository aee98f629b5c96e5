/- Chapter 8: the law CallReads is true. -/
import Derived.Test.YtpehklboickdpaaDoorLReads
import Derived.Test.YtpehklboickdpaaDoorLWrong
namespace Go.Proofs.YtpehklboickdpaaDoor
open Go Go.Eng
noncomputable def lrEnd (N : NL) (x y : List Int) : Option V := bif decide (319 < wr .i64 (Int.ofNat x.length + Int.ofNat y.length)) then bif decide (N.tE (x ++ y) = 5) then some (.bool (strEq (N.tS (x ++ y)) ⟨#[]⟩)) else fls8 else
  bif decide (N.tE (x ++ y) = 0) then bif decide (lenS (N.tS x) + 1 ≤ 9223372036854775807) then bif decide (lenS (catS (N.tS x) ⟨#[32]⟩) + lenS (N.tS y) ≤ 9223372036854775807) then
    bif pB (spL = spL) && N.trC (catS (catS (N.tS x) ⟨#[32]⟩) (N.tS y)) then some (.bool (strEq (N.tS (x ++ y)) (N.tr (catS (catS (N.tS x) ⟨#[32]⟩) (N.tS y))))) else none else none else none else fls8
noncomputable def lrMid (N : NL) (x y : List Int) : Option V := bif N.sC (N.rV (N.tS x)) then bif !N.eq (N.rV (N.tS x)) x then fls8 else bif N.sC (N.rV (N.tS y)) then bif !N.eq (N.rV (N.tS y)) y then fls8 else bif N.sC x then
  bif !(bif strEq (N.tS x) (N.tS y) then N.eq x y else !N.eq x y) then fls8 else bif decide (x.length * 2 ≤ 70368744177664) then bif decide ((x ++ y).length * 2 ≤ 70368744177664) then bif pB (textsL = textsL) && N.tC (x ++ y) then lrEnd N x y else none else none else none else none else none else none
theorem reads_eval (n1 n2 : Bool) (N : NL) (a b : List Int) : evalFn Tryd.prog (orcN N) noLoops 100 9 Tryd.f9 [.gs 2, .gs 3] (gH2 ++ [.rs n1 1 (.ints .u8 a), .rs n2 1 (.ints .u8 b)]) (fun v _ => some v) =
    bif pB (textsL = textsL) then bif pB (textsL = textsL) && N.tC (N.md a) then bif pB (textsL = textsL) && N.tC (N.md b) then bif pB (textsL = textsL) && N.rC (N.tS (N.md a)) then bif pB (textsL = textsL) && N.rC (N.tS (N.md b)) then
      bif !decide (wr .i64 (wr .i64 (wr .i64 (N.tE (N.md a) + N.tE (N.md b)) + N.rE (N.tS (N.md a))) + N.rE (N.tS (N.md b))) = 0) then fls8 else lrMid N (N.md a) (N.md b) else none else none else none else none else none := by cases n1 <;> cases n2 <;> kernel_rfl
/-! ### the law, plainly -/
def txtB (c : Int) : List UInt8 := (txt c).data.toList
def okX (x : List Int) : Prop := ∀ c ∈ x, 0 ≤ c ∧ c ≤ 37
theorem okX_allU : ∀ {x : List Int}, okX x → allU x = true
  | [], _ => rfl
  | c :: r, h => by
    have hc := h c (by simp)
    simp only [allU, Bool.and_eq_true, decide_eq_true_eq]
    exact ⟨by omega, okX_allU fun d hd => h d (by simp [hd])⟩
theorem taR_ok : ∀ {x : List Int} (ss : List ByteArray), okX x → taR x ss = (true, ss ++ x.map txt)
  | [], ss, _ => by simp [taR]
  | c :: r, ss, h => by
    have hc := h c (by simp)
    unfold taR
    rw [decide_eq_true hc.2, cond_true, taR_ok _ fun d hd => h d (by simp [hd])]
    simp
def jn (x : List Int) : List UInt8 := Lib.join (x.map txtB) [32]
theorem tS_ok {x : List Int} (h : okX x) (hl : x.length ≤ 319) : taS x = bA (jn x) ∧ taE x = 0 := by
  unfold taS taE
  rw [decide_eq_false (by omega), taR_ok _ h]
  simp only [cond_true, cond_false, List.nil_append]
  refine ⟨?_, trivial⟩
  unfold joinS jn bA
  rw [List.map_map]
  rfl
theorem txt_key : ∀ k : Nat, k < 38 → rdL (txtB (k : Int)) = some k ∧ txtB (k : Int) ≠ [] ∧ (txtB (k : Int)).all (fun b => okc b && !(b == 32)) = true := by decide +kernel
theorem txt_ok {c : Int} (h : 0 ≤ c ∧ c ≤ 37) : rdL (txtB c) = some c.toNat ∧ txtB c ≠ [] ∧ ∀ b ∈ txtB c, okc b = true ∧ b ≠ 32 := by
  obtain ⟨k, rfl⟩ : ∃ k : Nat, c = (k : Int) := ⟨c.toNat, by omega⟩
  obtain ⟨h1, h2, h3⟩ := txt_key k (by omega)
  refine ⟨h1, h2, fun b hb => ?_⟩
  have := List.all_eq_true.1 h3 b hb
  simpa using this
theorem jn_cons (c d : Int) (r : List Int) : jn (c :: d :: r) = txtB c ++ 32 :: jn (d :: r) := by
  unfold jn
  rw [List.map_cons, List.map_cons, join_cons]; rfl
theorem jn_one (c : Int) : jn [c] = txtB c := by
  unfold jn
  simp [Lib.join, List.intercalate]
theorem splitW_word : ∀ {w : List UInt8}, (∀ b ∈ w, b ≠ 32) → splitW w = [w]
  | [], _ => rfl
  | b :: r, h => by
    have ih := splitW_word (w := r) fun x hx => h x (List.mem_cons_of_mem _ hx)
    simp only [splitW, ih]
    rw [if_neg (h b (by simp))]
theorem splitW_app : ∀ {w : List UInt8} (t : List UInt8), (∀ b ∈ w, b ≠ 32) → splitW (w ++ 32 :: t) = w :: splitW t
  | [], t, _ => by
    rw [List.nil_append]
    cases hs : splitW t with
    | nil => exact absurd hs (splitW_ne t)
    | cons u us => simp [splitW, hs]
  | b :: r, t, h => by
    rw [List.cons_append]
    have ih := splitW_app (w := r) t fun x hx => h x (List.mem_cons_of_mem _ hx)
    simp only [splitW, ih]
    rw [if_neg (h b (by simp))]
theorem split_jn : ∀ {x : List Int}, okX x → x ≠ [] → splitW (jn x) = x.map txtB
  | [c], h, _ => by
    rw [jn_one, splitW_word fun b hb => ((txt_ok (h c (by simp))).2.2 b hb).2]; rfl
  | c :: d :: r, h, _ => by
    rw [jn_cons, splitW_app _ fun b hb => ((txt_ok (h c (by simp))).2.2 b hb).2, split_jn (fun e he => h e (by simp [he])) (by simp)]; rfl
theorem raL_jn : ∀ {x acc : List Int}, okX x → acc.length + x.length ≤ 319 → raL rdL (x.map txtB) acc = some (acc ++ x)
  | [], acc, _, _ => by simp [raL]
  | c :: r, acc, h, hl => by
    have hc := h c (by simp)
    rw [List.length_cons] at hl
    rw [List.map_cons]
    simp only [raL, (txt_ok hc).1]
    rw [if_neg (by omega), raL_jn (fun d hd => h d (by simp [hd])) (by rw [List.length_append, List.length_singleton]; omega), show ((c.toNat : Nat) : Int) = c by omega]
    simp
theorem jn_ne {x : List Int} (h : okX x) (hx : x ≠ []) : ∃ b r, jn x = b :: r ∧ b ≠ 32 := by
  match x, hx with
  | [c], _ =>
    obtain ⟨_, h2, h3⟩ := txt_ok (h c (by simp))
    rw [jn_one]
    cases hw : txtB c with
    | nil => exact absurd hw h2
    | cons b r => exact ⟨b, r, rfl, (h3 b (by rw [hw]; simp)).2⟩
  | c :: d :: r, _ =>
    obtain ⟨_, h2, h3⟩ := txt_ok (h c (by simp))
    rw [jn_cons]
    cases hw : txtB c with
    | nil => exact absurd hw h2
    | cons b r => exact ⟨b, _, rfl, (h3 b (by rw [hw]; simp)).2⟩
theorem jn_end : ∀ {x : List Int}, okX x → x ≠ [] → ∃ r b, jn x = r ++ [b] ∧ b ≠ 32
  | [c], h, _ => by
    obtain ⟨_, h2, h3⟩ := txt_ok (h c (by simp))
    rw [jn_one]
    refine ⟨(txtB c).dropLast, (txtB c).getLast h2, (List.dropLast_concat_getLast h2).symm, (h3 _ (List.getLast_mem h2)).2⟩
  | c :: d :: r, h, _ => by
    obtain ⟨q, b, h1, h2⟩ := jn_end (x := d :: r) (fun e he => h e (by simp [he])) (by simp)
    exact ⟨txtB c ++ 32 :: q, b, by rw [jn_cons, h1]; simp, h2⟩
theorem jn_okc : ∀ {x : List Int}, okX x → ∀ b ∈ jn x, okc b = true
  | [], _, b, hb => by simp [jn, Lib.join, List.intercalate] at hb
  | [c], h, b, hb => by
    rw [jn_one] at hb
    exact ((txt_ok (h c (by simp))).2.2 b hb).1
  | c :: d :: r, h, b, hb => by
    rw [jn_cons] at hb
    rcases List.mem_append.1 hb with hb | hb
    · exact ((txt_ok (h c (by simp))).2.2 b hb).1
    · rcases List.mem_cons.1 hb with rfl | hb
      · rfl
      · exact jn_okc (x := d :: r) (fun e he => h e (by simp [he])) b hb
theorem jn_nil : jn [] = [] := rfl
theorem jn_len : ∀ {x : List Int}, (jn x).length ≤ 4 * x.length := fun {x} => by
  unfold jn
  have := join_small (x.map txtB) [32] (fun t ht => by
    obtain ⟨c, _, rfl⟩ := List.mem_map.1 ht
    exact txt_small c) rfl
  rw [List.length_map] at this
  exact this
theorem read_back {x : List Int} (h : okX x) (hl : x.length ≤ 319) : raV (bA (jn x)) = x ∧ raI (bA (jn x)) = 0 := by
  by_cases hx : x = []
  · subst hx; exact ⟨rfl, rfl⟩
  · obtain ⟨b, r, hb, _⟩ := jn_ne h hx
    have he : strEq (bA (jn x)) ⟨#[]⟩ = false := by
      cases hh : strEq (bA (jn x)) ⟨#[]⟩ with
      | false => rfl
      | true =>
        have := bA_inj (r := []) (strEqW.1 hh)
        rw [hb] at this; cases this
    have ho : raO (bA (jn x)) = some x := by
      unfold raO
      rw [show (bA (jn x)).data.toList = jn x from rfl, split_jn h hx, raL_jn h (by simpa using hl)]; rfl
    have hE : raErr (bA (jn x)) = false := by
      unfold raErr raBad
      rw [he, ho]; rfl
    unfold raV raI
    rw [hE]
    refine ⟨?_, rfl⟩
    unfold raRes raVal
    rw [he, ho]; rfl
theorem jn_app : ∀ {x y : List Int}, x ≠ [] → y ≠ [] → jn (x ++ y) = jn x ++ 32 :: jn y
  | [c], y, _, hy => by
    match y, hy with
    | d :: r, _ => rw [List.singleton_append, jn_cons, jn_one]
  | c :: d :: r, y, _, hy => by
    rw [List.cons_append, List.cons_append, jn_cons, ← List.cons_append, jn_app (x := d :: r) (by simp) hy, jn_cons]
    simp
theorem rtrim_end {l : List UInt8} (h : l = [] ∨ ∃ r b, l = r ++ [b] ∧ b ≠ 32) : rtrim l = l := by
  rcases h with rfl | ⟨r, b, rfl, hb⟩
  · rfl
  · rw [rtrim_snoc, if_neg hb]
theorem trim_jn {x y : List Int} (hx : okX x) (hy : okX y) : rtrim (ltrim (jn x ++ 32 :: jn y)) = jn (x ++ y) := by
  by_cases h1 : x = []
  · subst h1
    rw [jn_nil, List.nil_append, List.nil_append, ltrim_cons, if_pos rfl]
    by_cases h2 : y = []
    · subst h2; rfl
    · obtain ⟨b, r, hb, hb2⟩ := jn_ne hy h2
      have e : ltrim (jn y) = jn y := by rw [hb, ltrim_cons, if_neg hb2]
      rw [e, rtrim_end (.inr (jn_end hy h2))]
  · obtain ⟨b, r, hb, hb2⟩ := jn_ne hx h1
    have e : ltrim (jn x ++ 32 :: jn y) = jn x ++ 32 :: jn y := by rw [hb, List.cons_append, ltrim_cons, if_neg hb2]
    rw [e]
    by_cases h2 : y = []
    · subst h2
      rw [jn_nil, rtrim_snoc, if_pos rfl, List.append_nil, rtrim_end (.inr (jn_end hx h1))]
    · obtain ⟨q, d, hd, hd2⟩ := jn_end hy h2
      rw [jn_app h1 h2, rtrim_end (.inr ⟨jn x ++ 32 :: q, d, by rw [hd]; simp, hd2⟩)]
def tC0 (xs : List Int) : Bool := allU xs
def rC0 (s : ByteArray) : Bool := decide (lenS s ≤ 1000000)
def sC0 (xs : List Int) : Bool := decide (xs.length ≤ 1000000)
def trC0 (s : ByteArray) : Bool := decide (lenS s ≤ 1000000) && allOk s
def L0 : NL := ⟨mdF, taS, taE, tC0, raV, raI, rC0, eqI, sC0, trimW, trC0⟩
theorem mid_true {x y : List Int} (hx : okX x) (hy : okX y) (lx : x.length ≤ 319) (ly : y.length ≤ 319) : lrMid L0 x y = some (.bool true) := by
  obtain ⟨sx, ex⟩ := tS_ok hx lx
  obtain ⟨sy, ey⟩ := tS_ok hy ly
  obtain ⟨bx, _⟩ := read_back hx lx
  obtain ⟨bby, _⟩ := read_back hy ly
  have k1 : ∀ z : List Int, z.length ≤ 319 → sC0 z = true := fun z hz => by unfold sC0; rw [decide_eq_true (by omega)]
  have q1 : eqI x x = true := eqI_iff.2 rfl
  have q2 : eqI y y = true := eqI_iff.2 rfl
  have hxy : okX (x ++ y) := fun c hc => by
    rcases List.mem_append.1 hc with h | h
    · exact hx c h
    · exact hy c h
  have hse : (bif strEq (bA (jn x)) (bA (jn y)) then eqI x y else !eqI x y) = true := by
    by_cases hh : x = y
    · subst hh
      rw [q1, strEqW.2 rfl]; rfl
    · have h1 : eqI x y = false := by
        cases he : eqI x y with
        | false => rfl
        | true => exact absurd (eqI_iff.1 he) hh
      have h2 : strEq (bA (jn x)) (bA (jn y)) = false := by
        cases he : strEq (bA (jn x)) (bA (jn y)) with
        | false => rfl
        | true =>
          refine absurd ?_ hh
          rw [← bx, ← bby, strEqW.1 he]
      rw [h1, h2]; rfl
  unfold lrMid
  rw [show L0.tS = taS from rfl, show L0.rV = raV from rfl, show L0.sC = sC0 from rfl, show L0.eq = eqI from rfl, show L0.tC = tC0 from rfl, sx, sy, bx, bby, k1 x lx, k1 y ly, q1, q2, hse, decide_eq_true (show x.length * 2 ≤ 70368744177664 by omega),
    decide_eq_true (show (x ++ y).length * 2 ≤ 70368744177664 by rw [List.length_append]; omega), pB_iff.2 rfl, show tC0 (x ++ y) = true from okX_allU hxy]
  simp only [Bool.not_true, cond_true, cond_false, Bool.and_self]
  unfold lrEnd
  rw [show L0.tS = taS from rfl, show L0.tE = taE from rfl, show L0.trC = trC0 from rfl, show L0.tr = trimW from rfl, sx, sy]
  have hw : wr .i64 (Int.ofNat x.length + Int.ofNat y.length) = ((x.length + y.length : Nat) : Int) := by
    show wr .i64 ((x.length : Int) + (y.length : Int)) = _
    rw [wr64 (by omega) (by omega)]; omega
  rw [hw]
  by_cases hl : 319 < x.length + y.length
  · have h1 : taE (x ++ y) = 5 := by
      unfold taE
      rw [decide_eq_true (by rw [List.length_append]; exact hl)]; rfl
    have h2 : taS (x ++ y) = ⟨#[]⟩ := by
      unfold taS
      rw [decide_eq_true (by rw [List.length_append]; exact hl)]; rfl
    rw [decide_eq_true (show (319 : Int) < ((x.length + y.length : Nat) : Int) by omega), h1, h2]
    rfl
  · obtain ⟨s3, e3⟩ := tS_ok hxy (by rw [List.length_append]; omega)
    have jx := jn_len (x := x)
    have jy := jn_len (x := y)
    have hcat : catS (catS (bA (jn x)) ⟨#[32]⟩) (bA (jn y)) = bA (jn x ++ 32 :: jn y) := by
      have e1 : catS (bA (jn x)) ⟨#[32]⟩ = bA (jn x ++ [32]) := rfl
      rw [e1, cat_bA, List.append_assoc]; rfl
    have h4 : lenS (catS (bA (jn x)) ⟨#[32]⟩) = (jn x).length + 1 := by
      have e1 : catS (bA (jn x)) ⟨#[32]⟩ = bA (jn x ++ [32]) := rfl
      rw [e1, lenS_bA]; simp
    have h5 : trC0 (bA (jn x ++ 32 :: jn y)) = true := by
      unfold trC0 allOk
      rw [lenS_bA, show (bA (jn x ++ 32 :: jn y)).data.toList = jn x ++ 32 :: jn y from rfl, decide_eq_true (by simp; omega), Bool.true_and, List.all_eq_true]
      intro b hb
      rcases List.mem_append.1 hb with hb | hb
      · exact jn_okc hx b hb
      · rcases List.mem_cons.1 hb with rfl | hb
        · rfl
        · exact jn_okc hy b hb
    have h6 : trimW (bA (jn x ++ 32 :: jn y)) = bA (jn (x ++ y)) := by
      unfold trimW
      rw [show (bA (jn x ++ 32 :: jn y)).data.toList = jn x ++ 32 :: jn y from rfl, trim_jn hx hy]
    rw [decide_eq_false (show ¬ (319 : Int) < ((x.length + y.length : Nat) : Int) by omega), e3, s3, h4, hcat, h5, h6, lenS_bA, lenS_bA, decide_eq_true (show (jn x).length + 1 ≤ 9223372036854775807 by omega), decide_eq_true (show (jn x).length + 1 + (jn y).length ≤ 9223372036854775807 by omega), pB_iff.2 rfl, strEqW.2 rfl]
    rfl
theorem mdF_ok {a : List Int} (h : allU a = true) : okX (mdF a) ∧ (mdF a).length ≤ 319 := by
  constructor
  · intro c hc
    unfold mdF at hc
    obtain ⟨d, hd, rfl⟩ := List.mem_map.1 hc
    obtain ⟨i, hi, rfl⟩ := List.getElem_of_mem (List.mem_of_mem_take hd)
    have := allU_get h hi
    rw [Int.tmod_eq_emod_of_nonneg this.1]
    omega
  · unfold mdF
    rw [List.length_map, List.length_take]; omega
theorem callReads_true (n1 n2 : Bool) {a b : List Int} (ha : allU a = true) (hb : allU b = true) : evalFn Tryd.prog (orcN L0) noLoops 100 9 Tryd.f9 [.gs 2, .gs 3] (gH2 ++ [.rs n1 1 (.ints .u8 a), .rs n2 1 (.ints .u8 b)]) (fun v _ => some v) = some (.bool true) := by
  obtain ⟨hx, lx⟩ := mdF_ok ha
  obtain ⟨hy, ly⟩ := mdF_ok hb
  obtain ⟨sx, ex⟩ := tS_ok hx lx
  obtain ⟨sy, ey⟩ := tS_ok hy ly
  obtain ⟨_, ix⟩ := read_back hx lx
  obtain ⟨_, iy⟩ := read_back hy ly
  have jx := jn_len (x := mdF a)
  have jy := jn_len (x := mdF b)
  have r1 : rC0 (bA (jn (mdF a))) = true := by unfold rC0; rw [lenS_bA, decide_eq_true (by omega)]
  have r2 : rC0 (bA (jn (mdF b))) = true := by unfold rC0; rw [lenS_bA, decide_eq_true (by omega)]
  rw [reads_eval, show L0.md = mdF from rfl, show L0.tC = tC0 from rfl, show L0.tS = taS from rfl, show L0.tE = taE from rfl, show L0.rC = rC0 from rfl, show L0.rE = raI from rfl, sx, sy, ex, ey, ix, iy, r1, r2, pB_iff.2 rfl, show tC0 (mdF a) = true from okX_allU hx, show tC0 (mdF b) = true from okX_allU hy, mid_true hx hy lx ly]
  rfl
theorem hTabN_ok : HTabOk Tryd.prog (hTabN L0) := by
  refine addH_ok ?_ (addH_ok ?_ (addH_ok ?_ (addH_ok ?_ (addH_ok ?_ (addH_ok ?_ emptyH_ok)))))
  · intro args h c v nb hq hc
    unfold gMdN at hq
    split at hq
    · rename_i nn xs
      cases hq
      exact ⟨.of Tryd.func23 (by kernel_rfl), made_fn nn xs⟩
    · cases hq
  · intro args h c v nb hq hc
    unfold gTaN at hq
    split at hq
    · rename_i l nn xs
      cases hq
      simp only [Bool.and_eq_true, pB_iff] at hc
      obtain ⟨rfl, h1⟩ := hc
      exact ⟨.of Tryd.func18 (by kernel_rfl), by rw [List.append_nil]; exact textall_fn nn h1⟩
    · cases hq
  · intro args h c v nb hq hc
    unfold gRaN at hq
    split at hq
    · cases hq
      simp only [Bool.and_eq_true, pB_iff] at hc
      obtain ⟨rfl, h1⟩ := hc
      exact ⟨.of Tryd.func21 (by kernel_rfl), readall_fn (of_decide_eq_true h1)⟩
    · cases hq
  · intro args h c v nb hq hc
    unfold gSaN at hq
    split at hq
    · rename_i n1 xs n2 ys
      cases hq
      exact ⟨.of Tryd.func24 (by kernel_rfl), by rw [List.append_nil]; exact same_fn n1 n2 (of_decide_eq_true hc)⟩
    · cases hq
  · intro args h c v nb hq hc
    unfold gTrN at hq
    split at hq
    · cases hq
      simp only [Bool.and_eq_true, pB_iff] at hc
      obtain ⟨rfl, h1⟩ := hc
      have h1 : trC0 _ = true := h1
      simp only [trC0, Bool.and_eq_true, decide_eq_true_eq] at h1
      exact ⟨.of Tryd.func25 (by kernel_rfl), by rw [List.append_nil]; exact trim_fn h1.1 h1.2⟩
    · cases hq
  · intro args h c v nb hq hc
    unfold gAwake at hq
    split at hq
    · cases hq
      rw [pB_iff] at hc
      subst hc
      exact ⟨.of Tryd.func11 (by kernel_rfl), awake_fn⟩
    · cases hq
theorem orcN_ok : OracleOk Tryd.prog (orcN L0) := inl_ok (hOrcG_ok hTabN_ok) ftab_ok emptyTab_ok plainL_ok mixed 20
end Go.Proofs.YtpehklboickdpaaDoor
