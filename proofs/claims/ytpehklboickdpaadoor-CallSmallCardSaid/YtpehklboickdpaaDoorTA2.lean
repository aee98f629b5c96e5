/- Chapter 8: TextAll, for every list of at most 319 numbers. -/
import Derived.Test.YtpehklboickdpaaDoorTA
namespace Go.Proofs.YtpehklboickdpaaDoor
open Go Go.Eng
theorem codes0 : codesOk [] := fun x h => by cases h
def txt (c : Int) : ByteArray := textsL.getD c.toNat ⟨#[]⟩
/-- The texts of calls, as far as they are ones. -/
def taR : List Int → List ByteArray → Bool × List ByteArray
  | [], ss => (true, ss)
  | c :: r, ss => bif decide (c ≤ 37) then taR r (ss ++ [txt c]) else (false, ss)
def allU : List Int → Bool
  | [] => true
  | c :: r => decide (0 ≤ c ∧ c < 256) && allU r
theorem allU_get : ∀ {l : List Int}, allU l = true → ∀ {i : Nat} (hi : i < l.length), 0 ≤ l[i] ∧ l[i] < 256
  | c :: r, h, 0, _ => by
    simp only [allU, Bool.and_eq_true, decide_eq_true_eq] at h
    exact h.1
  | c :: r, h, i + 1, hi => by
    simp only [allU, Bool.and_eq_true] at h
    exact allU_get h.2 (i := i) (by simpa using hi)
theorem txt_get {c : Int} (h : 0 ≤ c ∧ c ≤ 37) : textsL[c.toNat]? = some (txt c) := by
  have hl : c.toNat < textsL.length := by rw [show textsL.length = 38 from rfl]; omega
  unfold txt
  rw [List.getD_eq_getElem?_getD, List.getElem?_eq_getElem hl]; rfl
def taFin (e : ByteArray) (z : Int) (xs : List Int) (r : Bool × List ByteArray) : XE × List PV := (if r.1 = true then .exit 0 else .ret, [.s (if r.1 = true then e else ⟨#[]⟩), .i (if r.1 = true then z else 80), .ss textsL, .l xs, .ss r.2])
theorem ta_loop (nn : Bool) (rd : Option Nat) (e : ByteArray) (z : Int) (xs : List Int) (hl : xs.length ≤ 319) (hu : allU xs = true) : ∀ x : Nat × List ByteArray, (x.1 ≤ xs.length ∧ x.2.length ≤ x.1) →
    SimC Tryd.prog 2 rd (.loop taLp) ((taT nn).at [.s e, .i z, .i (xs.length : Int), .i (x.1 : Int), .ss textsL, .l xs, .ss x.2]) (taFin e z xs (taR (xs.drop x.1) x.2)).1 ((taX nn).at (taFin e z xs (taR (xs.drop x.1) x.2)).2) := by
  refine loop_of_rounds (C := orcS tabS plainL) (L := noLoops) (N := 100) (me := 18) (T := taT nn) (T' := taX nn) (orcS_ok tabS_ok plainL_ok) mixed noLoops_ok (by cases nn <;> kernel_rfl) (by cases nn <;> kernel_rfl) (X := Nat × List ByteArray)
    (fun x => [.s e, .i z, .i (xs.length : Int), .i (x.1 : Int), .ss textsL, .l xs, .ss x.2]) (fun x => x.1 ≤ xs.length ∧ x.2.length ≤ x.1) (fun x => xs.length - x.1) (fun x => taFin e z xs (taR (xs.drop x.1) x.2)) ?_
  rintro ⟨i, ss⟩ ⟨hi, hs⟩
  dsimp only at hi hs ⊢
  have h := ta_round nn rd e z (xs.length : Int) (i : Int) textsL ss xs
  rcases Nat.lt_or_ge i xs.length with hlt | hge
  · have hc := allU_get hu hlt
    unfold atU at h
    rw [decide_eq_true (show (i : Int) < (xs.length : Int) by omega), cond_true, decide_eq_true (show 0 ≤ (i : Int) ∧ (i : Int) < Int.ofNat xs.length from ⟨by omega, by show (i : Int) < (xs.length : Int); omega⟩), cond_true, show ((i : Int)).toNat = i from rfl, List.getElem?_eq_getElem hlt] at h
    dsimp only at h
    rw [List.drop_eq_getElem_cons hlt]
    simp only [taR]
    by_cases hb : xs[i] ≤ 37
    · unfold atB at h
      rw [decide_eq_true hb, Bool.not_true, cond_false, decide_eq_true (show 0 ≤ xs[i] ∧ xs[i] < 38 by omega), cond_true, txt_get ⟨hc.1, hb⟩] at h
      dsimp only at h
      rw [decide_eq_true (show (ss ++ [txt xs[i]]).length * 17 ≤ 70368744177664 by rw [List.length_append, List.length_singleton]; omega), cond_true, wr64 (by omega) (by omega)] at h
      refine ⟨_, _, _, h, codes0, .inl ⟨rfl, (i + 1, ss ++ [txt xs[i]]), rfl, ⟨by dsimp only; omega, by dsimp only; rw [List.length_append, List.length_singleton]; omega⟩, by dsimp only; omega, ?_⟩⟩
      rw [decide_eq_true hb]; rfl
    · rw [decide_eq_false hb, Bool.not_false, cond_true] at h
      refine ⟨_, _, _, h, codes0, .inr ⟨by simp, ?_⟩⟩
      rw [decide_eq_false hb]; rfl
  · rw [decide_eq_false (show ¬ (i : Int) < (xs.length : Int) by omega), cond_false] at h
    refine ⟨_, _, _, h, codes0, .inr ⟨by simp, ?_⟩⟩
    rw [List.drop_eq_nil_of_le (by omega)]; rfl
def taC (n i : Int) (xs : List Int) (ss : List ByteArray) : Bool := decide (n = (xs.length : Int) ∧ i = 0 ∧ xs.length ≤ 319 ∧ ss.length = 0) && allU xs
noncomputable def taTree (nn : Bool) : List PV → Fin
  | [.s e, .i z, .i n, .i i, .ss tl, .l xs, .ss ss] => .br (taC n i xs ss && pB (tl = textsL)) (.br (taR xs []).1 (.leaf (.exit 0) ((taX nn).at [.s e, .i z, .ss tl, .l xs, .ss (taR xs []).2])) (.leaf .ret ((taX nn).at [.s ⟨#[]⟩, .i 80, .ss tl, .l xs, .ss (taR xs []).2]))) .no
  | _ => .no
noncomputable def taL (nn : Bool) : Loops := sums (fun n => match n with | 5 => some (lsumF 2 (taT nn) taLp (taTree nn)) | _ => none)
theorem taL_ok (nn : Bool) : loopsOk Tryd.prog (taL nn) := by
  intro n g hg
  simp only [taL, sums] at hg
  split at hg
  · cases hg
    refine lsumF_ok (by cases nn <;> kernel_rfl) (fun rd ps e1 st1 hq => ?_)
    unfold taTree at hq
    split at hq
    · rename_i e z n i tl xs ss
      simp only [Fin.pick] at hq
      cases hc : (taC n i xs ss && pB (tl = textsL)) with
      | false => rw [hc] at hq; cases hq
      | true =>
        rw [hc, cond_true] at hq
        simp only [taC, Bool.and_eq_true, decide_eq_true_eq, pB_iff] at hc
        obtain ⟨⟨⟨rfl, rfl, h1, h2⟩, h3⟩, rfl⟩ := hc
        obtain rfl := List.eq_nil_of_length_eq_zero h2
        have := ta_loop nn rd e z xs h1 h3 (0, []) ⟨Nat.zero_le _, Nat.le_refl _⟩
        dsimp only at this
        rw [show xs.drop 0 = xs from rfl] at this
        unfold taFin at this
        cases hr : (taR xs []).1 with
        | true => rw [hr] at hq this; cases hq; exact this
        | false => rw [hr] at hq this; cases hq; exact this
    · cases hq
  · cases hg
theorem textall_eval (nn : Bool) (xs : List Int) : evalFn Tryd.prog (orcS tabS plainL) (taL nn) 100 18 Tryd.f18 [.gs 1] (gH ++ [.rs nn 1 (.ints .u8 xs)]) (fun v _ => some v) =
    bif decide (319 < Int.ofNat xs.length) then some (.tuple [.str ⟨#[]⟩, .int .i64 5]) else bif decide (0 ≤ (0 : Int) ∧ 0 ≤ Int.ofNat xs.length ∧ Int.ofNat xs.length * 17 ≤ 140737488355328) then
      cond (codesB [(taLp, taLp)]) (bif taC (Int.ofNat xs.length) 0 xs [] && pB (textsL = textsL) then bif (taR xs []).1 then
        bif decide ((taR xs []).2.length ≤ 140737488355328) && decide (joinLen (taR xs []).2 ⟨#[32]⟩ ≤ 140737488355328) then some (.tuple [.str (joinS (taR xs []).2 ⟨#[32]⟩), .int .i64 0]) else none else some (.tuple [.str ⟨#[]⟩, .int .i64 80]) else none) none else none := by cases nn <;> kernel_rfl
theorem gHs_ro {nn : Bool} {xs : List Int} : ∀ (b : Nat) blk, (gH ++ [.rs nn 1 (.ints .u8 xs)])[b]? = some blk → blk.mine = false := by
  intro b blk hb
  match b, hb with
  | 0, hb => cases hb; rfl
  | 1, hb => cases hb; rfl
  | _ + 2, hb => simp [gH] at hb
theorem taCd : codesB [(taLp, taLp)] = true := by rw [codesB_iff]; intro x hx; simp at hx; rw [hx]
theorem ta_of (nn : Bool) {xs : List Int} {v : V} (hv : plainV v = true) (h : evalFn Tryd.prog (orcS tabS plainL) (taL nn) 100 18 Tryd.f18 [.gs 1] (gH ++ [.rs nn 1 (.ints .u8 xs)]) (fun v _ => some v) = some v) :
    FnOK Tryd.prog 18 [.gs 1] (gH ++ [.rs nn 1 (.ints .u8 xs)]) v (gH ++ [.rs nn 1 (.ints .u8 xs)]) := by
  obtain ⟨v1, h1, hk, hok⟩ := evalFn_ok (orcS_ok tabS_ok plainL_ok) mixed Tryd.func18 (taL_ok nn) h
  cases hk
  exact hok.plain hv gHs_ro
theorem textall_long (nn : Bool) {xs : List Int} (h : 319 < xs.length) : FnOK Tryd.prog 18 [.gs 1] (gH ++ [.rs nn 1 (.ints .u8 xs)]) (.tuple [.str ⟨#[]⟩, .int .i64 5]) (gH ++ [.rs nn 1 (.ints .u8 xs)]) := by
  refine ta_of nn rfl ?_
  rw [textall_eval, decide_eq_true (show (319 : Int) < Int.ofNat xs.length by show (319 : Int) < (xs.length : Int); omega)]; rfl
theorem ta_key (nn : Bool) {xs : List Int} (hl : xs.length ≤ 319) (hu : allU xs = true) : evalFn Tryd.prog (orcS tabS plainL) (taL nn) 100 18 Tryd.f18 [.gs 1] (gH ++ [.rs nn 1 (.ints .u8 xs)]) (fun v _ => some v) =
    bif (taR xs []).1 then bif decide ((taR xs []).2.length ≤ 140737488355328) && decide (joinLen (taR xs []).2 ⟨#[32]⟩ ≤ 140737488355328) then some (.tuple [.str (joinS (taR xs []).2 ⟨#[32]⟩), .int .i64 0]) else none else some (.tuple [.str ⟨#[]⟩, .int .i64 80]) := by
  have hC : taC (Int.ofNat xs.length) 0 xs [] = true := by
    unfold taC
    rw [hu, decide_eq_true ⟨rfl, rfl, hl, rfl⟩]; rfl
  rw [textall_eval, decide_eq_false (show ¬ (319 : Int) < Int.ofNat xs.length from fun h => by have : (319 : Int) < (xs.length : Int) := h; omega), cond_false, decide_eq_true (show 0 ≤ (0 : Int) ∧ 0 ≤ Int.ofNat xs.length ∧ Int.ofNat xs.length * 17 ≤ 140737488355328 from ⟨by omega, Int.natCast_nonneg _, by show (xs.length : Int) * 17 ≤ 140737488355328; omega⟩), cond_true, taCd, cond_true, hC, pB_iff.2 rfl, Bool.and_self, cond_true]
theorem textall_bad (nn : Bool) {xs : List Int} (hl : xs.length ≤ 319) (hu : allU xs = true) (h : (taR xs []).1 = false) : FnOK Tryd.prog 18 [.gs 1] (gH ++ [.rs nn 1 (.ints .u8 xs)]) (.tuple [.str ⟨#[]⟩, .int .i64 80]) (gH ++ [.rs nn 1 (.ints .u8 xs)]) := by
  refine ta_of nn rfl ?_
  rw [ta_key nn hl hu, h]; rfl
theorem txt_small (c : Int) : (txt c).data.toList.length ≤ 3 := by
  have key : ∀ t ∈ textsL, t.data.toList.length ≤ 3 := by decide
  unfold txt
  rw [List.getD_eq_getElem?_getD]
  cases h : textsL[c.toNat]? with
  | none => simp
  | some t => exact key t (List.mem_of_getElem? h)
theorem taR_small : ∀ (xs : List Int) (ss : List ByteArray), (∀ t ∈ ss, t.data.toList.length ≤ 3) → (taR xs ss).2.length ≤ ss.length + xs.length ∧ ∀ t ∈ (taR xs ss).2, t.data.toList.length ≤ 3
  | [], ss, h => ⟨by simp [taR], h⟩
  | c :: r, ss, h => by
    unfold taR
    cases decide (c ≤ 37) with
    | true =>
      obtain ⟨h1, h2⟩ := taR_small r (ss ++ [txt c]) (fun t ht => by
        rcases List.mem_append.1 ht with ht | ht
        · exact h t ht
        · rw [List.mem_singleton] at ht; rw [ht]; exact txt_small c)
      refine ⟨?_, h2⟩
      rw [List.length_append, List.length_singleton] at h1
      rw [List.length_cons]
      simp only [cond_true]
      omega
    | false => exact ⟨by simp only [cond_false, List.length_cons]; omega, h⟩
theorem join_cons (t u : List UInt8) (r : List (List UInt8)) (sep : List UInt8) : Lib.join (t :: u :: r) sep = t ++ (sep ++ Lib.join (u :: r) sep) := by simp [Lib.join, List.intercalate]
theorem join_small : ∀ (l : List (List UInt8)) (sep : List UInt8), (∀ t ∈ l, t.length ≤ 3) → sep.length = 1 → (Lib.join l sep).length ≤ 4 * l.length
  | [], _, _, _ => by simp [Lib.join]
  | [t], _, h, _ => by
    have := h t (by simp)
    simp [Lib.join]
    omega
  | t :: u :: r, sep, h, hs => by
    have h1 := h t (by simp)
    have h2 := join_small (u :: r) sep (fun x hx => h x (by simp [hx])) hs
    rw [join_cons, List.length_append, List.length_append, List.length_cons]
    omega
theorem textall_ok (nn : Bool) {xs : List Int} (hl : xs.length ≤ 319) (hu : allU xs = true) (h : (taR xs []).1 = true) : FnOK Tryd.prog 18 [.gs 1] (gH ++ [.rs nn 1 (.ints .u8 xs)]) (.tuple [.str (joinS (taR xs []).2 ⟨#[32]⟩), .int .i64 0]) (gH ++ [.rs nn 1 (.ints .u8 xs)]) := by
  refine ta_of nn rfl ?_
  obtain ⟨h1, h2⟩ := taR_small xs [] (fun t ht => by cases ht)
  rw [List.length_nil] at h1
  have h3 : joinLen (taR xs []).2 ⟨#[32]⟩ ≤ 4 * (taR xs []).2.length := by
    unfold joinLen
    have := join_small ((taR xs []).2.map fun x => x.data.toList) [32] (fun t ht => by
      obtain ⟨u, hu, rfl⟩ := List.mem_map.1 ht
      exact h2 u hu) rfl
    rw [List.length_map] at this
    exact this
  rw [ta_key nn hl hu, h, cond_true, decide_eq_true (by omega), decide_eq_true (by omega)]; rfl
end Go.Proofs.YtpehklboickdpaaDoor
