/- ENGINE, PART 16: slices that are handed to a function, as blocks of its own heap. -/
import Derived.Test.YtbocdcnkmcejjaaDoorEngLocal
namespace Go.Eng
open Go
section
variable {R : Type}

def rowPlain : Row → Bool
  | .vs l => plainVs l
  | _ => true
theorem rowPlain_ok {row : Row} (h : rowPlain row = true) (E E' : Env) (n : Nat) : inSs n row.toVs = true ∧ ∀ (i : Nat) v, row.toVs[i]? = some v → conc E v = conc E' v := by
  have key : plainVs row.toVs = true := by
    cases row with
    | vs l => exact h
    | ints k l => simp only [Row.toVs]; clear h; induction l with
      | nil => rfl
      | cons x r ih => simp only [List.map_cons, plainVs, plainV]; exact ih
    | strs l => simp only [Row.toVs]; clear h; induction l with
      | nil => rfl
      | cons x r ih => simp only [List.map_cons, plainVs, plainV]; exact ih
  obtain ⟨h1, h2⟩ := plainVs_conc (E := E) (E' := E') (n := n) _ key
  refine ⟨h2, fun i v hi => ?_⟩
  rw [concs_eq, concs_eq] at h1
  have := congrArg (fun l => l[i]?) h1
  simpa [List.getElem?_map, hi] using this

def locK (x : V) (H : List Blk) (i : Nat) (K : V → List Blk → Option R) : Option R := match plainV x with
  | true => K x []
  | false => match x with
    | .gs b => match sliceRow (getB H b) with
      | some (sz, row) => match rowPlain row with
        | true => K (.gs i) [.rs (nnB (getB H b)) sz row]
        | false => none
      | none => none
    | .view b l sz2 len => match sliceRow (getB H b) with
      | some (sz, row) => match Nat.beq sz2 sz with
        | true => cond (decide (l + len ≤ elemsN row.len sz)) (match rowSub row (mulS l sz) (mulS len sz) with
          | some r => match rowPlain r with
            | true => K (.gs i) [.rs (nnB (getB H b)) sz r]
            | false => none
          | none => none) none
        | false => none
      | none => none
    | .aslice b off len cap => match getB H b with
      | .own _ row => match rowSub row off len with
        | some r => cond (decide (off + len ≤ row.len ∧ len ≤ cap)) (match rowPlain (tidyR r) with
          | true => K (.gs i) [.rs true 1 (tidyR r)]
          | false => none) none
        | none => none
      | _ => none
    | _ => none

def Env.one (E : Env) (i blk delta len cap : Nat) (nil : Bool) (ba : Option Addr) : Env :=
  { blk := fun b => if b = i then blk else E.blk b, delta := fun b => if b = i then delta else E.delta b, len := fun b => if b = i then len else E.len b,
    cap := fun b => if b = i then cap else E.cap b, isnil := fun b => if b = i then nil else E.isnil b, base := fun b => if b = i then ba else E.base b }
theorem Agree.one (E : Env) (i blk delta len cap : Nat) (nil : Bool) (ba : Option Addr) : Agree i E (E.one i blk delta len cap nil ba) :=
  ⟨fun _ hb => if_neg (by omega), fun _ hb => if_neg (by omega), fun _ hb => if_neg (by omega), fun _ hb => if_neg (by omega), fun _ hb => if_neg (by omega), fun _ hb => if_neg (by omega)⟩

theorem Holds.lend {E0 : Env} {h : List Blk} {W : World} (hh : Holds E0 h W) (hro : ∀ (b : Nat) blk, h[b]? = some blk → blk.mine = false) {blk delta len cap : Nat} {nil : Bool} {ba : Option Addr} {nn : Bool} {sz : Nat} {row : Row}
    (hk : BlkOk (E0.one h.length blk delta len cap nil ba) (h.length + 1) W h.length (.rs nn sz row)) :
    Holds (E0.one h.length blk delta len cap nil ba) (h ++ [.rs nn sz row]) W ∧ ∀ (b : Nat) x, (h ++ [Blk.rs nn sz row])[b]? = some x → x.mine = false := by
  have hE := Agree.one E0 h.length blk delta len cap nil ba
  have hro' : ∀ (b : Nat) x, (h ++ [Blk.rs nn sz row])[b]? = some x → x.mine = false := fun b x hb => by
    rcases getElem?_snoc hb with hb | ⟨_, rfl⟩
    · exact hro b x hb
    · rfl
  refine ⟨(hh.keep hE fun _ _ => rfl).snoc hk (fun b x hb _ _ hm => ?_), hro'⟩
  rcases hm with hm | hm
  · cases hm
  · rw [hro b x hb] at hm; cases hm

theorem locK_ok {x : V} {H : List Blk} {i : Nat} {K : V → List Blk → Option R} {r : R} (hr : locK x H i K = some r) : ∃ x' nb, K x' nb = some r ∧
    ∀ E W, Holds E H W → inS H.length x = true → ∀ E0 h, Holds E0 h W → h.length = i → (∀ (b : Nat) blk, h[b]? = some blk → blk.mine = false) →
      ∃ E1, Agree i E0 E1 ∧ Holds E1 (h ++ nb) W ∧ conc E1 x' = conc E x ∧ inS (h ++ nb).length x' = true ∧ ∀ (b : Nat) blk, (h ++ nb)[b]? = some blk → blk.mine = false := by
  unfold locK at hr
  split at hr
  · rename_i hp
    refine ⟨x, [], hr, fun E W hh _ E0 h h0 hi hro => ⟨E0, Agree.refl _ _, by simpa using h0, ?_, ?_, by simpa using hro⟩⟩
    · exact (plainV_conc (E := E0) (E' := E) (n := 0) x hp).1
    · exact (plainV_conc (E := E0) (E' := E) (n := (h ++ []).length) x hp).2
  · split at hr
    · rename_i b _
      split at hr
      · rename_i sz row hsr
        split at hr
        · rename_i hpl
          refine ⟨_, _, hr, fun E W hh _ E0 h h0 hi hro => ?_⟩
          subst hi
          have hne : getB H b ≠ .dead := fun e => by rw [e] at hsr; simp [sliceRow] at hsr
          have hb := getB_some rfl hne
          obtain ⟨hrow, hz, hl, hcap, hnil, _⟩ := sliceRow_ok hsr (hh.ok b _ hb)
          obtain ⟨q1, q2⟩ := h0.lend hro (blk := E.blk b) (delta := E.delta b) (len := E.len b) (cap := E.cap b) (nil := E.isnil b) (ba := E.base b) (nn := nnB (getB H b)) (sz := sz) (row := row) (by
            refine ⟨(rowPlain_ok hpl E E _).1, hz, by simp [Env.one, hl], by simp [Env.one, hcap], fun hn => ?_, fun hn j v hj => ?_⟩
            · simp only [Env.one, if_true] at hn
              refine ⟨hnil hn, ?_⟩
              cases hq : nnB (getB H b) with
              | false => rfl
              | true => have := (nnB_ok hq (hh.ok b _ hb)).1; rw [hn] at this; cases this
            · simp only [Env.one, if_true]
              rw [(rowPlain_ok hpl _ E 0).2 j v hj]
              exact (hh.cell hb (by rw [hrow]; exact hj)).1)
          exact ⟨_, Agree.one _ _ _ _ _ _ _ _, q1, by simp [conc, Env.one], by simp [inS], q2⟩
        · cases hr
      · cases hr
    · rename_i b l sz2 len _
      split at hr
      · rename_i sz row hsr
        split at hr
        · rename_i hq
          have hq := Nat.eq_of_beq_eq_true hq
          subst hq
          cases hcd : decide (l + len ≤ elemsN row.len sz2) with
          | false => rw [hcd] at hr; cases hr
          | true =>
            rw [hcd, cond_true] at hr
            simp only [decide_eq_true_eq] at hcd
            split at hr
            · rename_i rr hrr
              split at hr
              · rename_i hpl
                have hsub := rowSub_ok hrr
                rw [mulS_eq, mulS_eq] at hsub
                refine ⟨_, _, hr, fun E W hh _ E0 h h0 hi hro => ?_⟩
                subst hi
                have hne : getB H b ≠ .dead := fun e => by rw [e] at hsr; simp [sliceRow] at hsr
                have hb := getB_some rfl hne
                obtain ⟨hrow, hz, hl, hcap, hnil, _⟩ := sliceRow_ok hsr (hh.ok b _ hb)
                rw [elemsN_eq hz hl] at hcd
                rw [Row.len_eq] at hl hnil
                have hfit : l * sz2 + len * sz2 ≤ row.toVs.length := by rw [← hl, ← Nat.add_mul]; exact Nat.mul_le_mul_right _ hcd
                have hlen : rr.toVs.length = len * sz2 := by rw [hsub]; simp; omega
                have hget : ∀ j v, rr.toVs[j]? = some v → row.toVs[l * sz2 + j]? = some v := fun j v hj => by
                  rw [hsub, List.getElem?_take] at hj
                  split at hj
                  · rw [List.getElem?_drop] at hj; exact hj
                  · cases hj
                have hn0 : E.isnil b = true → E.len b = 0 := fun hn => by
                  have h3 := hnil hn
                  rw [h3] at hl
                  rcases Nat.mul_eq_zero.1 hl with h | h
                  · exact h
                  · omega
                obtain ⟨q1, q2⟩ := h0.lend hro (blk := E.blk b) (delta := if E.cap b = l then E.delta b else E.delta b + l * sz2) (len := len) (cap := E.cap b - l) (nil := E.isnil b) (ba := E.base b) (nn := nnB (getB H b)) (sz := sz2) (row := rr) (by
                  refine ⟨(rowPlain_ok hpl E E _).1, hz, by simp [Env.one, Row.len_eq, hlen], by simp [Env.one]; omega, fun hn => ?_, fun hn j v hj => ?_⟩
                  · simp only [Env.one, if_true] at hn
                    refine ⟨by rw [Row.len_eq, hlen]; have := hn0 hn; rw [show len = 0 by omega]; simp, ?_⟩
                    cases hq : nnB (getB H b) with
                    | false => rfl
                    | true => have := (nnB_ok hq (hh.ok b _ hb)).1; rw [hn] at this; cases this
                  · simp only [Env.one, if_true]
                    have hjl : j < len * sz2 := by rw [← hlen]; exact getElem?_lt hj
                    have hlp : 0 < len := by
                      rcases Nat.eq_zero_or_pos len with h | h
                      · subst h; simp at hjl
                      · exact h
                    rw [(rowPlain_ok hpl _ E 0).2 j v hj, if_neg (by omega), Nat.add_assoc]
                    exact (hh.cell hb (by rw [hrow]; exact hget j v hj)).1)
                refine ⟨_, Agree.one _ _ _ _ _ _ _ _, q1, ?_, by simp [inS], q2⟩
                simp only [conc, Env.one, if_true]
                cases hn : E.isnil b with
                | true =>
                  have := hn0 hn
                  simp only [cond_true]
                  rw [show len = 0 by omega]
                | false =>
                  simp only [cond_false]
                  split <;> rfl
              · cases hr
            · cases hr
        · cases hr
      · cases hr
    · rename_i b off len cap _
      split at hr
      · rename_i ty row hblk
        split at hr
        · rename_i rr hrr
          cases hcd : decide (off + len ≤ row.len ∧ len ≤ cap) with
          | false => rw [hcd] at hr; cases hr
          | true =>
            rw [hcd, cond_true] at hr
            simp only [decide_eq_true_eq] at hcd
            split at hr
            · rename_i hpl
              have hsub := rowSub_ok hrr
              refine ⟨_, _, hr, fun E W hh _ E0 h h0 hi hro => ?_⟩
              subst hi
              have hb := getB_some hblk (by simp)
              have hfit := hcd.1
              rw [Row.len_eq] at hfit
              have hlen : (tidyR rr).toVs.length = len := by rw [tidyR_ok, hsub]; simp; omega
              have hget : ∀ j v, (tidyR rr).toVs[j]? = some v → row.toVs[off + j]? = some v := fun j v hj => by
                rw [tidyR_ok, hsub, List.getElem?_take] at hj
                split at hj
                · rw [List.getElem?_drop] at hj; exact hj
                · cases hj
              obtain ⟨q1, q2⟩ := h0.lend hro (blk := E.blk b) (delta := E.delta b + off) (len := len) (cap := cap) (nil := false) (ba := none) (nn := true) (sz := 1) (row := tidyR rr) (by
                refine ⟨(rowPlain_ok hpl E E _).1, by omega, by simp [Env.one, Row.len_eq, hlen], by simpa [Env.one] using hcd.2, fun hn => by simp [Env.one] at hn, fun hn j v hj => ?_⟩
                simp only [Env.one, if_true]
                rw [(rowPlain_ok hpl _ E 0).2 j v hj, Nat.add_assoc]
                exact (hh.cell hb (hget j v hj)).1)
              exact ⟨_, Agree.one _ _ _ _ _ _ _ _, q1, by simp [conc, Env.one], by simp [inS], q2⟩
            · cases hr
        · cases hr
      · cases hr
    · cases hr
end
end Go.Eng
