/- The statement SeedShuffles holds: whatever the state and the list, the law's call returns true and its arguments read as they did. No condition. -/
import Derived.Test.YtnbfnoomhlamnaaFs3
import Derived.Test.YtnbfnoomhlamnaaFs3
namespace Go.Proofs.Ytnbfnoomhlamnaa.seedShuffles
open Go Go.Eng Go.Proofs.Ytnbfnoomhlamnaa

theorem calls_of {args : List V} {h : List Blk} (he : evalFn Try.prog orcL noLoops 100 3 Try.f3 args h (fun v _ => some v) = some (.bool true)) (hm : ∀ (b : Nat) blk, h[b]? = some blk → blk.mine = false) {E : Env} {W : World} (hh : Holds E h W) (hin : inSs h.length args = true) :
    Calls Try.prog 3 (concs E args).toArray W fun e w' => e = .returned (.bool true) ∧ RowKit.Below W.heap.size W w' := by
  obtain ⟨v1, h1, hk, hok⟩ := evalFn_ok orcL_ok mixed Try.func3 noLoops_ok he
  cases hk
  refine (hok E W hh hin).mono ?_
  rintro e w' ⟨x, E', rfl, hx, _, ht⟩
  exact ⟨by rw [hx.bool], ht.below_ro hm⟩
def intsH (xs : List Int) : List Blk := [.rs false 1 (.ints .i64 xs)]
theorem ints_ro {xs : List Int} : ∀ (b : Nat) blk, (intsH xs)[b]? = some blk → blk.mine = false := by
  intro b blk hb
  match b, hb with
  | 0, hb => cases hb; rfl
  | _ + 1, hb => simp [intsH] at hb
def envZ (a : Option Addr) : Env := ⟨fun _ => 0, fun _ => 0, fun _ => 0, fun _ => 0, fun _ => true, fun _ => a⟩
theorem holdsZ {W : World} (a : Option Addr) : Holds (envZ a) (intsH []) W := by
  refine ⟨fun i blk hb => ?_, fun i j x y hi _ hm => ?_⟩
  · cases i with
    | zero =>
      simp only [intsH, List.getElem?_cons_zero, Option.some.injEq] at hb
      subst hb
      exact ⟨rfl, by omega, rfl, Nat.le_refl _, fun _ => ⟨rfl, rfl⟩, fun h => by cases h⟩
    | succ i => simp [intsH] at hb
  · cases i with
    | zero => simp only [intsH, List.getElem?_cons_zero, Option.some.injEq] at hi; subst hi; cases hm
    | succ i => simp [intsH] at hi
theorem walk_flat (z : Int) (a : Option Addr) (w : World) : Calls Try.prog 3 #[.int .i64 z, .slice a 0 0] w fun e w' => e = .returned (.bool true) ∧ RowKit.Below w.heap.size w w' := by
  have h := calls_of (W := w) (seedShuffles_true z []) ints_ro (holdsZ a) rfl
  simpa [concs, conc, envZ] using h
theorem walk_ints (z : Int) {b off len cap : Nat} {xs : List Int} {W : World} (hx : xs.length = len) (hc : len ≤ cap) (hcell : ∀ (i : Nat) x, xs[i]? = some x → W.cell? ⟨b, off + i, none⟩ = some (.int .i64 x)) :
    Calls Try.prog 3 #[.int .i64 z, .slice (some ⟨b, off, none⟩) len cap] W fun e w' => e = .returned (.bool true) ∧ RowKit.Below W.heap.size W w' := by
  have h0 := soft_holds (holdsS (k := .i64) hx hc hcell)
  have h := calls_of (seedShuffles_true z xs) ints_ro h0 rfl
  simpa [concs, conc, envS] using h

open Go.ChangeShapes Go.WideShapes Go.ChangeAt Go.RowKit
set_option linter.unusedVariables false

theorem cells3 : Try.prog.cellsOf 3 = 1 := by kernel_rfl
theorem own : ownKnob Try.prog.godebug = none := by kernel_rfl

set_option maxRecDepth 100000 in
theorem lifted (os : Os) (started : os.Started) (H : Type) (enc : TypeId × Value → H) :
    ReturnsInHanded {} Try.checked os 3 .any (Rows.seedShufflesSpec.pre6 enc Try.prog Try.f3 Rows.seedShufflesRow.domain false) (Rows.seedShufflesSpec.post enc Try.prog Try.f3 false true false false) := by
  refine returnsInHanded_of_change (C := Try.checked) own started (by kernel_rfl) Try.func3
    (ChangeSpec.witness6 (enc := enc) (C := Try.checked) false ⟨#[], #[.int .i64 0, .slice none 0 0], []⟩ 8 (by kernel_rfl) (by kernel_rfl) (by kernel_rfl) (by kernel_rfl)) ?_
  intro W base args ds gs before hval0 hW hcnd _
  have hval : ∀ (j : Nat) t v, Try.f3.params[j]? = some t → args[j]? = some v → Value.okWide Try.prog W .any base t v := hval0
  have hW' := hW
  obtain ⟨p, q, hA0, hV, rfl, hfz, hnd⟩ := hW
  have hA : DataW.TrodAll enc Try.prog W 0 (fun _ => true) true Try.f3.params.toList args.toList ds p := hA0
  rw [Try.params3] at hA hval
  obtain ⟨v0, vs0, d0, ds0, p0, q0, hargs, rfl, rfl, h0, r0⟩ := trodAll_cons hA
  obtain ⟨v1, vs1, d1, ds1, p1, q1, rfl, rfl, rfl, h1, r1⟩ := trodAll_cons r0
  obtain ⟨rfl, rfl, rfl⟩ := trodAll_nil r1
  obtain rfl : args = #[v0, v1] := by cases args; simp_all
  obtain ⟨rfl, rfl⟩ := trodVars_none hV
  obtain ⟨a0, rfl, rfl, rfl, w0⟩ := open_int Try.underlying22 (hval 0 22 v0 rfl rfl) h0
  obtain ⟨ba1, n1, c1, rfl⟩ := okWide_slice Try.underlying23 (hval 1 23 v1 rfl rfl)
  obtain ⟨fuel, hf⟩ := h1
  clear hA0 hval0
  simp only [List.append_nil, List.nil_append] at hW'
  rcases open_ints Try.underlying23 Try.underlying3 cells3 hf with ⟨hcs, hx⟩ | ⟨a, len, cap, zs, hcs, _, hl, hm, hz, hx, hcell, hwz⟩
  · have hv1 := slice_cells hcs
    cases hv1
    cases hx
    refine (walk_flat a0 none W).mono fun e W' ⟨he, hg⟩ => ?_
    subst he
    exact ⟨_, rfl, post_below (pa := []) (pv := []) hW' (fun _ _ _ => (trodAll_cons_mk (shut_bool Try.underlying4 _) trodAll_mk0)) (fun sp _ => (trodAll_cons_mk (shut_int Try.underlying22 w0) (trodAll_cons_mk (shut_nil Try.underlying23) trodAll_mk0))) (fun _ _ => rfl) rfl
      hg (ok_one (by kernel_rfl) rfl (okWide_bool_mk Try.underlying4 _))⟩
  · have hv1 := slice_cells hcs
    obtain ⟨e1, e2, e3⟩ : some a = ba1 ∧ len = n1 ∧ cap = c1 := by simp only [Value.slice.injEq] at hv1; exact ⟨hv1.1.symm, hv1.2.1.symm, hv1.2.2.symm⟩
    subst e1; subst e2; subst e3
    simp only [Prod.mk.injEq] at hx
    obtain ⟨rfl, rfl⟩ := hx
    have hz' : zs.length = cap := by simpa using hz
    have hcalls : Calls Try.prog 3 #[.int .i64 a0, .slice (some a) len cap] W fun e w' => e = .returned (.bool true) ∧ RowKit.Below W.heap.size W w' := by
      rcases Nat.eq_zero_or_pos cap with hc0 | hc0
      · subst hc0
        obtain rfl : len = 0 := by omega
        exact walk_flat a0 (some a) W
      · obtain ⟨b, off, rfl, hat⟩ := ints_at hcell (by omega)
        refine walk_ints a0 (xs := zs.take len) (by rw [List.length_take]; omega) hl (fun i x hi => ?_)
        rw [List.getElem?_take] at hi
        split at hi
        · have hlt := getElem?_lt hi
          rw [hat i hlt, List.getD_eq_getElem?_getD, hi]
          rfl
        · cases hi
    refine hcalls.mono fun e W' ⟨he, hg⟩ => ?_
    subst he
    exact ⟨_, rfl, post_below (pa := MemPlace.row a zs.length) (pv := []) hW' (fun _ _ _ => (trodAll_cons_mk (shut_bool Try.underlying4 _) trodAll_mk0))
      (fun sp hsp => by
        have := (trodAll_cons_mk (shut_int Try.underlying22 w0) (trodAll_cons_mk (keep_ints Try.underlying23 Try.underlying3 cells3 hg hl hm hz' hcell hwz (fun p hp => hsp p (by simpa using hp))) trodAll_mk0) : DataW.TrodAll enc Try.prog W' 0 sp true [22, 23] _ _ _)
        rw [List.append_nil, List.nil_append] at this
        exact this) (fun _ _ => rfl) (by simp)
      hg (ok_one (by kernel_rfl) rfl (okWide_bool_mk Try.underlying4 _))⟩

theorem over : Rows.seedShufflesRow.holds Try.pinned (OpenSpec.ofChange Rows.seedShufflesSpec) :=
  OpenClaim.holds_of_wide 3 Try.f3 rfl rfl rfl rfl rfl rfl rfl ⟨rfl, rfl, rfl, rfl, rfl⟩ rfl rfl rfl rfl rfl (by kernel_rfl) Try.func3 (by kernel_rfl)
    (of_decide_eq_true (by kernel_rfl)) (by unfold Func.isWrapper; first | (rw [if_pos (by decide +kernel)]; kernel_rfl) | (rw [if_neg (by decide +kernel)]; exact ⟨rfl, rfl⟩))
    (fun os started H enc _ => lifted os started H enc)

/-- The statement. -/
theorem proved : Rows.SeedShufflesSaid := over
#print axioms proved
end Go.Proofs.Ytnbfnoomhlamnaa.seedShuffles
