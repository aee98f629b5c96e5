/- The tied card NatMore holds: whatever the numbers and the list, the law's call returns true and its arguments read as they did; the tables that the row lists are tied to the program's text. No condition. -/
import Derived.Test.YthpdeiolhahobaaDoorLMore3
import Derived.Test.YthpdeiolhahobaaDoorFrameC
import Derived.Test.YthpdeiolhahobaaDoorEng4
import Derived.Lay
import Derived.SevenTiedAt
import Derived.ChangeMaps5
import Derived.Test.YthpdeiolhahobaaDoorTie
import Derived.Test.YthpdeiolhahobaaDoorCards
namespace Go.Proofs.YthpdeiolhahobaaDoor.natMore
open Go Go.Eng Go.Proofs.YthpdeiolhahobaaDoor
set_option linter.unusedVariables false
theorem calls_of {O : Oracle} (hO : OracleOk Tryd.prog O) {args : List V} {h : List Blk} (he : evalFn Tryd.prog O noLoops 200 4 Tryd.f4 args h (fun v _ => some v) = some (.bool true)) (hm : ∀ (b : Nat) blk, h[b]? = some blk → blk.mine = false) {E : Env} {W : World} (hh : Holds E h W) (hin : inSs h.length args = true) :
    Calls Tryd.prog 4 (concs E args).toArray W fun e w' => e = .returned (.bool true) ∧ RowKit.Below W.heap.size W w' := by
  obtain ⟨v1, h1, hk, hok⟩ := evalFn_ok hO mixed Tryd.func4 noLoops_ok he
  cases hk
  refine (hok E W hh hin).mono ?_
  rintro e w' ⟨x, E', rfl, hx, _, ht⟩
  exact ⟨by rw [hx.bool], ht.below_ro hm⟩
theorem i64_in {a : Int} (w : (Lit.int .i64 a).wf = true) : -9223372036854775808 ≤ a ∧ a < 9223372036854775808 := i64_range w
theorem walk_flat {n k : Int} {v : Value} (w : World) (h : evalFn Tryd.prog (orcNM M0) noLoops 200 4 Tryd.f4 [.int .i64 n, .int .i64 k, .flat v] [] (fun v _ => some v) = some (.bool true)) :
    Calls Tryd.prog 4 #[.int .i64 n, .int .i64 k, v] w fun e w' => e = .returned (.bool true) ∧ RowKit.Below w.heap.size w w' := by
  have h := calls_of orcNM_ok h (fun b blk hb => by simp at hb) (emptyHolds env0 w) rfl
  simpa [concs, conc] using h
theorem walk_quads {n k : Int} (hn : -9223372036854775808 ≤ n ∧ n < 9223372036854775808) {b off len cap : Nat} {xs : List Int} {W : World} (ho : okL xs = true) (hx : xs.length = 4 * len) (hc : len ≤ cap) (hcell : ∀ (i : Nat) x, xs[i]? = some x → W.cell? ⟨b, off + i, none⟩ = some (.int .u32 x)) :
    Calls Tryd.prog 4 #[.int .i64 n, .int .i64 k, .slice (some ⟨b, off, none⟩) len cap] W fun e w' => e = .returned (.bool true) ∧ RowKit.Below W.heap.size W w' := by
  have h := calls_of orcML_ok (natMore_true k hn ho) vs4_ro (holdsQ hx hc hcell) rfl
  simpa [concs, conc, envS] using h
theorem okL_of : ∀ (xs : List Int), xs.length % 4 = 0 → (∀ n ∈ xs, (Lit.int .u32 n).wf = true) → okL xs = true
  | [], _, _ => rfl
  | a :: b :: c :: d :: r, hl, hw => by
    simp only [okL, Bool.and_eq_true]
    exact ⟨nat_range (hw a (by simp)) (hw b (by simp)) (hw c (by simp)) (hw d (by simp)), okL_of r (by simp only [List.length_cons] at hl; omega) fun n hn => hw n (by simp [hn])⟩
  | [_], hl, _ => by simp at hl
  | [_, _], hl, _ => by simp at hl
  | [_, _, _], hl, _ => by simp at hl
open Go.ChangeShapes Go.WideShapes Go.ChangeAt Go.RowKit Go.WideMaps
theorem quad : Go.WideMaps.ArrKey Tryd.prog 28 26 4 := ⟨Tryd.underlying28, by kernel_rfl, by kernel_rfl, by kernel_rfl⟩
theorem laidOut : laidOutB Tryd.prog = true := by kernel_rfl
set_option maxRecDepth 100000 in
theorem lifted (os : Os) (started : os.Started) (H : Type) (enc : TypeId × Value → H) :
    ReturnsInHanded {} Tryd.checked os 4 .any (fun w args => (Rows.natMoreSpec.pre enc Tryd.prog Tryd.f4 [] false w args ∧ laidMetH Tryd.prog laidL w) ∧ sizedMet enc Tryd.prog Tryd.f4 (OpenSpec.ofChange Rows.natMoreSpec) false w args)
      (Rows.natMoreSpec.post enc Tryd.prog Tryd.f4 false true false false) := by
  refine returnsInHanded_of_change_and (C := Tryd.checked) (X := fun w _ => laidMetH Tryd.prog laidL w) (fun _ _ _ hh h => h.of_heap hh) own started (by kernel_rfl) Tryd.func4
    (ChangeSpec.witness_shaped (enc := enc) (C := Tryd.checked) (os := os) (X := fun w _ => laidMetH Tryd.prog laidL w) false (World.laidAll Tryd.prog os laidL) #[.int .i64 0, .int .i64 0, .slice none 0 0] 8 (World.laidAll_os _ _ _)
      (World.shaped_of_ZipB (by kernel_rfl) (by kernel_rfl)) (by kernel_rfl) (by kernel_rfl) (by kernel_rfl)
      (by rw [MakeChecks.laidMetH_plain _ _ _ (by kernel_rfl)]; exact laidMet_laidAll _ (by kernel_rfl) (by kernel_rfl))) ?_
  intro W base args ds gs before hval0 hW _ _ hL _
  have hval : ∀ (j : Nat) t v, Tryd.f4.params[j]? = some t → args[j]? = some v → Value.okWide Tryd.prog W .any base t v := hval0
  have hW' := hW
  obtain ⟨p, q, hA0, hV, rfl, hfz, hnd⟩ := hW
  have hA : DataW.TrodAll enc Tryd.prog W 0 (fun _ => true) true Tryd.f4.params.toList args.toList ds p := hA0
  rw [Tryd.params4] at hA hval
  obtain ⟨v0, vs0, d0, ds0, p0, q0, hargs, rfl, rfl, h0, r0⟩ := trodAll_cons hA
  obtain ⟨v1, vs1, d1, ds1, p1, q1, rfl, rfl, rfl, h1, r1⟩ := trodAll_cons r0
  obtain ⟨v2, vs2, d2, ds2, p2, q2, rfl, rfl, rfl, h2, r2⟩ := trodAll_cons r1
  obtain ⟨rfl, rfl, rfl⟩ := trodAll_nil r2
  obtain rfl : args = #[v0, v1, v2] := by cases args; simp_all
  obtain ⟨rfl, rfl⟩ := trodVars_none hV
  obtain ⟨a0, rfl, rfl, rfl, w0⟩ := open_int Tryd.underlying3 (hval 0 3 v0 rfl rfl) h0
  obtain ⟨a1, rfl, rfl, rfl, w1⟩ := open_int Tryd.underlying3 (hval 1 3 v1 rfl rfl) h1
  obtain ⟨ba, n, c, rfl⟩ := okWide_slice Tryd.underlying24 (hval 2 24 v2 rfl rfl)
  clear hA0 hval0
  simp only [List.append_nil, List.nil_append] at hW'
  have hlt : ∀ x ∈ p2, x.block < W.heap.size := fun x hx => by simpa using hW'.lt x hx
  have hcalls : Calls Tryd.prog 4 #[.int .i64 a0, .int .i64 a1, .slice ba n c] W fun e w' => e = .returned (.bool true) ∧ RowKit.Below W.heap.size W w' := by
    obtain ⟨fuel, hf⟩ := h2
    rcases open_quads Tryd.underlying24 quad Tryd.underlying26 hf with hcs | ⟨a, len, cap, zs, hcs, hl, hm, hz, hcell, hwz⟩
    · have hv1 := slice_cells hcs
      cases hv1
      exact walk_flat W (natMore_nil_true a1 (i64_in w0))
    · have hv1 := slice_cells hcs
      obtain ⟨e1, e2, e3⟩ : some a = ba ∧ len = n ∧ cap = c := by simp only [Value.slice.injEq] at hv1; exact ⟨hv1.1.symm, hv1.2.1.symm, hv1.2.2.symm⟩
      subst e1; subst e2; subst e3
      rcases Nat.eq_zero_or_pos cap with hc0 | hc0
      · subst hc0
        obtain rfl : len = 0 := by omega
        exact walk_flat W (natMore_zero_true a1 a (i64_in w0))
      · obtain ⟨b, off, rfl, hat⟩ := ints_at hcell (by omega)
        refine walk_quads (xs := zs.take (4 * len)) (i64_in w0) (okL_of _ (by rw [List.length_take]; omega) fun n hn => hwz n (List.mem_of_mem_take hn)) (by rw [List.length_take]; omega) hl (fun i x hi => ?_)
        rw [List.getElem?_take] at hi
        split at hi
        · have hlt := getElem?_lt hi
          rw [hat i hlt, List.getD_eq_getElem?_getD, hi]
          rfl
        · cases hi
  refine hcalls.mono fun e W' ⟨he, hg⟩ => ?_
  subst he
  exact ⟨_, rfl, post_below (pa := p2) (pv := []) hW' (fun _ _ _ => (trodAll_cons_mk (shut_bool Tryd.underlying4 _) trodAll_mk0))
    (fun sp hsp => by
      have := (trodAll_cons_mk (shut_int Tryd.underlying3 w0) (trodAll_cons_mk (shut_int Tryd.underlying3 w1) (trodAll_cons_mk (WideElems.Trod_stays laidOut (by kernel_rfl) (of_decide_eq_true (by kernel_rfl)) h2 (fun x hx => hg.same (hlt x hx)) (fun x hx => hsp x hx)) trodAll_mk0)) : DataW.TrodAll enc Tryd.prog W' 0 sp true [3, 3, 24] _ _ _)
      simp only [List.append_nil, List.nil_append] at this
      exact this) (fun _ _ => rfl) (by simp)
    hg (ok_one (by kernel_rfl) rfl (okWide_bool_mk Tryd.underlying4 _))⟩
theorem over : Rows.NatMoreSaid :=
  OpenClaim.holds_of_wide 4 Tryd.f4 rfl rfl rfl rfl rfl rfl rfl ⟨rfl, rfl, rfl, rfl, rfl⟩ rfl rfl rfl rfl rfl (by kernel_rfl) Tryd.func4 (by kernel_rfl)
    (of_decide_eq_true (by kernel_rfl)) (by unfold Func.isWrapper; first | (rw [if_pos (by decide +kernel)]; kernel_rfl) | (rw [if_neg (by decide +kernel)]; exact ⟨rfl, rfl⟩))
    (fun os started H enc _ => lifted os started H enc)
/-- The statement. -/
theorem proved : Rows.NatMoreCardSaid :=
  Claim7.holds_tied_plain_at .later [] [.data, .pinned] true (true, "6e9508bc34c65ad3296c754d00957a4061542bbc8ac9c17388953dfb809801cf") false
    over (fun _ h => by cases h) (by kernel_rfl) (fun _ h => by cases h) natMore_row_tie rfl ⟨rfl, rfl⟩ (by kernel_rfl) rfl
    (fun f fn hf hfn => by
      obtain rfl : f = 4 := Option.some.inj ((show Tryd.prog.funcNamed "finesse/finesselaw02.NatMore" = some 4 by kernel_rfl).symm.trans hf) |>.symm
      obtain rfl : fn = Tryd.f4 := (Option.some.inj (Tryd.func4.symm.trans hfn)).symm
      exact ⟨by kernel_rfl, fun j t ht => by
        rw [Tryd.params4] at ht
        have hm : t ∈ [3, 3, 24] := by simpa using Array.mem_of_getElem? ht
        have hall : ([3, 3, 24].all fun u => !Tryd.prog.wantsStandIn u) = true := by kernel_rfl
        exact (show Tryd.prog.wantsStandIn t = false by simpa using List.all_eq_true.1 hall t hm)⟩)
    (by kernel_rfl)
#print axioms proved
end Go.Proofs.YthpdeiolhahobaaDoor.natMore
