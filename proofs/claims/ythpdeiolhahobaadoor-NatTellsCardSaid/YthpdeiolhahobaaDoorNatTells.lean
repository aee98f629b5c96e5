/- The tied card NatTells holds: whatever the numbers, the law's call returns true and its arguments read as they did; the tables that the row lists are tied to the program's text. No condition. -/
import Derived.Test.YthpdeiolhahobaaDoorLTells
import Derived.Test.YthpdeiolhahobaaDoorLTells
import Derived.Lay
import Derived.SevenTiedAt
import Derived.ChangeMaps5
import Derived.Test.YthpdeiolhahobaaDoorTie
import Derived.Test.YthpdeiolhahobaaDoorCards
namespace Go.Proofs.YthpdeiolhahobaaDoor.natTells
open Go Go.Eng Go.Proofs.YthpdeiolhahobaaDoor
set_option linter.unusedVariables false
theorem walk (x00 : Int) (x01 : Int) (x02 : Int) (x03 : Int) (w00 : (Lit.int .u32 x00).wf = true) (w01 : (Lit.int .u32 x01).wf = true) (w02 : (Lit.int .u32 x02).wf = true) (w03 : (Lit.int .u32 x03).wf = true) (x10 : Int) (x11 : Int) (x12 : Int) (x13 : Int) (w10 : (Lit.int .u32 x10).wf = true) (w11 : (Lit.int .u32 x11).wf = true) (w12 : (Lit.int .u32 x12).wf = true) (w13 : (Lit.int .u32 x13).wf = true) (w : World) :
    Calls Tryd.prog 10 #[.agg #[.int .u32 x00, .int .u32 x01, .int .u32 x02, .int .u32 x03], .agg #[.int .u32 x10, .int .u32 x11, .int .u32 x12, .int .u32 x13]] w fun e w' => e = .returned (.bool true) ∧ RowKit.Below w.heap.size w w' := by
  have h := calls_of_pure (natTells_p (nat_range w00 w01 w02 w03) (nat_range w10 w11 w12 w13)) rfl w
  simpa [concs, conc] using h
open Go.ChangeShapes Go.WideShapes Go.ChangeAt Go.RowKit Go.WideMaps
theorem quad : Go.WideMaps.ArrKey Tryd.prog 28 26 4 := ⟨Tryd.underlying28, by kernel_rfl, by kernel_rfl, by kernel_rfl⟩
set_option maxRecDepth 100000 in
theorem lifted (os : Os) (started : os.Started) (H : Type) (enc : TypeId × Value → H) :
    ReturnsInHanded {} Tryd.checked os 10 .any (fun w args => (Rows.natTellsSpec.pre enc Tryd.prog Tryd.f10 [] false w args ∧ laidMetH Tryd.prog laidL w) ∧ sizedMet enc Tryd.prog Tryd.f10 (OpenSpec.ofChange Rows.natTellsSpec) false w args)
      (Rows.natTellsSpec.post enc Tryd.prog Tryd.f10 false true false false) := by
  refine returnsInHanded_of_change_and (C := Tryd.checked) (X := fun w _ => laidMetH Tryd.prog laidL w) (fun _ _ _ hh h => h.of_heap hh) own started (by kernel_rfl) Tryd.func10
    (ChangeSpec.witness_shaped (enc := enc) (C := Tryd.checked) (os := os) (X := fun w _ => laidMetH Tryd.prog laidL w) false (World.laidAll Tryd.prog os laidL) #[.agg #[.int .u32 0, .int .u32 0, .int .u32 0, .int .u32 0], .agg #[.int .u32 0, .int .u32 0, .int .u32 0, .int .u32 0]] 8 (World.laidAll_os _ _ _)
      (World.shaped_of_ZipB (by kernel_rfl) (by kernel_rfl)) (by kernel_rfl) (by kernel_rfl) (by kernel_rfl)
      (by rw [MakeChecks.laidMetH_plain _ _ _ (by kernel_rfl)]; exact laidMet_laidAll _ (by kernel_rfl) (by kernel_rfl))) ?_
  intro W base args ds gs before hval0 hW _ _ hL _
  have hval : ∀ (j : Nat) t v, Tryd.f10.params[j]? = some t → args[j]? = some v → Value.okWide Tryd.prog W .any base t v := hval0
  have hW' := hW
  obtain ⟨p, q, hA0, hV, rfl, hfz, hnd⟩ := hW
  have hA : DataW.TrodAll enc Tryd.prog W 0 (fun _ => true) true Tryd.f10.params.toList args.toList ds p := hA0
  rw [Tryd.params10] at hA hval
  obtain ⟨v0, vs0, d0, ds0, p0, q0, hargs, rfl, rfl, h0, r0⟩ := trodAll_cons hA
  obtain ⟨v1, vs1, d1, ds1, p1, q1, rfl, rfl, rfl, h1, r1⟩ := trodAll_cons r0
  obtain ⟨rfl, rfl, rfl⟩ := trodAll_nil r1
  obtain rfl : args = #[v0, v1] := by cases args; simp_all
  obtain ⟨rfl, rfl⟩ := trodVars_none hV
  obtain ⟨x00, x01, x02, x03, rfl, rfl, rfl, w00, w01, w02, w03⟩ := open_quad quad Tryd.underlying26 (hval 0 28 v0 rfl rfl) h0
  obtain ⟨x10, x11, x12, x13, rfl, rfl, rfl, w10, w11, w12, w13⟩ := open_quad quad Tryd.underlying26 (hval 1 28 v1 rfl rfl) h1
  clear hA0 hval0
  simp only [List.append_nil] at hW'
  refine (walk x00 x01 x02 x03 w00 w01 w02 w03 x10 x11 x12 x13 w10 w11 w12 w13 W).mono fun e W' ⟨he, hg⟩ => ?_
  subst he
  exact ⟨_, rfl, post_below (pa := []) (pv := []) hW' (fun _ _ _ => (trodAll_cons_mk (shut_bool Tryd.underlying4 _) trodAll_mk0)) (fun sp _ => (trodAll_cons_mk (shut_quad quad Tryd.underlying26 w00 w01 w02 w03) (trodAll_cons_mk (shut_quad quad Tryd.underlying26 w10 w11 w12 w13) trodAll_mk0))) (fun _ _ => rfl) rfl
    hg (ok_one (by kernel_rfl) rfl (okWide_bool_mk Tryd.underlying4 _))⟩
theorem over : Rows.NatTellsSaid :=
  OpenClaim.holds_of_wide 10 Tryd.f10 rfl rfl rfl rfl rfl rfl rfl ⟨rfl, rfl, rfl, rfl, rfl⟩ rfl rfl rfl rfl rfl (by kernel_rfl) Tryd.func10 (by kernel_rfl)
    (of_decide_eq_true (by kernel_rfl)) (by unfold Func.isWrapper; first | (rw [if_pos (by decide +kernel)]; kernel_rfl) | (rw [if_neg (by decide +kernel)]; exact ⟨rfl, rfl⟩))
    (fun os started H enc _ => lifted os started H enc)
/-- The statement. -/
theorem proved : Rows.NatTellsCardSaid :=
  Claim7.holds_tied_plain_at .later [] [.data, .pinned] true (true, "6e9508bc34c65ad3296c754d00957a4061542bbc8ac9c17388953dfb809801cf") false
    over (fun _ h => by cases h) (by kernel_rfl) (fun _ h => by cases h) natTells_row_tie rfl ⟨rfl, rfl⟩ (by kernel_rfl) rfl
    (fun f fn hf hfn => by
      obtain rfl : f = 10 := Option.some.inj ((show Tryd.prog.funcNamed "finesse/finesselaw02.NatTells" = some 10 by kernel_rfl).symm.trans hf) |>.symm
      obtain rfl : fn = Tryd.f10 := (Option.some.inj (Tryd.func10.symm.trans hfn)).symm
      exact ⟨by kernel_rfl, fun j t ht => by
        rw [Tryd.params10] at ht
        have hm : t ∈ [28, 28] := by simpa using Array.mem_of_getElem? ht
        have hall : ([28, 28].all fun u => !Tryd.prog.wantsStandIn u) = true := by kernel_rfl
        exact (show Tryd.prog.wantsStandIn t = false by simpa using List.all_eq_true.1 hall t hm)⟩)
    (by kernel_rfl)
#print axioms proved
end Go.Proofs.YthpdeiolhahobaaDoor.natTells
