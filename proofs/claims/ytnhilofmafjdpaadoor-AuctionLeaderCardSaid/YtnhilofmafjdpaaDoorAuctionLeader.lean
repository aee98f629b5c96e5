/- The tied card AuctionLeader holds: whatever the input, the law's call returns true and its arguments read as they did; the tables that the row lists are tied to the program's text. No condition. -/
import Derived.Test.YtnhilofmafjdpaaDoorLdr
import Derived.Test.YtnhilofmafjdpaaDoorFrameK
import Derived.SevenTiedAt
import Derived.ChangeMaps5
import Derived.Test.YtnhilofmafjdpaaDoorTie
import Derived.Test.YtnhilofmafjdpaaDoorCards
namespace Go.Proofs.YtnhilofmafjdpaaDoor.auctionLeader
open Go Go.Eng Go.Proofs.YtnhilofmafjdpaaDoor
set_option linter.unusedVariables false
theorem walk (w : World) (hL : laidMetH Tryd.prog laidL w) (x00 : Int) (x01 : Int) (x02 : Int) (x03 : Int) (w00 : (Lit.int .u8 x00).wf = true) (w01 : (Lit.int .u8 x01).wf = true) (w02 : (Lit.int .u8 x02).wf = true) (w03 : (Lit.int .u8 x03).wf = true) :
    Calls Tryd.prog 3 #[.agg #[.int .u8 x00, .int .u8 x01, .int .u8 x02, .int .u8 x03]] w fun e w' => e = .returned (.bool true) ∧ RowKit.Below w.heap.size w w' := by
  have h := walkN (ss := []) (args := [ctA x00 x01 x02 x03]) (orcA_ok (tabLd_ok emptyTab_ok) plainL_ok) noLoops_ok Tryd.func3 (texts_of hL) (by intro x hx; simp at hx; ) (auctionLeader_true x00 x01 x02 (u8_range w03).1) (by simp [inSs, inS, gN, gH, ctA])
  simpa [concs, conc, envN, slAt, sl0, Sl.val, ctA] using h
open Go.ChangeShapes Go.WideShapes Go.ChangeAt Go.RowKit Go.WideMaps

set_option maxRecDepth 100000 in
theorem lifted (os : Os) (started : os.Started) (H : Type) (enc : TypeId × Value → H) :
    ReturnsInHanded {} Tryd.checked os 3 .any (fun w args => (Rows.auctionLeaderSpec.pre enc Tryd.prog Tryd.f3 [] false w args ∧ laidMetH Tryd.prog laidL w) ∧ sizedMet enc Tryd.prog Tryd.f3 (OpenSpec.ofChange Rows.auctionLeaderSpec) false w args)
      (Rows.auctionLeaderSpec.post enc Tryd.prog Tryd.f3 false true false false) := by
  refine returnsInHanded_of_change_and (C := Tryd.checked) (X := fun w _ => laidMetH Tryd.prog laidL w) (fun _ _ _ hh h => h.of_heap hh) own started (by kernel_rfl) Tryd.func3
    (ChangeSpec.witness_shaped (enc := enc) (C := Tryd.checked) (os := os) (X := fun w _ => laidMetH Tryd.prog laidL w) false (World.doorLaid Tryd.prog 400 os) #[.agg #[.int .u8 0, .int .u8 0, .int .u8 0, .int .u8 0]] 8 rfl (World.shaped_of_RefB (by kernel_rfl) (by kernel_rfl)) (by kernel_rfl) (by kernel_rfl) (by kernel_rfl) (door_met os _)) ?_
  intro W base args ds gs before hval0 hW _ _ hL _
  have hval : ∀ (j : Nat) t v, Tryd.f3.params[j]? = some t → args[j]? = some v → Value.okWide Tryd.prog W .any base t v := hval0
  have hW' := hW
  obtain ⟨p, q, hA0, hV, rfl, hfz, hnd⟩ := hW
  have hA : DataW.TrodAll enc Tryd.prog W 0 (fun _ => true) true Tryd.f3.params.toList args.toList ds p := hA0
  rw [Tryd.params3] at hA hval
  obtain ⟨v0, vs0, d0, ds0, p0, q0, hargs, rfl, rfl, h0, r0⟩ := trodAll_cons hA
  obtain ⟨rfl, rfl, rfl⟩ := trodAll_nil r0
  obtain rfl : args = #[v0] := by cases args; simp_all
  obtain ⟨rfl, rfl⟩ := trodVars_none hV
  obtain ⟨x00, x01, x02, x03, rfl, rfl, rfl, w00, w01, w02, w03⟩ := open_con (hval 0 23 v0 rfl rfl) h0
  clear hA0 hval0
  simp only [List.append_nil] at hW'
  have hcalls := walk W hL x00 x01 x02 x03 w00 w01 w02 w03
  refine hcalls.mono fun e W' ⟨he, hg⟩ => ?_
  subst he
  exact ⟨_, rfl, post_below (pa := []) (pv := []) hW' (fun _ _ _ => (trodAll_cons_mk (shut_bool Tryd.underlying4 _) trodAll_mk0))
    (fun sp hsp => by
      have := ((trodAll_cons_mk (shut_con w00 w01 w02 w03) trodAll_mk0) : DataW.TrodAll enc Tryd.prog W' 0 sp true [23] _ _ _)
      simp only [List.append_nil] at this
      exact this) (fun _ _ => rfl) rfl
    hg (ok_one (by kernel_rfl) rfl (okWide_bool_mk Tryd.underlying4 _))⟩
theorem over : Rows.AuctionLeaderSaid :=
  OpenClaim.holds_of_wide 3 Tryd.f3 rfl rfl rfl rfl rfl rfl rfl ⟨rfl, rfl, rfl, rfl, rfl⟩ rfl rfl rfl rfl rfl (by kernel_rfl) Tryd.func3 (by kernel_rfl)
    (of_decide_eq_true (by kernel_rfl)) (by unfold Func.isWrapper; first | (rw [if_pos (by decide +kernel)]; kernel_rfl) | (rw [if_neg (by decide +kernel)]; exact ⟨rfl, rfl⟩))
    (fun os started H enc _ => lifted os started H enc)
/-- The statement. -/
theorem proved : Rows.AuctionLeaderCardSaid :=
  Claim7.holds_tied_plain_at .later [] [.data] true (true, "546be36b3b212cd32a6d1dccf863d376522d9eb5a6dc316f5ace20d1cdcda9e4") false
    over (fun _ h => by cases h) (by kernel_rfl) (fun _ h => by cases h) auctionLeader_row_tie rfl ⟨rfl, rfl⟩ (by kernel_rfl) rfl
    (fun f fn hf hfn => by
      obtain rfl : f = 3 := Option.some.inj ((show Tryd.prog.funcNamed "finesse/finesselaw09.AuctionLeader" = some 3 by kernel_rfl).symm.trans hf) |>.symm
      obtain rfl : fn = Tryd.f3 := (Option.some.inj (Tryd.func3.symm.trans hfn)).symm
      exact ⟨by kernel_rfl, fun j t ht => by
        rw [Tryd.params3] at ht
        have hm : t ∈ [23] := by simpa using Array.mem_of_getElem? ht
        have hall : ([23].all fun u => !Tryd.prog.wantsStandIn u) = true := by kernel_rfl
        exact (show Tryd.prog.wantsStandIn t = false by simpa using List.all_eq_true.1 hall t hm)⟩)
    (by kernel_rfl)
#print axioms proved
end Go.Proofs.YtnhilofmafjdpaaDoor.auctionLeader
