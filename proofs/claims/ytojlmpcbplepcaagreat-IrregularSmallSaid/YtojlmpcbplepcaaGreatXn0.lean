/- Texts merged: Xn0, Xn. -/
import Derived.Test.YtojlmpcbplepcaaGreatXk
import Derived.Test.YtojlmpcbplepcaaGreatEng5
/- Chapter 10: the reference's raise and forbid: they hand a course's lists through. -/
namespace Go.Proofs.YtojlmpcbplepcaaGreat
open Go Go.Eng
theorem vs_conc {E E' : Env} {x y x' y' : V} (s : CD) (h1 : conc E x = conc E' x') (h2 : conc E y = conc E' y') : concs E (s.vs x y) = concs E' (s.vs x' y') := by
  simp only [CD.vs, Q4.vs, concs, conc, h1, h2]
theorem vs_in {n : Nat} {x y : V} (s t : CD) (h : inSs n (s.vs x y) = true) : inSs n (t.vs x y) = true := by
  simp only [CD.vs, Q4.vs, inSs, inS, Bool.true_and, Bool.and_true] at h ⊢
  exact h
abbrev fl (a : Option Addr) (n c : Nat) : V := .flat (.slice a n c)
def fb1 {R : Type} (bit f m : Int) (K : Int → R) : R := bif decide ((wr .u8 (m.tdiv bit)).tmod 2 = 1) then bif decide ((wr .u8 (f.tdiv bit)).tmod 2 = 0) then K (wr .u8 (f + bit)) else K f else K f
def fbI {R : Type} (f m : Int) (K : Int → R) : R := fb1 1 f m fun f => fb1 2 f m fun f => fb1 4 f m fun f => fb1 8 f m K
theorem e103_0 (s : CD) (a : Option Addr) (n c : Nat) (a' : Option Addr) (n' c' : Nat) : evalFn Tryz.prog (orcE emptyTab plainL) noLoops 100 78 Tryz.f78 [.agg (s.vs (fl a n c) (fl a' n' c')), .int .u8 0] [] (fun v _ => some v) = bif decide (s.p.at 0 = 0) then some (.agg ((s.setP 1 0).vs (fl a n c) (fl a' n' c'))) else some (.agg (s.vs (fl a n c) (fl a' n' c'))) := by kernel_rfl
theorem e107_0 (s : CD) (m : Int) (a : Option Addr) (n c : Nat) (a' : Option Addr) (n' c' : Nat) : evalFn Tryz.prog (orcE emptyTab plainL) noLoops 100 80 Tryz.f80 [.agg (s.vs (fl a n c) (fl a' n' c')), .int .u8 0, .int .u8 m] [] (fun v _ => some v) = fbI (s.f.at 0) m fun f => some (.agg ((s.setF f 0).vs (fl a n c) (fl a' n' c'))) := by kernel_rfl
theorem e103_1 (s : CD) (a : Option Addr) (n c : Nat) (a' : Option Addr) (n' c' : Nat) : evalFn Tryz.prog (orcE emptyTab plainL) noLoops 100 78 Tryz.f78 [.agg (s.vs (fl a n c) (fl a' n' c')), .int .u8 1] [] (fun v _ => some v) = bif decide (s.p.at 1 = 0) then some (.agg ((s.setP 1 1).vs (fl a n c) (fl a' n' c'))) else some (.agg (s.vs (fl a n c) (fl a' n' c'))) := by kernel_rfl
theorem e107_1 (s : CD) (m : Int) (a : Option Addr) (n c : Nat) (a' : Option Addr) (n' c' : Nat) : evalFn Tryz.prog (orcE emptyTab plainL) noLoops 100 80 Tryz.f80 [.agg (s.vs (fl a n c) (fl a' n' c')), .int .u8 1, .int .u8 m] [] (fun v _ => some v) = fbI (s.f.at 1) m fun f => some (.agg ((s.setF f 1).vs (fl a n c) (fl a' n' c'))) := by kernel_rfl
theorem e103_2 (s : CD) (a : Option Addr) (n c : Nat) (a' : Option Addr) (n' c' : Nat) : evalFn Tryz.prog (orcE emptyTab plainL) noLoops 100 78 Tryz.f78 [.agg (s.vs (fl a n c) (fl a' n' c')), .int .u8 2] [] (fun v _ => some v) = bif decide (s.p.at 2 = 0) then some (.agg ((s.setP 1 2).vs (fl a n c) (fl a' n' c'))) else some (.agg (s.vs (fl a n c) (fl a' n' c'))) := by kernel_rfl
theorem e107_2 (s : CD) (m : Int) (a : Option Addr) (n c : Nat) (a' : Option Addr) (n' c' : Nat) : evalFn Tryz.prog (orcE emptyTab plainL) noLoops 100 80 Tryz.f80 [.agg (s.vs (fl a n c) (fl a' n' c')), .int .u8 2, .int .u8 m] [] (fun v _ => some v) = fbI (s.f.at 2) m fun f => some (.agg ((s.setF f 2).vs (fl a n c) (fl a' n' c'))) := by kernel_rfl
theorem e103_3 (s : CD) (a : Option Addr) (n c : Nat) (a' : Option Addr) (n' c' : Nat) : evalFn Tryz.prog (orcE emptyTab plainL) noLoops 100 78 Tryz.f78 [.agg (s.vs (fl a n c) (fl a' n' c')), .int .u8 3] [] (fun v _ => some v) = bif decide (s.p.at 3 = 0) then some (.agg ((s.setP 1 3).vs (fl a n c) (fl a' n' c'))) else some (.agg (s.vs (fl a n c) (fl a' n' c'))) := by kernel_rfl
theorem e107_3 (s : CD) (m : Int) (a : Option Addr) (n c : Nat) (a' : Option Addr) (n' c' : Nat) : evalFn Tryz.prog (orcE emptyTab plainL) noLoops 100 80 Tryz.f80 [.agg (s.vs (fl a n c) (fl a' n' c')), .int .u8 3, .int .u8 m] [] (fun v _ => some v) = fbI (s.f.at 3) m fun f => some (.agg ((s.setF f 3).vs (fl a n c) (fl a' n' c'))) := by kernel_rfl
end Go.Proofs.YtojlmpcbplepcaaGreat

/- Chapter 10: the reference's raise and forbid: contracts. -/
namespace Go.Proofs.YtojlmpcbplepcaaGreat
open Go Go.Eng
theorem fb1_K {R S : Type} (g : R → S) (bit f m : Int) (K : Int → R) : g (fb1 bit f m K) = fb1 bit f m fun f => g (K f) := by
  unfold fb1
  cases decide ((wr .u8 (m.tdiv bit)).tmod 2 = 1) <;> cases decide ((wr .u8 (f.tdiv bit)).tmod 2 = 0) <;> rfl
theorem fbI_K {R : Type} (f m : Int) (K : Int → R) : fbI f m K = K (fbI f m id) := by
  unfold fbI
  simp only [fb1_K K, id]
theorem fb_or : ∀ f : Fin 16, ∀ m : Fin 16, fbI (f.val : Int) (m.val : Int) id = bitsI .or .u8 (f.val : Int) (m.val : Int) := by decide +kernel
theorem fb_is {f m : Int} (hf : 0 ≤ f ∧ f ≤ 15) (hm : 0 ≤ m ∧ m ≤ 15) : fbI f m id = bitsI .or .u8 f m := by
  have := fb_or ⟨f.toNat, by omega⟩ ⟨m.toNat, by omega⟩
  rw [show ((f.toNat : Nat) : Int) = f by omega, show ((m.toNat : Nat) : Int) = m by omega] at this
  exact this
theorem agg_conc {E E' : Env} {x y x' y' : V} (s : CD) (h1 : conc E x = conc E' x') (h2 : conc E y = conc E' y') : conc E (.agg (s.vs x y)) = conc E' (.agg (s.vs x' y')) := by simp only [conc, vs_conc s h1 h2]
theorem raise_p {s : CD} {k : Nat} (hk : k < 4) {x y : V} (hx : sliceV x = true) (hy : sliceV y = true) : FnPure Tryz.prog 78 [.agg (s.vs x y), .int .u8 (k : Int)] (.agg ((raiI s k).vs x y)) := by
  refine fnPure_carry (N := 100) (A := fun x y => [.agg (s.vs x y), .int .u8 (k : Int)]) (B := fun x y => .agg ((raiI s k).vs x y)) (orcE_ok emptyTab_ok plainL_ok) mixed Tryz.func78 (by kernel_rfl) noLoops_ok (fun a n c a' n' c' => ?_)
    (fun E x y x' y' h1 h2 => by simp only [concs, agg_conc s h1 h2]) (fun E E' a n c a' n' c' x' y' h1 h2 => agg_conc _ h1 h2) (fun _ _ _ _ _ _ => rfl) (fun n x y h => ?_) (fun _ _ => by simp) hx hy
  · have e : ∀ j : Nat, (bif decide (s.p.at j = 0) then some (V.agg ((s.setP 1 j).vs (fl a n c) (fl a' n' c'))) else some (.agg (s.vs (fl a n c) (fl a' n' c')))) = some (.agg ((raiI s j).vs (fl a n c) (fl a' n' c'))) := fun j => by
      unfold raiI; cases decide (s.p.at j = 0) <;> rfl
    match k, hk with
    | 0, _ => exact (e103_0 s a n c a' n' c').trans (e 0)
    | 1, _ => exact (e103_1 s a n c a' n' c').trans (e 1)
    | 2, _ => exact (e103_2 s a n c a' n' c').trans (e 2)
    | 3, _ => exact (e103_3 s a n c a' n' c').trans (e 3)
    | n + 4, h => exact absurd h (by omega)
  · simp only [inSs, inS, Bool.and_eq_true] at h ⊢
    exact vs_in s _ h.1
theorem forbid_p {s : CD} {k : Nat} (hk : k < 4) {m : Int} (hf : 0 ≤ s.f.at k ∧ s.f.at k ≤ 15) (hm : 0 ≤ m ∧ m ≤ 15) {x y : V} (hx : sliceV x = true) (hy : sliceV y = true) : FnPure Tryz.prog 80 [.agg (s.vs x y), .int .u8 (k : Int), .int .u8 m] (.agg ((s.setF (bitsI .or .u8 (s.f.at k) m) k).vs x y)) := by
  refine fnPure_carry (N := 100) (A := fun x y => [.agg (s.vs x y), .int .u8 (k : Int), .int .u8 m]) (B := fun x y => .agg ((s.setF (bitsI .or .u8 (s.f.at k) m) k).vs x y)) (orcE_ok emptyTab_ok plainL_ok) mixed Tryz.func80 (by kernel_rfl) noLoops_ok (fun a n c a' n' c' => ?_)
    (fun E x y x' y' h1 h2 => by simp only [concs, agg_conc s h1 h2]) (fun E E' a n c a' n' c' x' y' h1 h2 => agg_conc _ h1 h2) (fun _ _ _ _ _ _ => rfl) (fun n x y h => ?_) (fun _ _ => by simp) hx hy
  · have e : ∀ j : Nat, (0 ≤ s.f.at j ∧ s.f.at j ≤ 15) → (fbI (s.f.at j) m fun f => some (V.agg ((s.setF f j).vs (fl a n c) (fl a' n' c')))) = some (.agg ((s.setF (bitsI .or .u8 (s.f.at j) m) j).vs (fl a n c) (fl a' n' c'))) := fun j hj => by
      rw [fbI_K, fb_is hj hm]
    match k, hk, hf with
    | 0, _, hf => exact (e107_0 s m a n c a' n' c').trans (e 0 hf)
    | 1, _, hf => exact (e107_1 s m a n c a' n' c').trans (e 1 hf)
    | 2, _, hf => exact (e107_2 s m a n c a' n' c').trans (e 2 hf)
    | 3, _, hf => exact (e107_3 s m a n c a' n' c').trans (e 3 hf)
    | n + 4, h, _ => exact absurd h (by omega)
  · simp only [inSs, inS, Bool.and_eq_true] at h ⊢
    exact vs_in s _ h.1
end Go.Proofs.YtojlmpcbplepcaaGreat
