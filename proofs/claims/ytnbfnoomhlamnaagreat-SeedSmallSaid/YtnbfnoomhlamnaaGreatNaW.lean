/- Texts merged: NaW, NaBase. -/
import Derived.Test.YtnbfnoomhlamnaaGreatEng4
import Derived.Test.YtnbfnoomhlamnaaGreatShelf
import Derived.Test.YtnbfnoomhlamnaaGreatRows
/- Chapter 2: numbers of 128 bits as four words, plainly. -/
namespace Go.Proofs.YtnbfnoomhlamnaaGreat.N2
open Go Go.Eng
def w0 (z : Int) : Int := z % 4294967296
def w1 (z : Int) : Int := z / 4294967296 % 4294967296
def w2 (z : Int) : Int := z / 18446744073709551616 % 4294967296
def w3 (z : Int) : Int := z / 79228162514264337593543950336 % 4294967296
def nval (a b c d : Int) : Int := a + 4294967296 * b + 18446744073709551616 * c + 79228162514264337593543950336 * d
abbrev big : Int := 340282366920938463463374607431768211456
/-- What the words of a number are. -/
def inW (a : Int) : Bool := decide (0 ≤ a ∧ a < 4294967296)
def inN (a b c d : Int) : Bool := inW a && (inW b && (inW c && inW d))
theorem inW_iff {a : Int} : inW a = true ↔ 0 ≤ a ∧ a < 4294967296 := by unfold inW; simp
theorem inN_iff {a b c d : Int} : inN a b c d = true ↔ (0 ≤ a ∧ a < 4294967296) ∧ (0 ≤ b ∧ b < 4294967296) ∧ (0 ≤ c ∧ c < 4294967296) ∧ (0 ≤ d ∧ d < 4294967296) := by
  unfold inN; simp only [Bool.and_eq_true, inW_iff]
theorem nval_w (z : Int) : nval (w0 z) (w1 z) (w2 z) (w3 z) = z % 340282366920938463463374607431768211456 := by
  unfold nval w0 w1 w2 w3; omega
theorem inN_w (z : Int) : inN (w0 z) (w1 z) (w2 z) (w3 z) = true := by
  rw [inN_iff]; unfold w0 w1 w2 w3; omega
theorem w_nval {a b c d : Int} (h : inN a b c d = true) : w0 (nval a b c d) = a ∧ w1 (nval a b c d) = b ∧ w2 (nval a b c d) = c ∧ w3 (nval a b c d) = d := by
  rw [inN_iff] at h; unfold nval w0 w1 w2 w3; omega
theorem nval_range {a b c d : Int} (h : inN a b c d = true) : 0 ≤ nval a b c d ∧ nval a b c d < 340282366920938463463374607431768211456 := by
  rw [inN_iff] at h; unfold nval; omega
theorem w_inj {x y : Int} (hx : 0 ≤ x ∧ x < 340282366920938463463374607431768211456) (hy : 0 ≤ y ∧ y < 340282366920938463463374607431768211456) : (w0 x = w0 y ∧ w1 x = w1 y ∧ w2 x = w2 y ∧ w3 x = w3 y) ↔ x = y := by
  unfold w0 w1 w2 w3; omega
theorem w_mod (z : Int) : w0 (z % 340282366920938463463374607431768211456) = w0 z ∧ w1 (z % 340282366920938463463374607431768211456) = w1 z ∧ w2 (z % 340282366920938463463374607431768211456) = w2 z ∧ w3 (z % 340282366920938463463374607431768211456) = w3 z := by
  unfold w0 w1 w2 w3; omega
/-- A number as the engine has it. -/
def nW (z : Int) : V := .agg [.int .u32 (w0 z), .int .u32 (w1 z), .int .u32 (w2 z), .int .u32 (w3 z)]
theorem nW_mod (z : Int) : nW (z % 340282366920938463463374607431768211456) = nW z := by
  obtain ⟨h0, h1, h2, h3⟩ := w_mod z
  unfold nW; rw [h0, h1, h2, h3]
theorem plain_nW (z : Int) : plainV (nW z) = true := rfl
/-- Words back as a number. -/
theorem nW_nval {a b c d : Int} (h : inN a b c d = true) : nW (nval a b c d) = .agg [.int .u32 a, .int .u32 b, .int .u32 c, .int .u32 d] := by
  obtain ⟨h0, h1, h2, h3⟩ := w_nval h
  unfold nW; rw [h0, h1, h2, h3]
/-- A byte that may not be there. -/
def oK {α β : Type} (x : Option α) (K : α → Option β) : Option β := match x with
  | some a => K a
  | none => none
theorem oK_some {α β : Type} (a : α) (K : α → Option β) : oK (some a) K = K a := rfl
end Go.Proofs.YtnbfnoomhlamnaaGreat.N2

/- Chapter 2: the program, and what of the library is known by its contract. -/
namespace Go.Proofs.YtnbfnoomhlamnaaGreat.N2
open Go Go.Eng

noncomputable def ftab : FTab := fun i => Tryz.prog.funcs[i]?
theorem ftab_ok : FTabOk Tryz.prog ftab := fun _ _ h => h
theorem mixed : Tryz.prog.follows .mixedOrders = true := by kernel_rfl
def never : FuncId → Bool := fun _ => false
def plainL : FuncId → Loops := fun _ => noLoops
theorem plainL_ok : ∀ f, loopsOk Tryz.prog (plainL f) := fun _ => noLoops_ok
def lenI (x : Int) : Int := Lib.bitLen x.toNat
def gLen : List V → Option (Bool × V)
  | [.int .u32 x] => some (inW x, .int .i64 (lenI x))
  | _ => none
def tabS : PTab := addTab 111 gLen emptyTab
theorem tabS_ok : PTabOk Tryz.prog tabS := by
  refine addTab_ok ?_ emptyTab_ok
  intro args c v h hc
  unfold gLen at h
  split at h
  · cases h
    rw [inW_iff] at hc
    exact pure_of_same (.of Tryz.func111 (by kernel_rfl)) rfl rfl fun w => Tryz.bits_Len32 _ w hc.1 (by omega)
  · cases h
noncomputable abbrev orcP (T : PTab) (LL : FuncId → Loops) : Oracle := inl Tryz.prog ftab T LL 200 never never (oracleOf emptyTab) 20
theorem orcP_ok {T : PTab} (hT : PTabOk Tryz.prog T) {LL : FuncId → Loops} (hL : ∀ f, loopsOk Tryz.prog (LL f)) : OracleOk Tryz.prog (orcP T LL) := inl_ok (oracleOf_ok emptyTab_ok) ftab_ok hT hL mixed 20
end Go.Proofs.YtnbfnoomhlamnaaGreat.N2
