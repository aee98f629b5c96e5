/- ENGINE, PART 11b: other names for blocks. -/
import Derived.Test.YtbocdcnkmcejjaaDoorEngInl
namespace Go.Eng
open Go

mutual
def renV (ρ : Nat → Nat) : V → V
  | .ptr b off => .ptr (ρ b) off
  | .view b l sz len => .view (ρ b) l sz len
  | .aslice b off len cap => .aslice (ρ b) off len cap
  | .gs b => .gs (ρ b)
  | .yield b => .yield (ρ b)
  | .func f l => .func f (renVs ρ l)
  | .agg l => .agg (renVs ρ l)
  | .tuple l => .tuple (renVs ρ l)
  | v => v
def renVs (ρ : Nat → Nat) : List V → List V
  | [] => []
  | v :: r => renV ρ v :: renVs ρ r
end
def Env.ren (E : Env) (ρ : Nat → Nat) : Env := { blk := fun b => E.blk (ρ b), delta := fun b => E.delta (ρ b), len := fun b => E.len (ρ b), cap := fun b => E.cap (ρ b), isnil := fun b => E.isnil (ρ b), base := fun b => E.base (ρ b) }
mutual
theorem conc_ren (E : Env) (ρ : Nat → Nat) : ∀ v, conc (E.ren ρ) v = conc E (renV ρ v)
  | .bool _ | .int _ _ | .str _ | .flat _ | .glob _ _ | .top => by simp [conc, renV]
  | .ptr b off => rfl
  | .view b l sz len => rfl
  | .aslice b off len cap => rfl
  | .gs b => rfl
  | .yield b => rfl
  | .func f l => by simp only [conc, renV, concs_ren E ρ l]
  | .agg l => by simp only [conc, renV, concs_ren E ρ l]
  | .tuple l => by simp only [conc, renV, concs_ren E ρ l]
theorem concs_ren (E : Env) (ρ : Nat → Nat) : ∀ l, concs (E.ren ρ) l = concs E (renVs ρ l)
  | [] => rfl
  | v :: r => by simp only [concs, renVs, conc_ren E ρ v, concs_ren E ρ r]
end
theorem Agree.ren {n : Nat} {E : Env} {ρ : Nat → Nat} (h : ∀ b, b < n → ρ b = b) : Agree n E (E.ren ρ) :=
  ⟨fun b hb => by simp [Env.ren, h b hb], fun b hb => by simp [Env.ren, h b hb], fun b hb => by simp [Env.ren, h b hb], fun b hb => by simp [Env.ren, h b hb], fun b hb => by simp [Env.ren, h b hb], fun b hb => by simp [Env.ren, h b hb]⟩
end Go.Eng
