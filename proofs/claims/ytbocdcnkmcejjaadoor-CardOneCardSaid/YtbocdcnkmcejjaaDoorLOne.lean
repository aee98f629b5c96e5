/- Chapter 4: CardOne answers true, for any number. -/
import Derived.Test.YtbocdcnkmcejjaaDoorLOne0
import Derived.Test.YtbocdcnkmcejjaaDoorLOne1
namespace Go.Proofs.YtbocdcnkmcejjaaDoor
open Go Go.Eng
theorem one_at {k n : Nat} (h : allN 16 (fun c => runOne (c + k)) = true) (h1 : k ≤ n) (h2 : n < k + 16) : runOne n = true := by
  have := allN_ok h (n - k) (by omega)
  rwa [show n - k + k = n by omega] at this
theorem one_all {n : Nat} (hn : n < 256) : runOne n = true := by
  rcases (by omega : n < 16 ∨ (16 ≤ n ∧ n < 32) ∨ (32 ≤ n ∧ n < 48) ∨ (48 ≤ n ∧ n < 64) ∨ (64 ≤ n ∧ n < 80) ∨ (80 ≤ n ∧ n < 96) ∨ (96 ≤ n ∧ n < 112) ∨ (112 ≤ n ∧ n < 128) ∨ (128 ≤ n ∧ n < 144) ∨ (144 ≤ n ∧ n < 160) ∨ (160 ≤ n ∧ n < 176) ∨ (176 ≤ n ∧ n < 192) ∨ (192 ≤ n ∧ n < 208) ∨ (208 ≤ n ∧ n < 224) ∨ (224 ≤ n ∧ n < 240) ∨ (240 ≤ n ∧ n < 256)) with h | h | h | h | h | h | h | h | h | h | h | h | h | h | h | h
  · exact one_at one0 (Nat.zero_le _) h
  · exact one_at one1 h.1 h.2
  · exact one_at one2 h.1 h.2
  · exact one_at one3 h.1 h.2
  · exact one_at one4 h.1 h.2
  · exact one_at one5 h.1 h.2
  · exact one_at one6 h.1 h.2
  · exact one_at one7 h.1 h.2
  · exact one_at one8 h.1 h.2
  · exact one_at one9 h.1 h.2
  · exact one_at one10 h.1 h.2
  · exact one_at one11 h.1 h.2
  · exact one_at one12 h.1 h.2
  · exact one_at one13 h.1 h.2
  · exact one_at one14 h.1 h.2
  · exact one_at one15 h.1 h.2
theorem one_true {c : Int} (h0 : 0 ≤ c) (h2 : c < 256) : evalFn Tryd.prog (orcA tabP plainL) noLoops 100 4 Tryd.f4 [.int .u8 c] gH (fun v _ => some (chkB true v)) = some true := by
  obtain ⟨n, rfl⟩ : ∃ n : Nat, c = Int.ofNat n := ⟨c.toNat, by simp; omega⟩
  have hn : n < 256 := by have h3 : (n : Int) < 256 := h2; omega
  exact runB_ok (one_all hn)
end Go.Proofs.YtbocdcnkmcejjaaDoor
