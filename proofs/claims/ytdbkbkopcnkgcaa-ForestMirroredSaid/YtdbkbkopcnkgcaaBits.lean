import Derived.Laws.BitsAllLaws
import Derived.WalkKit
import Derived.Deep.QuietTactic
open Go Go.RowKit
namespace Go.Proofs.Ytdbkbkopcnkgcaa

theorem bit_test (f k : Nat) (hf : f < 2 ^ 32) : (bits BinOp.and IntKind.u32 ((f : Int) / 2 ^ k) 1 == 0) = !f.testBit k := by
  have e : ((f : Int) / 2 ^ k) = ((f / 2 ^ k : Nat) : Int) := by norm_cast
  rw [e, show (1 : Int) = ((1 : Nat) : Int) from rfl, u32_and_nat _ _ (Nat.lt_of_le_of_lt (Nat.div_le_self _ _) hf) (by omega), Nat.testBit_eq_decide_div_mod_eq, Nat.and_one_is_mod]
  have := Nat.mod_two_eq_zero_or_one (f / 2 ^ k)
  rcases this with h | h <;> rw [h] <;> rfl
theorem bit_testT (f k : Nat) (hf : f < 2 ^ 32) (h : f.testBit k = true) : (bits BinOp.and IntKind.u32 ((f : Int) / 2 ^ k) 1 == 0) = false := by rw [bit_test f k hf, h]; rfl
theorem bit_testF (f k : Nat) (hf : f < 2 ^ 32) (h : f.testBit k = false) : (bits BinOp.and IntKind.u32 ((f : Int) / 2 ^ k) 1 == 0) = true := by rw [bit_test f k hf, h]; rfl
theorem bit_test1 (f k : Nat) (hf : f < 2 ^ 32) : (bits BinOp.and IntKind.u32 ((f : Int) / 2 ^ k) 1 == 1) = f.testBit k := by
  have e : ((f : Int) / 2 ^ k) = ((f / 2 ^ k : Nat) : Int) := by norm_cast
  rw [e, show (1 : Int) = ((1 : Nat) : Int) from rfl, u32_and_nat _ _ (Nat.lt_of_le_of_lt (Nat.div_le_self _ _) hf) (by omega), Nat.testBit_eq_decide_div_mod_eq, Nat.and_one_is_mod]
  have := Nat.mod_two_eq_zero_or_one (f / 2 ^ k)
  rcases this with h | h <;> rw [h] <;> rfl

theorem or_lt {a b : Nat} (ha : a < 2 ^ 32) (hb : b < 2 ^ 32) : a ||| b < 2 ^ 32 := Nat.or_lt_two_pow ha hb
theorem pow_lt13 {k : Nat} (h : k ≤ 13) : 2 ^ k < 2 ^ 32 := Nat.pow_lt_pow_right (by omega) (by omega)
theorem pow_mod13 {k : Nat} (h : k ≤ 13) : ((2 : Int) ^ k % 4294967296) = ((2 ^ k : Nat) : Int) := by
  have h1 := pow_lt13 h
  have h2 : ((2 : Int) ^ k) = ((2 ^ k : Nat) : Int) := (Int.natCast_pow 2 k).symm
  rw [h2]
  have h3 : 2 ^ k < 4294967296 := h1
  exact Int.emod_eq_of_lt (Int.natCast_nonneg _) (Int.ofNat_lt.2 h3)
theorem below_drewN {B : Nat} {w W : World} (h : Below B w W) (n : Nat) : Below B w (W.drewN n) := ⟨h.os, h.tape, h.output, h.size, h.block⟩
end Go.Proofs.Ytdbkbkopcnkgcaa
