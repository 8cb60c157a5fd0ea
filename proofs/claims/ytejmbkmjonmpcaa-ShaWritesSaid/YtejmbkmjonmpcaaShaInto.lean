/- The reference's right, roots, into. -/
import Derived.Test.YtejmbkmjonmpcaaShaRef
import Derived.Test.YtejmbkmjonmpcaaQTail
import Derived.StillTailTactics
import Derived.BigRegion
import Derived.Laws.Closers25b
set_option linter.unusedVariables false
set_option linter.unusedSimpArgs false
namespace Go.Proofs.Ytejmbkmjonmpcaa
open Go.RowKit

theorem rotl_right (x n : Nat) (hx : x < 4294967296) (h0 : 0 < n) (h1 : n < 32) : rotl (x : Int) (-(n : Int)) = ((x / 2 ^ n + x * 2 ^ (32 - n) % 4294967296 : Nat) : Int) ∧ x / 2 ^ n + x * 2 ^ (32 - n) % 4294967296 < 4294967296 := by
  have e1 : (-(n : Int)) % 32 = ((32 - n : Nat) : Int) := by omega
  have hp : (4294967296 : Nat) = 2 ^ (32 - n) * 2 ^ n := by rw [← Nat.pow_add, show 32 - n + n = 32 by omega]
  have e2 : x * 2 ^ (32 - n) % 4294967296 = 2 ^ (32 - n) * (x % 2 ^ n) := by rw [Nat.mul_comm x, hp, Nat.mul_mod_mul_left]
  have e3 : x / 2 ^ n < 2 ^ (32 - n) := by
    rw [Nat.div_lt_iff_lt_mul (Nat.two_pow_pos n)]
    omega
  have e4 : 2 ^ (32 - n) * (x % 2 ^ n) + 2 ^ (32 - n) ≤ 4294967296 := by
    rw [hp, ← Nat.mul_succ]
    exact Nat.mul_le_mul_left _ (Nat.mod_lt _ (Nat.two_pow_pos n))
  have e5 : x / 2 ^ n < 4294967296 := Nat.lt_of_le_of_lt (Nat.div_le_self _ _) hx
  have e6 : ((x : Int) * 2 ^ (32 - n)) % 4294967296 = ((x * 2 ^ (32 - n) % 4294967296 : Nat) : Int) := by
    rw [Int.natCast_emod, Int.natCast_mul, Int.natCast_pow]; rfl
  have e7 : (x : Int) / 2 ^ n = ((x / 2 ^ n : Nat) : Int) := by
    rw [Int.natCast_ediv, Int.natCast_pow]; rfl
  constructor
  · unfold rotl
    rw [e1, show (32 - ((32 - n : Nat) : Int)).toNat = n by omega, Int.toNat_natCast, e6, e7, u32_or_nat _ _ (Nat.mod_lt _ (by omega)) e5, nat_join (32 - n) _ _ (by rw [e2]; simp) e3, Nat.add_comm]
  · rw [e2]; omega

theorem right_calls (x : Int) (n : Nat) (hx0 : 0 ≤ x) (hx : x < 4294967296) (h0 : 0 < n) (h1 : n < 32) (w : World) :
    Calls Try.prog 36 #[.int .u32 x, .int .u32 (n : Int)] w fun e w' => e = .returned (.int .u32 (rotl x (-(n : Int)))) ∧ w = w' := by
  obtain ⟨m, rfl⟩ := Int.eq_ofNat_of_zero_le hx0
  have h2 := rotl_right m n (by omega) h0 h1
  go_enter Try.func36, Try.ntmps36
  go_wp2_with fail
  go_ret
  refine ⟨?_, rfl⟩
  have h3 : ((m : Int) / 2 ^ n + (m : Int) * 2 ^ (32 - n) % 4294967296) = ((m / 2 ^ n + m * 2 ^ (32 - n) % 4294967296 : Nat) : Int) := by
    rw [Int.natCast_add, Int.natCast_ediv, Int.natCast_pow, Int.natCast_emod, Int.natCast_mul, Int.natCast_pow]; rfl
  show Ending.returned (Value.int .u32 (((m : Int) / 2 ^ n + (m : Int) * 2 ^ (32 - n) % 4294967296) % 4294967296)) = _
  have h4 : ((m / 2 ^ n + m * 2 ^ (32 - n) % 4294967296 : Nat) : Int) % 4294967296 = ((m / 2 ^ n + m * 2 ^ (32 - n) % 4294967296 : Nat) : Int) := Int.emod_eq_of_lt (Int.natCast_nonneg _) (Int.ofNat_lt.2 h2.2)
  rw [h2.1, h3, h4]

theorem roots_calls (w : World) : Calls Try.prog 37 #[] w fun e w' => ∃ g, e = .returned (.slice (some ⟨g, 0, none⟩) 64 64) ∧ IRd .u32 w' (.slice (some ⟨g, 0, none⟩) 64 64) ROOTS ∧ Below w.heap.size w w' := by
  go_enter Try.func37, Try.ntmps37
  go_wp2_with fail
  go_ret
  exact ⟨_, rfl, IRd.lit .u32 _ 47 w.heap.size ROOTS rfl (by decide), (Below.refl _ _).alloc (Nat.le_refl _) _⟩
end Go.Proofs.Ytejmbkmjonmpcaa
