import Derived.Test.YtejmbkmjonmpcaaProg
import Derived.WalkKit
import Derived.KernelRfl
import Derived.Deep.QuietTactic
import Derived.BigQuiet
import Derived.WalkLawsBesides
import Derived.Outline
import Derived.Lib.Hide
import Derived.Test.YtejmbkmjonmpcaaBlk
import Derived.Test.YtejmbkmjonmpcaaShaSpec
import Derived.Laws.Externs
import Derived.Lib.Mul64
import Derived.Laws.BitsAllLaws
import Derived.Laws.Bits64
namespace Go.Proofs.Ytejmbkmjonmpcaa
open Go.RowKit

theorem and31 (k : Int) : Go.bits .and .u64 (IntKind.u64.wrap k) 31 = k % 32 := by
  rw [IntKind.wrap_u64]
  obtain ⟨n, hn⟩ := Int.eq_ofNat_of_zero_le (a := k % 18446744073709551616) (by omega)
  have hlt : n < 18446744073709551616 := by omega
  have h := u64_and_nat n 31 hlt (by omega)
  have e : n &&& 31 = n % 32 := Nat.and_two_pow_sub_one_eq_mod n 5
  rw [hn, show (31 : Int) = ((31 : Nat) : Int) from rfl, h, e]
  omega

set_option maxHeartbeats 400000 in
theorem rotl_calls (x k : Int) (w : World) :
    Calls Try.prog 47 #[.int .u32 x, .int .i64 k] w fun e w' => e = .returned (.int .u32 (rotl x k)) ∧ w = w' := by
  have h := and31 k
  have h0 : 0 ≤ k % 32 := by omega
  have h1 : k % 32 ≤ 31 := by omega
  go_enter Try.func47, Try.ntmps47
  go_wp2
  go_ret
  exact ⟨rfl, rfl⟩

/-- The captured words of a turning function. -/
structure TurnC (w : World) (g : Nat) (a b c : Int) (shift : Bool) : Prop where
  h0 : w.cell? ⟨g, 0, none⟩ = some (.int .i64 a)
  h1 : w.cell? ⟨g + 1, 0, none⟩ = some (.int .i64 b)
  h2 : w.cell? ⟨g + 2, 0, none⟩ = some (.int .i64 c)
  h3 : w.cell? ⟨g + 3, 0, none⟩ = some (.bool shift)
  lt : g + 3 < w.heap.size
  ba : 0 ≤ a ∧ a < 32
  bb : 0 ≤ b ∧ b < 32
  bc : 0 ≤ c ∧ c < 32
theorem TurnC.below {w w' : World} {g B : Nat} {a b c : Int} {shift : Bool} (h : TurnC w g a b c shift) (hb : Below B w w') (hB : g + 3 < B) : TurnC w' g a b c shift :=
  ⟨(hb.cell (by simp; omega)).trans h.h0, (hb.cell (by simp; omega)).trans h.h1, (hb.cell (by simp; omega)).trans h.h2, (hb.cell (by simp; omega)).trans h.h3, Nat.lt_of_lt_of_le h.lt hb.size, h.ba, h.bb, h.bc⟩

theorem TurnC.drewN {w : World} {g : Nat} {a b c : Int} {shift : Bool} (h : TurnC w g a b c shift) (n : Nat) : TurnC (w.drewN n) g a b c shift :=
  ⟨h.h0, h.h1, h.h2, h.h3, h.lt, h.ba, h.bb, h.bc⟩

set_option maxHeartbeats 400000 in
theorem turn1_calls (x a b c : Int) (shift : Bool) (g : Nat) (w : World) (hC : TurnC w g a b c shift) :
    Calls Try.prog 46 #[.int .u32 x, .pointer (some ⟨g + 2, 0, none⟩), .pointer (some ⟨g + 3, 0, none⟩), .pointer (some ⟨g, 0, none⟩), .pointer (some ⟨g + 1, 0, none⟩)] w
      fun e w' => e = .returned (.int .u32 (turnS x a b c shift)) ∧ ∃ n, w' = w.drewN n := by
  obtain ⟨h0, h1, h2, h3, _, ha, hb, hc⟩ := hC
  obtain ⟨ha0, ha1⟩ := ha
  obtain ⟨hb0, hb1⟩ := hb
  obtain ⟨hc0, hc1⟩ := hc
  go_enter Try.func46, Try.ntmps46
  cases shift
  all_goals
    go_wp2_with (first | (go_at_call 47; refine (rotl_calls _ _ _).mono ?_; rintro e w' ⟨rfl, rfl⟩))
    go_quiet ((go_at_call 47; exact quietSame (rotl_calls _ _ _)))
    go_wp2
    go_ret
    exact ⟨rfl, _, rfl⟩

theorem turn_calls (a b c : Int) (shift : Bool) (w : World) (ha : 0 ≤ a ∧ a < 32) (hb : 0 ≤ b ∧ b < 32) (hc : 0 ≤ c ∧ c < 32) :
    Calls Try.prog 35 #[.int .i64 a, .int .i64 b, .int .i64 c, .bool shift] w
      fun e w' => ∃ g, e = .returned (.func (.func 46) #[] #[.pointer (some ⟨g + 2, 0, none⟩), .pointer (some ⟨g + 3, 0, none⟩), .pointer (some ⟨g, 0, none⟩), .pointer (some ⟨g + 1, 0, none⟩)]) ∧
        TurnC w' g a b c shift ∧ Below w.heap.size w w' ∧ w.heap.size < w'.heap.size := by
  go_enter Try.func35, Try.ntmps35
  go_wp2
  go_ret
  refine ⟨w.heap.size, rfl, ⟨by simp [go_sem], by simp [go_sem], by simp [go_sem], by simp [go_sem], by simp, ha, hb, hc⟩, ?_, by simp; omega⟩
  exact ((((Below.refl _ _).alloc (Nat.le_refl _) _).alloc (by simp) _).alloc (by simp; omega) _).alloc (by simp; omega) _

end Go.Proofs.Ytejmbkmjonmpcaa
