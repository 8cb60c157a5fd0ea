/- The reference's block function: its schedule. -/
import Derived.Test.YtejmbkmjonmpcaaShaInto
set_option linter.unusedVariables false
set_option linter.unusedSimpArgs false
namespace Go.Proofs.Ytejmbkmjonmpcaa
open Go.RowKit

def Wd (x : Int) : Prop := 0 ≤ x ∧ x < 4294967296
theorem wd_or (a b : Int) : Wd (Go.bits .or .u32 a b) := ⟨bits_lo_u32 _ _ _, Int.lt_of_le_of_lt (bits_hi_u32 _ _ _) (by decide)⟩
theorem wd_mod (x : Int) : Wd (x % 4294967296) := ⟨Int.emod_nonneg _ (by omega), Int.emod_lt_of_pos _ (by omega)⟩
theorem nextW_wd (bs ws : List Int) (i : Nat) : Wd (nextW bs ws i) := by
  unfold nextW
  split
  · exact wd_or _ _
  · exact wd_mod _
theorem wd_getD {l : List Int} (h : ∀ x ∈ l, Wd x) (j : Nat) : Wd (l.getD j 0) := by
  rw [List.getD_eq_getElem?_getD]
  cases hj : l[j]? with
  | none => exact ⟨by simp, by simp⟩
  | some x => exact h x (List.mem_of_getElem? hj)
theorem schedL_wd (bs : List Int) (n : Nat) : ∀ x ∈ schedL bs n, Wd x := by
  induction n with
  | zero => simp [schedL]
  | succ n ih =>
    intro x hx
    rw [schedL, List.mem_append] at hx
    rcases hx with hx | hx
    · exact ih x hx
    · rw [List.mem_singleton.1 hx]; exact nextW_wd _ _ _
theorem roundsS_wd (ks ws hs : List Int) (h : ∀ x ∈ hs, Wd x) (n : Nat) : ∀ x ∈ roundsS ks ws hs n, Wd x := by
  induction n with
  | zero => exact h
  | succ n ih =>
    intro x hx
    rw [roundsS_succ] at hx
    simp only [roundS, List.mem_cons, List.not_mem_nil, or_false] at hx
    rcases hx with rfl | rfl | rfl | rfl | rfl | rfl | rfl | rfl
    all_goals first | exact wd_mod _ | exact wd_getD ih _
theorem ch_eq (e g : Int) (he : Wd e) (hg : Wd g) : Go.bits .and .u32 (4294967295 - e) g = Go.bits .andNot .u32 g e := by
  obtain ⟨E, rfl⟩ := Int.eq_ofNat_of_zero_le he.1
  obtain ⟨G, rfl⟩ := Int.eq_ofNat_of_zero_le hg.1
  have h1 := he.2
  have h2 := hg.2
  rw [show (4294967295 : Int) - (E : Int) = ((4294967295 - E : Nat) : Int) by omega, u32_and_nat _ _ (by omega) (by omega), u32_andNot_nat _ _ (by omega) (by omega), Nat.and_comm]
theorem right_at (x n : Int) (h0 : 0 ≤ x) (hx : x < 4294967296) (h1 : 0 < n) (h2 : n < 32) (w : World) :
    Calls Try.prog 36 #[.int .u32 x, .int .u32 n] w fun e w' => e = .returned (.int .u32 (rotl x (-n))) ∧ w = w' := by
  obtain ⟨m, rfl⟩ := Int.eq_ofNat_of_zero_le (Int.le_of_lt h1)
  exact right_calls x m h0 hx (by omega) (by omega) w
theorem turnS_t (x a b c : Int) : turnS x a b c true = Go.bits .xor .u32 (Go.bits .xor .u32 (rotl x (-a)) (rotl x (-b))) (x / 2 ^ c.toNat) := rfl
theorem turnS_f (x a b c : Int) : turnS x a b c false = Go.bits .xor .u32 (Go.bits .xor .u32 (rotl x (-a)) (rotl x (-b))) (rotl x (-c)) := rfl
theorem turnS_8 (x : Int) : turnS x 7 18 3 true = Go.bits .xor .u32 (Go.bits .xor .u32 (rotl x (-7)) (rotl x (-18))) (x / 8) := rfl
theorem turnS_10 (x : Int) : turnS x 17 19 10 true = Go.bits .xor .u32 (Go.bits .xor .u32 (rotl x (-17)) (rotl x (-19))) (x / 1024) := rfl
end Go.Proofs.Ytejmbkmjonmpcaa
