/- sha.less, sha.root, sha.constants, sha.New. -/
import Derived.Test.YtejmbkmjonmpcaaShaPrimes
import Derived.Test.YtejmbkmjonmpcaaShelf
import Derived.Laws.Externs
set_option linter.unusedVariables false
set_option linter.unusedSimpArgs false
namespace Go.Proofs.Ytejmbkmjonmpcaa
open Go.RowKit

def cubeS (hi lo b a d c p : Nat) : Bool :=
  decide ((c + (a + d) / 18446744073709551616) % 18446744073709551616 < p / 4294967296) ||
    ((c + (a + d) / 18446744073709551616) % 18446744073709551616 == p / 4294967296 &&
      (decide ((a + d) % 18446744073709551616 < p * 4294967296 % 18446744073709551616) || ((a + d) % 18446744073709551616 == p * 4294967296 % 18446744073709551616 && b == 0)))
def squareS (hi lo p : Nat) : Bool := decide (hi < p) || (hi == p && lo == 0)
def lessS (x p : Nat) (cube : Bool) : Bool :=
  let hi := x * x / 18446744073709551616
  let lo := x * x % 18446744073709551616
  if cube then cubeS hi lo (lo * x % 18446744073709551616) (lo * x / 18446744073709551616) (hi * x % 18446744073709551616) (hi * x / 18446744073709551616) p else squareS hi lo p

theorem cubeS_int (hi lo b a d c p : Nat) : cubeS hi lo b a d c p = (decide (IntKind.u64.wrap ((c : Int) + ((a : Int) + (d : Int)) / 18446744073709551616) < (p : Int) / 4294967296) ||
        (IntKind.u64.wrap ((c : Int) + ((a : Int) + (d : Int)) / 18446744073709551616) == (p : Int) / 4294967296 &&
          (decide (((a : Int) + (d : Int)) % 18446744073709551616 < IntKind.u64.wrap ((p : Int) * 4294967296)) || (((a : Int) + (d : Int)) % 18446744073709551616 == IntKind.u64.wrap ((p : Int) * 4294967296) && (b : Int) == 0)))) := by
  rw [IntKind.wrap_u64, IntKind.wrap_u64, Bool.eq_iff_iff]
  simp only [cubeS, Bool.or_eq_true, Bool.and_eq_true, decide_eq_true_eq, beq_iff_eq]
  omega

theorem add64_run (x y : Nat) (w : World) :
    (callFunc 50 #[.int .u64 x, .int .u64 y, .int .u64 0]).run Try.prog w =
      .ok (.value (.tuple #[.int .u64 (((x + y) % 18446744073709551616 : Nat) : Int), .int .u64 (((x + y) / 18446744073709551616 : Nat) : Int)])) w := by
  rw [run_callFunc_extern Try.func50 (by kernel_rfl) (by kernel_rfl) (by kernel_rfl) (e := add64Entry) (by kernel_rfl), run_add64 x y 0 (by omega) (by omega) (by omega) (by omega)]
  simp only [Result.andThen]
  congr 5 <;> omega

set_option maxRecDepth 100000 in
set_option maxHeartbeats 1600000 in
theorem less_calls (x p : Nat) (cube : Bool) (hx : x < 18446744073709551616) (hp : p < 18446744073709551616) (w : World) :
    Calls Try.prog 40 #[.int .u64 x, .int .u64 p, .bool cube] w fun e w' => e = .returned (.bool (lessS x p cube)) ∧ w = w' := by
  have hS : lessS x p cube = if cube then cubeS (x * x / 18446744073709551616) (x * x % 18446744073709551616) (x * x % 18446744073709551616 * x % 18446744073709551616) (x * x % 18446744073709551616 * x / 18446744073709551616) (x * x / 18446744073709551616 * x % 18446744073709551616) (x * x / 18446744073709551616 * x / 18446744073709551616) p else squareS (x * x / 18446744073709551616) (x * x % 18446744073709551616) p := rfl
  have hhi : x * x / 18446744073709551616 < 18446744073709551616 := by
    have : x * x < 18446744073709551616 * 18446744073709551616 := Nat.mul_lt_mul_of_lt_of_lt hx hx
    omega
  have hlo : x * x % 18446744073709551616 < 18446744073709551616 := by omega
  have HS := Lib.hid hS
  clear hS
  go_enter Try.func40, Try.ntmps40
  go_wp2_with fail
  refine (Try.bits_Mul64 x x hx hx _).mono ?_
  rintro e w' ⟨rfl, rfl⟩
  generalize x * x / 18446744073709551616 = hi at *
  generalize x * x % 18446744073709551616 = lo at *
  cases cube with
  | false =>
    go_wp2_with fail
    all_goals
      go_ret
      exact ⟨congrArg (fun b => Ending.returned (Value.bool b)) (by rw [HS.out, Bool.eq_iff_iff]; simp [squareS]; omega), rfl⟩
  | true =>
    have hs := HS.out
    simp only [if_true] at hs
    have HT := Lib.hid hs
    clear HS hs
    have hb1 : lo * x % 18446744073709551616 < 18446744073709551616 := by omega
    have hd1 : hi * x % 18446744073709551616 < 18446744073709551616 := by omega
    have ha1 : lo * x / 18446744073709551616 < 18446744073709551616 := by
      have : lo * x < 18446744073709551616 * 18446744073709551616 := Nat.mul_lt_mul_of_lt_of_lt hlo hx
      omega
    have hc1 : hi * x / 18446744073709551616 < 18446744073709551616 := by
      have : hi * x < 18446744073709551616 * 18446744073709551616 := Nat.mul_lt_mul_of_lt_of_lt hhi hx
      omega
    go_wp2_with fail
    refine (Try.bits_Mul64 lo x hlo hx _).mono ?_
    rintro e w' ⟨rfl, rfl⟩
    generalize lo * x / 18446744073709551616 = a at *
    generalize lo * x % 18446744073709551616 = b at *
    go_wp2_with fail
    refine (Try.bits_Mul64 hi x hhi hx _).mono ?_
    rintro e w' ⟨rfl, rfl⟩
    generalize hi * x / 18446744073709551616 = c at *
    generalize hi * x % 18446744073709551616 = d at *
    have hadd := add64_run a d
    go_upto_region 9 with fail
    clear hadd
    have hS : cubeS hi lo b a d c p = (decide (IntKind.u64.wrap ((c : Int) + ((a : Int) + (d : Int)) / 18446744073709551616) < (p : Int) / 4294967296) ||
        (IntKind.u64.wrap ((c : Int) + ((a : Int) + (d : Int)) / 18446744073709551616) == (p : Int) / 4294967296 &&
          (decide (((a : Int) + (d : Int)) % 18446744073709551616 < IntKind.u64.wrap ((p : Int) * 4294967296)) || (((a : Int) + (d : Int)) % 18446744073709551616 == IntKind.u64.wrap ((p : Int) * 4294967296) && (b : Int) == 0)))) := cubeS_int hi lo b a d c p
    generalize IntKind.u64.wrap ((c : Int) + ((a : Int) + (d : Int)) / 18446744073709551616) = top at *
    generalize ((a : Int) + (d : Int)) % 18446744073709551616 = mid at *
    generalize ((a : Int) + (d : Int)) / 18446744073709551616 = carry at *
    generalize (p : Int) / 4294967296 = wt at *
    generalize IntKind.u64.wrap ((p : Int) * 4294967296) = wm at *
    rw [hS] at HT
    clear hS hb1 hd1 ha1 hc1
    generalize (b : Int) = bi at *
    by_cases c1 : top < wt
    · have d1 : decide (top < wt) = true := decide_eq_true c1
      go_wp2_with fail
      go_ret
      exact ⟨congrArg (fun b => Ending.returned (Value.bool b)) (by rw [HT.out, d1]; rfl), rfl⟩
    · have d1 : decide (top < wt) = false := decide_eq_false c1
      by_cases c2 : (top == wt) = true
      · by_cases c3 : mid < wm
        · have d3 : decide (mid < wm) = true := decide_eq_true c3
          go_wp2_with fail
          go_ret
          exact ⟨congrArg (fun b => Ending.returned (Value.bool b)) (by rw [HT.out, d1, c2, d3]; rfl), rfl⟩
        · have d3 : decide (mid < wm) = false := decide_eq_false c3
          by_cases c4 : (mid == wm) = true
          · go_wp2_with fail
            go_ret
            exact ⟨congrArg (fun b => Ending.returned (Value.bool b)) (by rw [HT.out, d1, c2, d3, c4]; rfl), rfl⟩
          · have c4' : (mid == wm) = false := by simpa using c4
            go_wp2_with fail
            go_ret
            exact ⟨congrArg (fun b => Ending.returned (Value.bool b)) (by rw [HT.out, d1, c2, d3, c4']; rfl), rfl⟩
      · have c2' : (top == wt) = false := by simpa using c2
        go_wp2_with fail
        go_ret
        exact ⟨congrArg (fun b => Ending.returned (Value.bool b)) (by rw [HT.out, d1, c2']; rfl), rfl⟩

def rootL (p : Nat) (cube : Bool) : Nat → Nat
  | 0 => 0
  | j + 1 => if lessS (rootL p cube j ||| 2 ^ (37 - j)) p cube then rootL p cube j ||| 2 ^ (37 - j) else rootL p cube j
theorem rootL_lt (p : Nat) (cube : Bool) (j : Nat) : rootL p cube j < 2 ^ 38 := by
  induction j with
  | zero => simp [rootL]
  | succ j ih =>
    unfold rootL
    split
    · refine Nat.or_lt_two_pow ih (Nat.pow_lt_pow_right (by omega) (by omega))
    · exact ih

set_option maxRecDepth 100000 in
set_option maxHeartbeats 1600000 in
theorem root_calls (p : Nat) (cube : Bool) (hp : p < 18446744073709551616) (w : World) :
    Calls Try.prog 27 #[.int .u64 p, .bool cube] w fun e w' => e = .returned (.int .u32 ((rootL p cube 38 % 4294967296 : Nat) : Int)) ∧ w = w' := by
  go_enter Try.func27, Try.ntmps27
  go_wp2_with fail
  go_loopw [5, 6] (fun s5 s6 wr => ∃ j : Nat, j ≤ 38 ∧ s5 = .int .u64 (rootL p cube j : Nat) ∧ s6 = .int .i64 (37 - (j : Int)) ∧ w = wr) (fun _ s6 _ => (intOf s6 + 1).toNat)
  case atStart => exact ⟨0, by omega, rfl, rfl, rfl⟩
  case round =>
    obtain ⟨j, hj, rfl, rfl, rfl⟩ := hrel
    have hx := rootL_lt p cube j
    generalize ex : rootL p cube j = x at hx
    have EX := Lib.hid ex
    clear ex
    by_cases hlt : j < 38
    · have hb : decide ((j : Int) ≤ 37) = true := decide_eq_true (by omega)
      obtain ⟨y, hy⟩ : ∃ y, x ||| 2 ^ (37 - j) = y := ⟨_, rfl⟩
      have hyl : y < 2 ^ 38 := by rw [← hy]; exact Nat.or_lt_two_pow hx (Nat.pow_lt_pow_right (by omega) (by omega))
      have hyo : Go.bits .or .u64 (x : Int) (IntKind.u64.wrap (2 ^ (37 - j))) = (y : Int) := by
        have hp2 : 2 ^ (37 - j) < 2 ^ 38 := Nat.pow_lt_pow_right (by omega) (by omega)
        have e : IntKind.u64.wrap (2 ^ (37 - j)) = ((2 ^ (37 - j) : Nat) : Int) := by
          rw [IntKind.wrap_u64]
          have h2 : (2 : Int) ^ (37 - j) = ((2 ^ (37 - j) : Nat) : Int) := by simp
          rw [h2]
          generalize 2 ^ (37 - j) = z at hp2
          omega
        rw [e, u64_or_nat x _ (by omega) (by omega), hy]
      have hy64 : y < 18446744073709551616 := by omega
      have er : rootL p cube (j + 1) = if lessS y p cube then y else x := by
        rw [rootL, EX.out, hy]
      have ER := Lib.hid er
      have HYO := Lib.hid hyo
      clear er hy hyl
      go_wp2_with fail
      refine (less_calls y p cube hy64 hp _).mono ?_
      rintro e w' ⟨rfl, rfl⟩
      by_cases hc : lessS y p cube = true
      · go_wp2_with fail
        go_roundw
        case rel => exact ⟨j + 1, by omega, by rw [ER.out, hc]; rfl, by go_num, trivial⟩
        case measure => simp [intOf]; omega
      · have hc' : lessS y p cube = false := by simpa using hc
        go_wp2_with fail
        go_roundw
        case rel => exact ⟨j + 1, by omega, by rw [ER.out, hc']; rfl, by go_num, trivial⟩
        case measure => simp [intOf]; omega
    · obtain rfl : j = 38 := by omega
      have hb : decide ((0 : Int) ≤ 37 - ((38 : Nat) : Int)) = false := by decide
      go_wp2_with fail
      go_ret
      exact ⟨by rw [EX.out, Int.natCast_emod]; rfl, rfl⟩
end Go.Proofs.Ytejmbkmjonmpcaa
