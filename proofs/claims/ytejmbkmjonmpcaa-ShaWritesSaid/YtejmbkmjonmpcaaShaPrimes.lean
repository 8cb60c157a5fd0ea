/- sha.primes: the first primes, up to a bound on the rounds. -/
import Derived.Test.YtejmbkmjonmpcaaProg
import Derived.Test.YtejmbkmjonmpcaaRow
import Derived.Deep.QuietTactic
import Derived.BigQuiet
import Derived.WalkLawsBesides
import Derived.Outline
import Derived.Lib.Hide
import Derived.Deep.DeepCutAuto
set_option linter.unusedVariables false
namespace Go.Proofs.Ytejmbkmjonmpcaa
open Go.RowKit

set_option maxHeartbeats 400000 in
theorem primes1_calls (p x : Int) (a : Addr) (w : World) (hp : 0 < p) (hx : 0 ≤ x) (hc : w.cell? a = some (.int .u64 x)) :
    Calls Try.prog 39 #[.int .u64 p, .pointer (some a)] w fun e w' => e = .returned (.bool (x % p == 0)) ∧ ∃ n, w' = w.drewN n := by
  have hp0 : (p == 0) = false := by simp; omega
  go_enter Try.func39, Try.ntmps39
  go_wp2
  go_ret
  exact ⟨by first | rfl | simp, 0, rfl⟩

/-- The place of the first that divides x; none: the length. -/
def divAt (x : Int) : List Int → Nat
  | [] => 0
  | p :: l => if x % p == 0 then 0 else divAt x l + 1
def hits (x : Int) (xs : List Int) : Bool := xs.any fun p => x % p == 0

theorem hits_at {x : Int} {xs : List Int} {i : Nat} (h : (x % xs.getD i 0 == 0) = true) (hi : i < xs.length) : hits x xs = true := by
  unfold hits
  rw [List.any_eq_true]
  exact ⟨xs.getD i 0, by simp [List.getD_eq_getElem?_getD, List.getElem?_eq_getElem hi], h⟩
theorem hits_snoc {x : Int} {xs : List Int} {i : Nat} (h : hits x (xs.take i) = false) (hn : (x % xs.getD i 0 == 0) = false) (hi : i < xs.length) : hits x (xs.take (i + 1)) = false := by
  unfold hits at *
  rw [List.take_succ_eq_append_getElem hi, List.any_append, h]
  simpa [List.getD_eq_getElem?_getD, List.getElem?_eq_getElem hi] using hn

set_option maxHeartbeats 800000 in
theorem indexFunc_calls (xs : List Int) (v : Value) (x : Int) (a : Addr) (w : World) (hv : IRd .u64 w v xs) (hp : ∀ j, j < xs.length → 0 < xs.getD j 0) (hx : 0 ≤ x) (hc : w.cell? a = some (.int .u64 x)) :
    Calls Try.prog 48 #[v, .func (.func 39) #[] #[.pointer (some a)]] w
      fun e w' => (∃ i : Int, e = .returned (.int .i64 i) ∧ decide (0 ≤ i) = hits x xs) ∧ ∃ n, w' = w.drewN n := by
  have hv' := hv
  obtain ⟨hl, ⟨rfl, _⟩ | ⟨b, off, c, rfl, hcs⟩⟩ := hv
  · obtain ⟨A, c, hA⟩ := hv'.slice
    simp only [List.length_nil] at hA
    clear hv'
    subst hA
    go_enter Try.func48, Try.ntmps48
    go_wp2_with fail
    go_loopw [8] (fun s8 wr => s8 = .int .i64 0 ∧ wr = w) (fun _ _ => 0)
    case atStart => exact ⟨rfl, rfl⟩
    case round =>
      obtain ⟨rfl, rfl⟩ := hrel
      go_wp2_with fail
      go_ret
      exact ⟨⟨-1, rfl, rfl⟩, 0, rfl⟩
  · clear hv'
    have HC := Lib.hid hcs
    have HP := Lib.hid hp
    clear hcs hp
    go_enter Try.func48, Try.ntmps48
    go_wp2_with fail
    go_loopw [8] (fun s8 wr => ∃ i : Nat, i ≤ xs.length ∧ s8 = .int .i64 i ∧ hits x (xs.take i) = false ∧ ∃ n, wr = w.drewN n) (fun s _ => xs.length - (intOf s).toNat)
    case atStart => exact ⟨0, by omega, rfl, rfl, 0, rfl⟩
    case round =>
      obtain ⟨i, hi, rfl, hh, nn, rfl⟩ := hrel
      have HH := Lib.hid hh
      clear hh
      by_cases hlt : i < xs.length
      · have hcell := HC.out i hlt
        have hpos := HP.out i hlt
        generalize e0 : xs.getD i 0 = p at hcell hpos
        have E0 := Lib.hid e0
        clear e0
        have hb : decide ((i : Int) < (xs.length : Int)) = true := decide_eq_true (by omega)
        go_wp2_with fail
        refine (primes1_calls _ _ _ _ hpos hx (by exact hc)).mono ?_
        rintro e w' ⟨rfl, n2, rfl⟩
        by_cases hd : x % p == 0
        · go_wp2_with fail
          go_ret
          exact ⟨⟨i, rfl, by rw [hits_at (by rw [E0.out]; exact hd) hlt]; simp⟩, _, rfl⟩
        · go_wp2_with fail
          go_roundw
          case rel => exact ⟨i + 1, by omega, by go_num, hits_snoc HH.out (by rw [E0.out]; simpa using hd) hlt, _, rfl⟩
          case measure => simp [intOf]; omega
      · have hb : decide ((i : Int) < (xs.length : Int)) = false := decide_eq_false (by omega)
        have hh := HH.out
        rw [List.take_of_length_le (by omega)] at hh
        have HF := Lib.hid hh
        clear hh
        go_wp2_with fail
        go_ret
        exact ⟨⟨-1, rfl, by rw [HF.out]; rfl⟩, _, rfl⟩

theorem containsFunc_calls (xs : List Int) (v : Value) (x : Int) (a : Addr) (w : World) (hv : IRd .u64 w v xs) (hp : ∀ j, j < xs.length → 0 < xs.getD j 0) (hx : 0 ≤ x) (hc : w.cell? a = some (.int .u64 x)) :
    Calls Try.prog 38 #[v, .func (.func 39) #[] #[.pointer (some a)]] w
      fun e w' => e = .returned (.bool (hits x xs)) ∧ ∃ n, w' = w.drewN n := by
  have HV := Lib.hid hv
  have HP := Lib.hid hp
  have HC := Lib.hid hc
  clear hp hc
  obtain ⟨A, c, rfl⟩ := hv.slice
  clear hv
  go_enter Try.func38, Try.ntmps38
  go_wp2_with fail
  refine (indexFunc_calls xs _ x a _ HV.out HP.out hx HC.out).mono ?_
  rintro e w' ⟨⟨i, rfl, hi⟩, n, rfl⟩
  have HI := Lib.hid hi
  clear hi
  go_wp2_with fail
  go_ret
  exact ⟨by rw [← HI.out]; rfl, n, rfl⟩

/-- The row behind k rounds: the numbers from 2 to k + 1 that none ahead of them divides. -/
def primesL : Nat → List Int
  | 0 => []
  | k + 1 => if hits ((k : Int) + 2) (primesL k) then primesL k else primesL k ++ [(k : Int) + 2]
theorem primesL_hit {k : Nat} (h : hits ((k : Int) + 2) (primesL k) = true) : primesL (k + 1) = primesL k := by simp [primesL, h]
theorem primesL_miss {k : Nat} (h : hits ((k : Int) + 2) (primesL k) = false) : primesL (k + 1) = primesL k ++ [(k : Int) + 2] := by simp [primesL, h]
theorem primesL_pos (k : Nat) : ∀ j, j < (primesL k).length → 0 < (primesL k).getD j 0 := by
  induction k with
  | zero => intro j hj; cases hj
  | succ k ih =>
    intro j hj
    unfold primesL at hj ⊢
    split at hj
    · rename_i h; rw [if_pos h]; exact ih j hj
    · rename_i h
      rw [if_neg h]
      simp only [List.length_append, List.length_cons, List.length_nil] at hj
      by_cases hlt : j < (primesL k).length
      · rw [getD_app_left hlt]; exact ih j hlt
      · obtain rfl : j = (primesL k).length := by omega
        simp [List.getD_eq_getElem?_getD]
        omega

theorem info_u64 : (Try.prog.info? 24).map (fun i => (i.zero, i.size, i.bytes)) = some (some (.int .u64 0), 1, 8) := by kernel_rfl

theorem primesL_len (k : Nat) : (primesL k).length ≤ k := by
  induction k with
  | zero => exact Nat.le_refl _
  | succ k ih =>
    unfold primesL
    split
    · omega
    · simp; omega

/-- How many numbers are still to come. -/
def leftOf (K : Nat) (p : Value) (w : World) : Nat :=
  match p with
  | .pointer (some a) => match w.cell? a with
    | some x => K + 2 - (intOf x).toNat
    | none => 0
  | _ => 0
theorem leftOf_at {K k gx : Nat} {w : World} (h : w.cell? ⟨gx, 0, none⟩ = some (.int .u64 ((k : Int) + 2))) : leftOf K (.pointer (some ⟨gx, 0, none⟩)) w = K - k := by
  simp only [leftOf, h, intOf]; omega

set_option maxRecDepth 100000 in
set_option maxHeartbeats 1600000 in
theorem primes_calls (n K : Nat) (hK : K ≤ 1000) (hlt : ∀ k, k < K → (primesL k).length < n) (heq : n ≤ (primesL K).length) (w : World) :
    Calls Try.prog 26 #[.int .i64 n] w fun e w' => ∃ v, e = .returned v ∧ IOwn .u64 w' w.heap.size 24 v (primesL K) ∧ Below w.heap.size w w' := by
  have HLT := Lib.hid hlt
  have HEQ := Lib.hid heq
  clear hlt heq
  obtain ⟨i0, hi, hz0, hz1, hz2⟩ := info_parts info_u64
  have Hi := Lib.hid hi
  have Hz0 := Lib.hid hz0
  have Hz1 := Lib.hid hz1
  have Hz2 := Lib.hid hz2
  clear hi hz0 hz1 hz2
  go_enter Try.func26, Try.ntmps26
  go_wp2_with fail
  go_loopw [3, 4] (fun s3 s4 wr => ∃ k gx : Nat, k ≤ K ∧ s4 = .pointer (some ⟨gx, 0, none⟩) ∧ wr.cell? ⟨gx, 0, none⟩ = some (.int .u64 ((k : Int) + 2)) ∧ IOwn .u64 wr w.heap.size 24 s3 (primesL k) ∧ Below w.heap.size w wr ∧ s3.ownBlock ≠ some gx)
    (fun _ s4 wr => leftOf K s4 wr)
  case atStart =>
    exact ⟨0, w.heap.size, by omega, rfl, by simp [go_sem], IOwn.nil _ _ _ _, (Below.refl _ _).alloc (Nat.le_refl _) _, by simp [Value.ownBlock]⟩
  case round =>
    obtain ⟨k, gx, hk, rfl, hx, hO, hB, hN⟩ := hrel
    have HN := Lib.hid hN
    clear hN
    have HO := Lib.hid hO
    have HB := Lib.hid hB
    obtain ⟨A, c, hv⟩ := hO.rd.slice
    clear hO hB
    subst hv
    have HX := Lib.hid hx
    have HM := Lib.hid (leftOf_at (K := K) hx)
    by_cases hkK : k < K
    · have hll := HLT.out k hkK
      have hb : decide (((primesL k).length : Int) < (n : Int)) = true := decide_eq_true (by omega)
      go_wp2_with fail
      refine (containsFunc_calls (primesL k) _ ((k : Int) + 2) _ _ HO.out.rd (primesL_pos k) (by omega) (by exact HX.out)).mono ?_
      rintro e w2 ⟨rfl, hq⟩
      have HO2 := Lib.hid (show IOwn .u64 w2 w.heap.size 24 (.slice A (primesL k).length c) (primesL k) by obtain ⟨q, rfl⟩ := hq; exact HO.out.drewN q)
      have hx2 : w2.cell? ⟨gx, 0, none⟩ = some (.int .u64 ((k : Int) + 2)) := by obtain ⟨q, rfl⟩ := hq; exact HX.out
      have HB2 := Lib.hid (show Below w.heap.size w w2 by obtain ⟨q, rfl⟩ := hq; exact below_drewN' HB.out q)
      clear hx hq HO HB
      by_cases hh : hits ((k : Int) + 2) (primesL k) = true
      · go_wp2_with fail
        go_roundw
        case rel =>
          refine ⟨k + 1, w2.heap.size, by omega, rfl, by simp [go_sem]; omega, ?_, HB2.out.alloc HB2.out.size _, ?_⟩
          · rw [primesL_hit hh]; exact HO2.out.alloc _
          · intro e
            have := (HO2.out.lt _ e).2
            omega
        case measure =>
          rw [leftOf_at (k := k + 1) (by simp [go_sem]; omega), HM.out]
          omega
      · have hh' : hits ((k : Int) + 2) (primesL k) = false := by simpa using hh
        have z2 := HB2.out.size
        have hkl := primesL_len k
        go_wp2_with (at_builtin; refine wpList_append_one .u64 w.heap.size rfl _ _ 56 24 8 rfl Try.underlying56 info_u64 (by omega) (.slice A (primesL k).length c) (primesL k) ((k : Int) + 2) rfl rfl HO2.out z2 (by omega) ?_; intro v1 w3 hown hgr hat; have hx3 := hgr.cell hx2 (fun e => HN.out e.symm); clear hx2; have HOW := Lib.hid hown; have HGR := Lib.hid hgr; clear hown hgr hat)
        go_roundw
        case rel =>
          refine ⟨k + 1, w3.heap.size, by omega, rfl, by simp [go_sem]; omega, ?_, ?_, ?_⟩
          · rw [primesL_miss hh']; exact HOW.out.alloc _
          · exact (grown_below HB2.out HGR.out z2 (fun g hg => (HO2.out.lt g hg).1)).alloc (Nat.le_trans z2 HGR.out.size) _
          · intro e
            have := (HOW.out.lt _ e).2
            omega
        case measure =>
          rw [leftOf_at (k := k + 1) (by simp [go_sem]; omega), HM.out]
          omega
    · obtain rfl : k = K := by omega
      have hll := HEQ.out
      have hb : decide (((primesL k).length : Int) < (n : Int)) = false := decide_eq_false (by omega)
      go_wp2_with fail
      go_ret
      exact ⟨_, rfl, HO.out, HB.out⟩
end Go.Proofs.Ytejmbkmjonmpcaa
