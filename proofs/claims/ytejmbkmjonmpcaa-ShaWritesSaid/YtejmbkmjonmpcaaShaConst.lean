/- sha.constants: the rounds' constants. -/
import Derived.Test.YtejmbkmjonmpcaaShaRoot
import Derived.Laws.Tables
import Derived.Laws.CopyOwn
set_option linter.unusedVariables false
set_option linter.unusedSimpArgs false
namespace Go.Proofs.Ytejmbkmjonmpcaa
open Go.RowKit

/-- The constants of the first n of these primes, and noughts. -/
def constL (ps : List Int) (cube : Bool) : List Int := ps.map fun p => ((rootL p.toNat cube 38 % 4294967296 : Nat) : Int)

theorem constL_snoc {PS : List Int} {i q : Nat} (cube : Bool) (h : i < PS.length) (hq : PS.getD i 0 = (q : Int)) : constL (PS.take (i + 1)) cube = constL (PS.take i) cube ++ [((rootL q cube 38 % 4294967296 : Nat) : Int)] := by
  have h1 : PS[i] = (q : Int) := by rw [← hq]; simp [List.getD_eq_getElem?_getD, List.getElem?_eq_getElem h]
  unfold constL
  rw [List.take_succ_eq_append_getElem h, List.map_append, h1]
  simp
theorem info64c : (Try.prog.info? 49).map (·.size) = some 64 := by kernel_rfl

/-- The prime rows: what the first primes are, with their bounds. -/
structure PrimeRow (n K : Nat) (PS : List Int) : Prop where
  eq : primesL K = PS
  len : PS.length = n
  lt : ∀ k, k < K → (primesL k).length < n
  K : K ≤ 1000
  bd : ∀ j, j < n → 0 < PS.getD j 0 ∧ PS.getD j 0 < 18446744073709551616

theorem primesRow_calls {n K : Nat} {PS : List Int} (R : PrimeRow n K PS) (w : World) :
    Calls Try.prog 26 #[.int .i64 n] w fun e w' => ∃ A c, e = .returned (.slice A n c) ∧ IOwn .u64 w' w.heap.size 24 (.slice A n c) PS ∧ Below w.heap.size w w' := by
  refine (primes_calls n K R.K R.lt (by rw [R.eq, R.len]; exact Nat.le_refl _) w).mono ?_
  rintro e w' ⟨v, rfl, hO, hB⟩
  rw [R.eq] at hO
  obtain ⟨A, c, rfl⟩ := hO.rd.slice
  rw [R.len] at hO ⊢
  exact ⟨A, c, rfl, hO, hB⟩

set_option maxRecDepth 100000 in
set_option maxHeartbeats 4000000 in
theorem constants_calls (PS : List Int) (R : PrimeRow 64 310 PS) (w : World) :
    Calls Try.prog 23 #[] w fun e w' => e = .returned (.agg ((constL PS true).map (Value.int .u32)).toArray) ∧ Below w.heap.size w w' := by
  go_enter Try.func23, Try.ntmps23
  go_wp2_with fail
  refine (primesRow_calls R _).mono ?_
  rintro e w1 ⟨A, c, rfl, hO, hB⟩
  have hB0 : Below w.heap.size w w1 := by
    refine Below.trans ?_ (hB.mono (by simp; omega))
    exact ((Below.refl _ _).alloc (Nat.le_refl _) _).alloc (by simp) _
  have hz : w.heap.size + 1 < w1.heap.size := by have := hB.size; simp at this; omega
  have ho1 : IBlk .u32 w1 (w.heap.size + 1) 49 (List.replicate 64 0) := by
    refine Blk.below (B := w.heap.size + 1 + 1) (w := (w.alloc (.cells (List.replicate 64 (Value.int .u32 0)).toArray 49)).alloc (.cells (List.replicate 64 (Value.int .u32 0)).toArray 49)) ?_ (hB.mono (by simp)) (by omega)
    have := Blk.new (w.alloc (.cells (List.replicate 64 (Value.int .u32 0)).toArray 49)) (List.replicate 64 (Value.int .u32 0)) 49
    simpa using this
  have ho0 : IBlk .u32 w1 w.heap.size 49 (List.replicate 64 0) := by
    refine Blk.below (B := w.heap.size + 1 + 1) (w := (w.alloc (.cells (List.replicate 64 (Value.int .u32 0)).toArray 49)).alloc (.cells (List.replicate 64 (Value.int .u32 0)).toArray 49)) ?_ (hB.mono (by simp)) (by omega)
    exact (Blk.new w (List.replicate 64 (Value.int .u32 0)) 49).alloc _
  have hn1 := R.len
  obtain ⟨g, c', hv, hgb, hgl, hcs⟩ := hO.form (by omega)
  have hg1 : w.heap.size + 1 < g := by simp at hgb; omega
  simp only [Value.slice.injEq] at hv
  obtain ⟨rfl, _, _⟩ := hv
  have HC := Lib.hid hcs
  have HB0 := Lib.hid hB0
  have H1 := Lib.hid ho1
  have H0 := Lib.hid ho0
  have HR := Lib.hid R
  clear hO hB hB0 ho1 ho0 hcs R hgb hn1
  go_wp2_with fail
  go_loopw [6] (fun s6 wr => ∃ i : Nat, i ≤ 64 ∧ s6 = .int .i64 i ∧ IBlk .u32 wr (w.heap.size + 1) 49 (constL (PS.take i) true ++ List.replicate (64 - i) 0) ∧ w1.grownBy wr (some (w.heap.size + 1)))
    (fun s _ => 64 - (intOf s).toNat)
  case atStart => exact ⟨0, by omega, rfl, H1.out, grown_refl _ _⟩
  case round =>
    obtain ⟨i, hi, rfl, hI, hG⟩ := hrel
    have HI := Lib.hid hI
    have HG := Lib.hid hG
    clear hI hG
    have hll : (constL (PS.take i) true).length = i := by
      have := HR.out.len
      simp [constL]; omega
    by_cases hlt : i < 64
    · have hb : decide ((i : Int) < 64) = true := decide_eq_true (by omega)
      have hcell := HC.out i (by rw [HR.out.len]; exact hlt)
      have hcw := HG.out.cell hcell (by simp; omega)
      have hbd := HR.out.bd i hlt
      obtain ⟨q, hq⟩ := Int.eq_ofNat_of_zero_le (show 0 ≤ PS.getD i 0 by omega)
      have hq64 : q < 18446744073709551616 := by omega
      rw [hq] at hcw
      have ki := HI.out.cell (j := i) (by simp [hll]; omega)
      have fi := Blk.frozen HI.out i
      generalize (constL (PS.take i) true ++ List.replicate (64 - i) 0).getD i 0 = z at ki
      have HQ := Lib.hid hq
      have HL := Lib.hid hll
      clear hcell hbd hq hll
      go_wp2_with fail
      refine (root_calls q true hq64 _).mono ?_
      rintro e w' ⟨rfl, rfl⟩
      go_wp2_with fail
      go_roundw
      case rel =>
        refine ⟨i + 1, by omega, by go_num, ?_, grown_set HG.out _ _⟩
        have h1 := HI.out.set i ((rootL q true 38 % 4294967296 : Nat) : Int)
        have h2 := set_app_zero (a := constL (PS.take i) true) (n := 64 - i) (x := ((rootL q true 38 % 4294967296 : Nat) : Int)) (by omega)
        rw [HL.out] at h2
        rw [h2] at h1
        have h3 : constL (PS.take (i + 1)) true = constL (PS.take i) true ++ [((rootL q true 38 % 4294967296 : Nat) : Int)] := constL_snoc true (by rw [HR.out.len]; exact hlt) HQ.out
        rw [h3, show 64 - (i + 1) = 64 - i - 1 by omega]
        exact h1
      case measure => simp [intOf]; omega
    · obtain rfl : i = 64 := by omega
      have hb : decide (((64 : Nat) : Int) < 64) = false := by decide
      have hI := HI.out
      rw [List.take_of_length_le (by rw [HR.out.len]; exact Nat.le_refl _), Nat.sub_self, List.replicate_zero, List.append_nil] at hI
      rw [List.take_of_length_le (by rw [HR.out.len]; exact Nat.le_refl _)] at hll
      obtain ⟨WA, hWA⟩ : ∃ l : Array Value, ((constL PS true).map (Value.int .u32)).toArray = l := ⟨_, rfl⟩
      have hsz : WA.size = 64 := by rw [← hWA]; simp [hll]
      have hbk : wr.heap[w.heap.size + 1]? = some (.cells WA 49 (0, 0)) := by rw [← hWA]; exact hI
      have hone : WA.all (·.oneCell') = true := by
        rw [← hWA, ← Array.all_toList]
        simp [Value.oneCell']
      have h0 : wr.heap[w.heap.size]? = some (.cells ((List.replicate 64 (0 : Int)).map (Value.int .u32)).toArray 49 (0, 0)) := Blk.grown (cs := (List.replicate 64 (0 : Int)).map (Value.int .u32)) H0.out HG.out (by simp)
      have hinf : (Try.prog.info? 49).map (·.size) = some WA.size := by rw [hsz]; exact info64c
      have HBK := Lib.hid hbk
      have HW0 := Lib.hid h0
      have HINF := Lib.hid hinf
      have HONE := Lib.hid hone
      have HWA := Lib.hid hWA
      have hold : ((List.replicate 64 (0 : Int)).map (Value.int .u32)).toArray.size = WA.size := by rw [hsz]; simp
      have HOLD := Lib.hid hold
      clear hI hbk h0 hinf hone hWA hsz hll HI hold
      go_wp2_with (first | (with_reducible refine wpList_load_row (o := ⟨some 16, _, _, _, _, _⟩) rfl _ _ rfl (w.heap.size + 1) rfl _ _ _ _ HBK.out Try.underlying49 rfl HINF.out ?_) | (with_reducible refine wpList_store_row (o := ⟨none, .store 49 _ _, _, _, _, _⟩) rfl _ _ _ rfl w.heap.size WA rfl rfl _ _ HW0.out HINF.out HOLD.out HONE.out ?_))
      refine bodyPost_ret (v := .agg WA) (results_cell_row rfl _ _ w.heap.size _ WA _ _ rfl (setRow_heap _ _ _ _ _ _ HW0.out) Try.underlying49 rfl HINF.out) rfl ⟨by rw [HWA.out], ?_⟩
      exact below_setRow (HB0.out.grown HG.out (by omega) (by simp)) (Nat.le_refl _) _
end Go.Proofs.Ytejmbkmjonmpcaa
