/- sha.New: a digest of nothing yet. -/
import Derived.Test.YtejmbkmjonmpcaaShaConst
import Derived.Deep.RegionHeld3
import Derived.StillTactics
import Derived.Deep.RegionLaw
set_option linter.unusedVariables false
set_option linter.unusedSimpArgs false
namespace Go.Proofs.Ytejmbkmjonmpcaa
open Go.RowKit

theorem info_u32 : (Try.prog.info? 47).map (fun i => (i.zero, i.size, i.bytes)) = some (some (.int .u32 0), 1, 4) := by kernel_rfl

theorem frozen_kept {wr w3 : World} {g T j : Nat} {cs : List Value} {o : Obj} {row : Option Nat} (h : Blk wr g T cs) (hg : (wr.alloc o).drew.grownBy w3 row) (hne : row ≠ some g) : w3.frozen? ⟨g, j, none⟩ = false :=
  Blk.frozen (Blk.grown (show Blk (wr.alloc o).drew g T cs from Blk.alloc h o) hg (fun e => hne e.symm)) j
theorem infoSha : (Try.prog.info? 26).map (·.size) = some 3 := by kernel_rfl

set_option maxRecDepth 100000 in
set_option maxHeartbeats 4000000 in
theorem new_calls (PS : List Int) (R : PrimeRow 8 18 PS) (w : World) :
    Calls Try.prog 14 #[] w fun e w' => ∃ v, e = .returned (.agg #[v, .slice none 0 0, .int .u64 0]) ∧ IOwn .u32 w' w.heap.size 47 v (constL PS false) ∧ Below w.heap.size w w' := by
  go_enter Try.func14, Try.ntmps14
  go_wp2_with fail
  refine (primesRow_calls R _).mono ?_
  rintro e w1 ⟨A, c, rfl, hO, hB⟩
  have hn1 := R.len
  obtain ⟨g, c', hv, hgb, hgl, hcs⟩ := hO.form (by omega)
  rw [hn1] at hv
  simp only [Value.slice.injEq] at hv
  obtain ⟨rfl, _, rfl⟩ := hv
  have hB0 : Below w.heap.size w w1 := by
    refine Below.trans ?_ (hB.mono (by simp; omega))
    exact ((Below.refl _ _).alloc (Nat.le_refl _) _).alloc (by simp) _
  have hz : w.heap.size + 1 < w1.heap.size := by have := hB.size; simp at this; omega
  have ho1 : Blk w1 (w.heap.size + 1) 26 [.slice none 0 0, .slice none 0 0, .int .u64 0] := by
    refine Blk.below (B := w.heap.size + 1 + 1) (w := (w.alloc (.cells #[.slice none 0 0, .slice none 0 0, .int .u64 0] 26)).alloc (.cells #[.slice none 0 0, .slice none 0 0, .int .u64 0] 26)) ?_ (hB.mono (by simp)) (by omega)
    have := Blk.new (w.alloc (.cells #[.slice none 0 0, .slice none 0 0, .int .u64 0] 26)) [.slice none 0 0, .slice none 0 0, .int .u64 0] 26
    simpa using this
  have ho0 : Blk w1 w.heap.size 26 [.slice none 0 0, .slice none 0 0, .int .u64 0] := by
    refine Blk.below (B := w.heap.size + 1 + 1) (w := (w.alloc (.cells #[.slice none 0 0, .slice none 0 0, .int .u64 0] 26)).alloc (.cells #[.slice none 0 0, .slice none 0 0, .int .u64 0] 26)) ?_ (hB.mono (by simp)) (by omega)
    exact (Blk.new w [.slice none 0 0, .slice none 0 0, .int .u64 0] 26).alloc _
  have hg1 : w.heap.size + 1 < g := by simp at hgb; omega
  have HC := Lib.hid hcs
  have HB0 := Lib.hid hB0
  have H1 := Lib.hid ho1
  have H0 := Lib.hid ho0
  have HR := Lib.hid R
  clear hO hB hB0 ho1 ho0 hcs R hgb hn1
  go_wp2_with fail
  go_loopw [6] (fun s6 wr => ∃ i : Nat, i ≤ 8 ∧ s6 = .int .i64 i ∧ w1.grownBy wr (some (w.heap.size + 1)) ∧
      ∃ v, Blk wr (w.heap.size + 1) 26 [v, .slice none 0 0, .int .u64 0] ∧ IOwn .u32 wr w1.heap.size 47 v (constL (PS.take i) false))
    (fun s _ => 8 - (intOf s).toNat)
  case atStart => exact ⟨0, by omega, rfl, grown_refl _ _, _, H1.out, IOwn.nil _ _ _ _⟩
  case round =>
    obtain ⟨i, hi, rfl, hG, v, hI, hO⟩ := hrel
    have hll : (constL (PS.take i) false).length = i := by
      have := HR.out.len
      simp [constL]; omega
    obtain ⟨A, cv, rfl⟩ := hO.rd.slice
    have HI := Lib.hid hI
    have HG := Lib.hid hG
    have HO := Lib.hid hO
    clear hI hG hO
    rw [hll] at HO HI
    have hzr := HG.out.size
    by_cases hlt : i < 8
    · have hb : decide ((i : Int) < 8) = true := decide_eq_true (by omega)
      have hcell := HC.out i (by rw [HR.out.len]; exact hlt)
      have hcw := HG.out.cell hcell (by simp; omega)
      have hbd := HR.out.bd i hlt
      obtain ⟨q, hq⟩ := Int.eq_ofNat_of_zero_le (show 0 ≤ PS.getD i 0 by omega)
      have hq64 : q < 18446744073709551616 := by omega
      rw [hq] at hcw
      have ki : wr.cell? ⟨w.heap.size + 1, 0, none⟩ = some (.slice A i cv) := Blk.cell HI.out rfl
      have fi := Blk.frozen HI.out 0
      have HQ := Lib.hid hq
      have HL := Lib.hid hll
      have hnz : w.heap.size + 1 < wr.heap.size := by omega
      have hcz : (constL (PS.take i) false).length + 1 ≤ 9 := by omega
      have ag : (Value.slice A i cv).ownBlock ≠ some (w.heap.size + 1) := fun e => by
        have := (HO.out.lt _ e).1
        omega
      clear hcell hbd hq hll
      go_wp2_with fail
      go_region_law
        (first
          | (refine step_append_ints .u32 w1.heap.size (by rfl) _ _ 22 47 4 (by rfl) Try.underlying22 info_u32 (by omega) (.slice A i cv) (.slice (some ⟨wr.heap.size, 0, none⟩) 1 1) (constL (PS.take i) false) [((rootL q false 38 % 4294967296 : Nat) : Int)] (by rfl) (by rfl) (HO.out.alloc _) (IRd.one wr _ 47) (by simp) (by simp; omega) (by simp [constL]; omega) (wr.heap.size + 1) (by simp) ?_; intro gg cap w3 hown hgr hat hlt3; have f3 := frozen_kept (j := 0) HI.out hgr ag; have HOW := Lib.hid hown; have HI3 := Lib.hid (Blk.grown (show Blk (wr.alloc (.cells #[.int .u32 ((rootL q false 38 % 4294967296 : Nat) : Int)] 47)).drew (w.heap.size + 1) 26 [.slice A i cv, .slice none 0 0, .int .u64 0] from Blk.alloc HI.out _) hgr (fun e => ag e.symm)); have c3 : w3.cell? ⟨w.heap.size + 1, 0, none⟩ = some (.slice A i cv) := Blk.cell HI3.out rfl; have HGR := Lib.hid hgr; clear hown hgr hat)
          | (go_simp; go_at_call 27; refine (root_calls q false hq64 _).mono ?_; rintro e w' ⟨rfl, rfl⟩))
      all_goals
        go_wp2_with fail
        have e3 : constL (PS.take (i + 1)) false = constL (PS.take i) false ++ [((rootL q false 38 % 4294967296 : Nat) : Int)] := constL_snoc false (by rw [HR.out.len]; exact hlt) HQ.out
        have hgn : gg ≠ w.heap.size + 1 := by
          have := (HOW.out.lt gg rfl).1
          omega
        refine ⟨⟨i + 1, by omega, by go_num, ?_, _, Blk.set HI3.out 0 _, ?_⟩, by simp [intOf]; omega⟩
        · refine grown_set ⟨HGR.out.os.trans HG.out.os, HGR.out.tape.trans HG.out.tape, HGR.out.output.trans HG.out.output, ?_, fun k hk hne => ?_⟩ _ _
          · have := HGR.out.size
            simp at this
            omega
          · have h4 := HGR.out.block k (by simp; omega) (fun e => by
              have := (HO.out.lt k e.symm).1
              omega)
            rw [h4]
            show (wr.alloc _).heap[k]? = _
            rw [Below.heap_alloc _ _ _ (by omega)]
            exact HG.out.block k hk hne
        · rw [e3]
          exact HOW.out.grown (row := some (w.heap.size + 1)) (grown_set (grown_refl _ _) 0 _) (.inr (fun e => hgn (by simpa [Value.ownBlock] using e)))
    · obtain rfl : i = 8 := by omega
      have hb : decide (((8 : Nat) : Int) < 8) = false := by decide
      rw [List.take_of_length_le (by rw [HR.out.len]; exact Nat.le_refl _)] at HO hll
      have ki : wr.cell? ⟨w.heap.size + 1, 0, none⟩ = some (.slice A 8 cv) := Blk.cell HI.out rfl
      have ki1 : wr.cell? ⟨w.heap.size + 1, 1, none⟩ = some (.slice none 0 0) := Blk.cell HI.out rfl
      have ki2 : wr.cell? ⟨w.heap.size + 1, 2, none⟩ = some (.int .u64 0) := Blk.cell HI.out rfl
      have H00 := Lib.hid (Blk.grown H0.out HG.out (by simp))
      have k0 : wr.cell? ⟨w.heap.size, 0, none⟩ = some (.slice none 0 0) := Blk.cell H00.out rfl
      have k1 : wr.cell? ⟨w.heap.size, 1, none⟩ = some (.slice none 0 0) := Blk.cell H00.out rfl
      have k2 : wr.cell? ⟨w.heap.size, 2, none⟩ = some (.int .u64 0) := Blk.cell H00.out rfl
      have f0 := Blk.frozen H00.out 0
      have f1 := Blk.frozen H00.out 1
      have f2 := Blk.frozen H00.out 2
      go_wp2_with fail
      refine bodyPost_ret (v := .agg #[.slice A 8 cv, .slice none 0 0, .int .u64 0]) (results_cell_row rfl _ _ w.heap.size _ _ _ _ rfl (Blk.set (Blk.set (Blk.set H00.out 0 _) 1 _) 2 _) Try.underlying26 rfl infoSha) rfl ⟨_, rfl, ?_, ?_⟩
      · exact ((HO.out.base_mono (by omega)).grown (row := some w.heap.size) (grown_set (grown_set (grown_set (grown_refl _ _) 0 _) 1 _) 2 _) (.inr (fun e => by
          have := (HO.out.lt _ e).1
          omega)))
      · exact (((HB0.out.grown HG.out (by omega) (by simp)).setCell (Nat.le_refl _) _).setCell (Nat.le_refl _) _).setCell (Nat.le_refl _) _
end Go.Proofs.Ytejmbkmjonmpcaa
