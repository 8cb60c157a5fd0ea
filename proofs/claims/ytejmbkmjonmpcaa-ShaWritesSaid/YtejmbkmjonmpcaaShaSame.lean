/- The reference's Same functions, on what reads the same. -/
import Derived.Test.YtejmbkmjonmpcaaShaSum
import Derived.Laws.BytesArg
set_option linter.unusedVariables false
set_option linter.unusedSimpArgs false
namespace Go.Proofs.Ytejmbkmjonmpcaa
open Go.RowKit

set_option maxRecDepth 100000 in
theorem str_conv (A : Option Addr) (n c : Nat) (xs : List Int) (w : World) (h : IRd .u8 w (.slice A n c) xs) : (convert 23 9 (.slice A n c)).run Try.prog w = .ok (.string (strOfNums xs)) w := by
  obtain ⟨_, ⟨rfl, h⟩ | ⟨b, off, c', he, hc⟩⟩ := h
  · have e0 : strOfNums [] = ByteArray.empty := rfl
    rw [e0]
    have hn : n = 0 := by
      rcases h with h | ⟨ad, c1, h⟩ <;> (injection h)
    subst hn
    rw [run_convert_bytes_string w 23 9 5 A 0 c Try.underlying23 Try.underlying5 Try.underlying9]
    cases A with
    | none => simp [Conv.bytesToString]
    | some ad => simp [Conv.bytesToString, loadCells, loadCellsFrom]
  · injection he with h1 h2 h3
    subst h1 h2 h3
    exact run_convert_bytes_arg w 23 5 Try.underlying23 Try.underlying5 b off _ _ xs rfl hc _ Try.underlying9

theorem same2_calls (a b : Value) (xs : List Int) (w : World) (ha : IRd .u8 w a xs) (hb : IRd .u8 w b xs) :
    Calls Try.prog 9 #[a, b] w fun e w' => e = .returned (.bool true) ∧ Below w.heap.size w w' := by
  obtain ⟨A, ca, rfl⟩ := ha.slice
  obtain ⟨B, cb, rfl⟩ := hb.slice
  have c1 := str_conv A xs.length ca xs w ha
  have c2 := str_conv B xs.length cb xs w hb
  clear ha hb
  generalize strOfNums xs = S at c1 c2
  go_enter Try.func9, Try.ntmps9
  go_wp2_with fail
  go_ret
  exact ⟨by simp, Below.refl _ _⟩

set_option maxRecDepth 100000 in
set_option maxHeartbeats 2000000 in
theorem same4_calls (a b : Value) (hs bs : List Int) (n : Int) (w : World) (ha : ShaV w a hs bs n) (hb : ShaV w b hs bs n) :
    Calls Try.prog 8 #[a, b] w fun e w' => e = .returned (.bool true) ∧ Below w.heap.size w w' := by
  obtain ⟨vh, vb, rfl, h1, h2⟩ := ha
  obtain ⟨uh, ub, rfl, h3, h4⟩ := hb
  obtain ⟨A, ca, rfl⟩ := h1.slice
  obtain ⟨B, cb, rfl⟩ := h2.slice
  obtain ⟨C, cc, rfl⟩ := h3.slice
  obtain ⟨D, cd, rfl⟩ := h4.slice
  have H1 := Lib.hid h1
  have H2 := Lib.hid h2
  have H3 := Lib.hid h3
  have H4 := Lib.hid h4
  have hl := h1.1
  clear h1 h2 h3 h4
  go_enter Try.func8, Try.ntmps8
  go_wp2_with fail
  refine wp_world (fun wo => Blk wo w.heap.size 26 [.slice A hs.length ca, .slice B bs.length cb, .int .u64 n] ∧ Blk wo (w.heap.size + 1) 26 [.slice C hs.length cc, .slice D bs.length cd, .int .u64 n] ∧ Below w.heap.size w wo)
    ⟨(Blk.new w [.slice A hs.length ca, .slice B bs.length cb, .int .u64 n] 26).alloc _, by simpa using Blk.new (w.alloc (.cells #[.slice A hs.length ca, .slice B bs.length cb, .int .u64 n] 26)) [.slice C hs.length cc, .slice D bs.length cd, .int .u64 n] 26, ((Below.refl _ _).alloc (Nat.le_refl _) _).alloc (by simp) _⟩ ?_
  rintro wo ⟨hb1, hb2, hB0⟩
  have HB1 := Lib.hid hb1
  have HB2 := Lib.hid hb2
  have HB0 := Lib.hid hB0
  clear hb1 hb2 hB0
  go_loopw [5] (fun s5 wr => ∃ i m : Nat, i ≤ hs.length ∧ s5 = .int .i64 (i : Int) ∧ wr = wo.drewN m)
    (fun s5 _ => hs.length - (intOf s5).toNat)
  case atStart => exact ⟨0, 0, by omega, rfl, rfl⟩
  case round =>
    obtain ⟨i, m, hi, rfl, hm⟩ := hrel
    have HM := Lib.hid hm
    have k10 : wr.cell? ⟨w.heap.size, 0, none⟩ = some (.slice A hs.length ca) := by rw [hm]; exact Blk.cell (j := 0) HB1.out rfl
    have k11 : wr.cell? ⟨w.heap.size, 1, none⟩ = some (.slice B bs.length cb) := by rw [hm]; exact Blk.cell (j := 1) HB1.out rfl
    have k12 : wr.cell? ⟨w.heap.size, 2, none⟩ = some (.int .u64 n) := by rw [hm]; exact Blk.cell (j := 2) HB1.out rfl
    have k20 : wr.cell? ⟨w.heap.size + 1, 0, none⟩ = some (.slice C hs.length cc) := by rw [hm]; exact Blk.cell (j := 0) HB2.out rfl
    have k21 : wr.cell? ⟨w.heap.size + 1, 1, none⟩ = some (.slice D bs.length cd) := by rw [hm]; exact Blk.cell (j := 1) HB2.out rfl
    have k22 : wr.cell? ⟨w.heap.size + 1, 2, none⟩ = some (.int .u64 n) := by rw [hm]; exact Blk.cell (j := 2) HB2.out rfl
    have hBr : Below w.heap.size w wr := by rw [hm]; exact below_drewN' HB0.out m
    have HBr := Lib.hid hBr
    clear hm hBr
    by_cases hih : i < hs.length
    · have hb : decide ((i : Int) < (hs.length : Int)) = true := decide_eq_true (by omega)
      have f1 := (H1.out.below HBr.out).2
      have f3 := (H3.out.below HBr.out).2
      rcases f1 with ⟨f1, _⟩ | ⟨b1, o1, c1, f1, g1⟩
      · rw [f1] at hih; simp at hih
      rcases f3 with ⟨f3, _⟩ | ⟨b3, o3, c3, f3, g3⟩
      · rw [f3] at hih; simp at hih
      injection f1 with f1 _ e1
      injection f3 with f3 _ e3
      subst f1 f3 e1 e3
      have q1 := g1 i hih
      have q3 := g3 i hih
      clear g1 g3
      generalize hs.getD i 0 = x at q1 q3
      go_wp2_with fail
      go_quiet (fail)
      go_wp2_with fail
      go_roundw
      case rel => exact ⟨i + 1, m + nq, by omega, by go_num, by rw [HM.out, World.drewN_drewN]⟩
      case measure => simp [intOf]; omega
    · obtain rfl : i = hs.length := by omega
      have hb : decide ((hs.length : Int) < (hs.length : Int)) = false := decide_eq_false (by omega)
      have c2 := str_conv B bs.length cb bs wr (H2.out.below HBr.out)
      have c4 := str_conv D bs.length cd bs wr (H4.out.below HBr.out)
      generalize strOfNums bs = S at c2 c4
      go_wp2_with fail
      go_ret
      exact ⟨by simp, HBr.out⟩
end Go.Proofs.Ytejmbkmjonmpcaa
