/- The reference's Check, New and Write. -/
import Derived.Test.YtejmbkmjonmpcaaShaSame
import Derived.Test.YtejmbkmjonmpcaaRowMore
set_option linter.unusedVariables false
set_option linter.unusedSimpArgs false
namespace Go.Proofs.Ytejmbkmjonmpcaa
open Go.RowKit

set_option maxRecDepth 100000 in
set_option maxHeartbeats 1600000 in
theorem rcheck_calls (A B : Option Addr) (h b ch cb : Nat) (n : Int) (hb : b ≤ 9223372036854775807) (hn : 0 ≤ n) (w : World) :
    Calls Try.prog 13 #[.agg #[.slice A h ch, .slice B b cb, .int .u64 n]] w fun e w' => e = .returned (.bool (checkS h b n)) ∧ Below w.heap.size w w' := by
  by_cases h1 : h = 8
  · have c1 : ((h : Int) == 8) = true := by simp; omega
    by_cases h2 : b < 64
    · have c2 : decide ((b : Int) < 64) = true := by simp; omega
      go_enter Try.func13, Try.ntmps13
      go_wp2_with fail
      go_ret
      refine ⟨?_, (Below.refl _ _).alloc (Nat.le_refl _) _⟩
      simp [checkS, h1, h2]
    · have c2 : decide ((b : Int) < 64) = false := by simp; omega
      go_enter Try.func13, Try.ntmps13
      go_wp2_with fail
      go_ret
      refine ⟨?_, (Below.refl _ _).alloc (Nat.le_refl _) _⟩
      simp [checkS, h2]
  · have c1 : ((h : Int) == 8) = false := by simp; omega
    go_enter Try.func13, Try.ntmps13
    go_wp2_with fail
    go_ret
    refine ⟨?_, (Below.refl _ _).alloc (Nat.le_refl _) _⟩
    simp [checkS, h1]

theorem rcheck_val (v : Value) (hs bs : List Int) (n : Int) (w : World) (hv : ShaV w v hs bs n) (hn : 0 ≤ n) :
    Calls Try.prog 13 #[v] w fun e w' => e = .returned (.bool (checkS hs.length bs.length n)) ∧ Below w.heap.size w w' := by
  obtain ⟨vh, vb, rfl, h1, h2⟩ := hv
  obtain ⟨A, ch, rfl⟩ := h1.slice
  obtain ⟨B, cb, rfl⟩ := h2.slice
  exact rcheck_calls A B _ _ ch cb n h2.1 hn w

theorem IRd.lit (k : IntKind) (w : World) (e g : Nat) (hs : List Int) (h : w.heap.size = g) (hl : hs.length ≤ 9223372036854775807) :
    IRd k (w.alloc (.cells (hs.map (Value.int k)).toArray e)) (.slice (some ⟨g, 0, none⟩) hs.length hs.length) hs := by
  subst h
  refine ⟨hl, .inr ⟨w.heap.size, 0, hs.length, rfl, fun j hj => ?_⟩⟩
  rw [Nat.zero_add]
  exact (IBlk.new k w hs e).cell hj

set_option maxRecDepth 100000 in
set_option maxHeartbeats 1600000 in
theorem rnew_val (w : World) : Calls Try.prog 15 #[] w fun e w' => ∃ v', e = .returned v' ∧ ShaV w' v' H0 [] 0 ∧ Below w.heap.size w w' := by
  go_enter Try.func15, Try.ntmps15
  go_wp2_with fail
  refine bodyPost_ret (v := .agg #[.slice (some ⟨w.heap.size + 1, 0, none⟩) 8 8, .slice none 0 0, .int .u64 0]) (results_cell_row rfl _ _ w.heap.size _ _ _ _ rfl (Blk.alloc (Blk.new w [.slice (some ⟨w.heap.size + 1, 0, none⟩) 8 8, .slice none 0 0, .int .u64 0] 26) _) Try.underlying26 rfl infoSha) rfl ⟨_, rfl, ⟨_, _, rfl, ?_, ?_⟩, ?_⟩
  · exact IRd.lit .u32 _ 47 (w.heap.size + 1) H0 (by simp) (by decide)
  · exact ⟨by simp, .inl ⟨rfl, .inl rfl⟩⟩
  · exact ((Below.refl _ _).alloc (Nat.le_refl _) _).alloc (by simp) _
end Go.Proofs.Ytejmbkmjonmpcaa
