/- What came in, opened: slices of whole numbers as lists. -/
import Derived.Test.YtejmbkmjonmpcaaRow
import Derived.OpenShut
import Derived.SizedLaws
import Derived.ChangeSlices
import Derived.WalkKit
import Derived.ProofKit
import Derived.ShutString
import Derived.ChangeOld
set_option linter.unusedVariables false
namespace Go.Proofs.Ytejmbkmjonmpcaa
open Go.ChangeShapes Go.WideShapes Go.ChangeAt Go.RowKit

theorem IRd.ofTrod {H : Type} {enc : TypeId × Value → H} {P : Program} {w : World} {base fuel : Nat} {held : Bool} {t e : TypeId} {k : IntKind} {cs : List Value} {y : DataW H × List MemPlace}
    (hu : P.underlying t = some (.slice e)) (he : P.underlying e = some (.int k)) (hc : P.cellsOf e = 1) (h : DataW.trod enc P w base (fun _ => true) held fuel t cs = some y) :
    ∃ v xs, cs = [v] ∧ IRd k w v xs ∧ (∀ x ∈ xs, (Lit.int k x).wf = true) ∧ ((y.1 = .nil ∧ xs = []) ∨ ∃ es sp, y.1 = .slice es sp ∧ es.length = xs.length) := by
  rcases open_ints hu he hc h with ⟨hcs, rfl⟩ | ⟨a, len, cap, zs, hcs, _, hl, hm, hz, rfl, hcell, hwz⟩
  · exact ⟨_, [], hcs, ⟨by simp, .inl ⟨rfl, .inl rfl⟩⟩, by simp, .inl ⟨rfl, rfl⟩⟩
  · simp only [if_true] at hz
    have hlen : (zs.take len).length = len := by rw [List.length_take]; omega
    refine ⟨_, zs.take len, hcs, ?_, fun x hx => hwz x (List.mem_of_mem_take hx), .inr ⟨_, _, rfl, by simp [lits]⟩⟩
    unfold maxLen at hm
    by_cases h0 : len = 0
    · subst h0
      exact ⟨by omega, .inl ⟨by simp, .inr ⟨a, cap, rfl⟩⟩⟩
    · obtain ⟨b, off, rfl, hc'⟩ := ints_at hcell (by omega)
      refine ⟨by omega, .inr ⟨b, off, cap, by rw [hlen], fun j hj => ?_⟩⟩
      rw [hlen] at hj
      rw [hc' j (by omega)]
      simp [List.getD_eq_getElem?_getD, List.getElem?_take, hj]

theorem bytes_of_wf {xs : List Int} (h : ∀ x ∈ xs, (Lit.int .u8 x).wf = true) : ∀ x ∈ xs, 0 ≤ x ∧ x ≤ 255 := fun x hx => bounds_u8 (h x hx)

/-- A field's slice is no longer than its weight allows. -/
theorem weigh_slice {H : Type} {P : Program} {t e : TypeId} {d : DataW H} {xs : List Int} {B : Nat} {ws : List Nat} (hw : ∀ m ∈ d.weights P t, m ∈ ws) (hall : ws.all (· ≤ reachBytes) = true) (hu : P.underlying t = some (.slice e)) (hB : P.bytesOf e = B)
    (h : (d = .nil ∧ xs = []) ∨ ∃ es sp, d = .slice es sp ∧ es.length = xs.length) : xs.length * B ≤ 140737488351232 := by
  rcases h with ⟨_, rfl⟩ | ⟨es, sp, rfl, hl⟩
  · simp
  · have h1 := List.all_eq_true.1 hall _ (hw ((es.length + sp.length) * P.bytesOf e) (by simp [DataW.weights, hu]))
    have h2 : (es.length + sp.length) * P.bytesOf e ≤ reachBytes := by simpa using h1
    rw [hB] at h2
    rw [← hl]
    exact Nat.le_trans (Nat.mul_le_mul_right _ (by omega)) h2
end Go.Proofs.Ytejmbkmjonmpcaa
