/- append onto an empty literal: what is handed back reads as what was appended. -/
import Derived.Test.YtejmbkmjonmpcaaRowMore
import Derived.ArgAppend
import Derived.Deep.RegionLaw
set_option linter.unusedVariables false
namespace Go.Proofs.Ytejmbkmjonmpcaa
open Go.RowKit

/-- A slice value of n elements, 'size' cells each, that reads as these cells. -/
def CRd (size : Nat) (w : World) (v : Value) (n : Nat) (cs : List Value) : Prop :=
  n ≤ 9223372036854775807 ∧ cs.length = n * size ∧ ((n = 0 ∧ (v = .slice none 0 0 ∨ ∃ ad c, v = .slice (some ad) 0 c)) ∨ ∃ b off c, v = .slice (some ⟨b, off, none⟩) n c ∧ ∀ j u, cs[j]? = some u → w.cell? ⟨b, off + j, none⟩ = some u)
theorem CRd.below {size n : Nat} {w w' : World} {v : Value} {cs : List Value} (h : CRd size w v n cs) (hb : Below w.heap.size w w') : CRd size w' v n cs := by
  obtain ⟨h1, h2, h | ⟨b, off, c, rfl, hc⟩⟩ := h
  · exact ⟨h1, h2, .inl h⟩
  · exact ⟨h1, h2, .inr ⟨b, off, c, rfl, fun j u hj => (hb.cell (p := ⟨b, off + j, none⟩) (World.block_lt_of_cell? _ _ (hc j u hj))).trans (hc j u hj)⟩⟩
theorem CRd.slice {size n : Nat} {w : World} {v : Value} {cs : List Value} (h : CRd size w v n cs) : ∃ A c, v = .slice A n c := by
  obtain ⟨_, _, ⟨rfl, rfl | ⟨ad, c, rfl⟩⟩ | ⟨b, off, c, rfl, hc⟩⟩ := h
  · exact ⟨_, _, rfl⟩
  · exact ⟨_, _, rfl⟩
  · exact ⟨_, _, rfl⟩
theorem CRd.ofInts {k : IntKind} {w : World} {v : Value} {xs : List Int} (h : IRd k w v xs) : CRd 1 w v xs.length (xs.map (Value.int k)) := by
  obtain ⟨h1, ⟨rfl, h⟩ | ⟨b, off, c, rfl, hc⟩⟩ := h
  · exact ⟨h1, by simp, .inl ⟨rfl, h⟩⟩
  · refine ⟨h1, by simp, .inr ⟨b, off, c, rfl, fun j u hj => ?_⟩⟩
    rw [List.getElem?_map] at hj
    obtain ⟨y, hy, rfl⟩ := Option.map_eq_some_iff.1 hj
    have h2 := hc j (List.getElem?_eq_some_iff.1 hy).1
    rw [h2]
    simp [List.getD_eq_getElem?_getD, hy]
theorem CRd.toInts {k : IntKind} {w : World} {v : Value} {xs : List Int} (h : CRd 1 w v xs.length (xs.map (Value.int k))) : IRd k w v xs := by
  obtain ⟨h1, _, ⟨h0, h⟩ | ⟨b, off, c, rfl, hc⟩⟩ := h
  · exact ⟨h1, .inl ⟨List.eq_nil_of_length_eq_zero h0, h⟩⟩
  · exact ⟨h1, .inr ⟨b, off, c, rfl, fun j hj => hc j _ (by simp [List.getElem?_eq_getElem hj, List.getD_eq_getElem?_getD])⟩⟩
/-- What owns its cells reads as them. -/
theorem CRd.ofOwn {base e size n : Nat} {w : World} {v : Value} {cs : List Value} (h : w.ownsRow base e size v n cs) : CRd size w v n cs := by
  rcases h.2 with ⟨rfl, h0⟩ | ⟨g, cap, cur, rfl, _, hh, h1, h2, h3, h4⟩
  · exact ⟨by omega, h.1, .inl ⟨h0, .inl rfl⟩⟩
  · unfold maxLen at h2
    refine ⟨by omega, h.1, .inr ⟨g, 0, cap, rfl, fun j u hj => ?_⟩⟩
    rw [Nat.zero_add]
    rw [← h4, List.getElem?_take] at hj
    split at hj
    · simpa [World.cell?, hh] using hj
    · cases hj

theorem IRd.drew {k : IntKind} {w : World} {v : Value} {xs : List Int} (h : IRd k w v xs) : IRd k w.drew v xs := h
theorem Blk.drew {w : World} {g T : Nat} {cs : List Value} (h : Blk w g T cs) : Blk w.drew g T cs := h
theorem addr_add (b off j : Nat) : (⟨b, off, none⟩ : Addr).add j = ⟨b, off + j, none⟩ := by unfold Addr.add; split <;> simp_all

theorem run_append_fresh {P : Program} (size bytes : Nat) (W : World) (t ty e : Nat) (z : Value) (ht : P.underlying t = some (.slice e))
    (hinfo : (P.info? e).map (fun i => (i.zero, i.size, i.bytes)) = some (some z, size, bytes)) (hzs : z.cells.size = size) (hs0 : 0 < size) (hb0 : 0 < bytes)
    (b0 o0 : Nat) (vy : Value) (m : Nat) (cs : List Value) (HY : CRd size W vy m cs) (hl : m * bytes ≤ 140737488355328) :
    ∃ A c w1, (Builtin.append_ #[t, t] ty #[.slice (some ⟨b0, o0, none⟩) 0 0, vy]).run P W = .ok (.slice A m c) w1 ∧ CRd size w1 (.slice A m c) m cs ∧ Below W.heap.size W w1 := by
  obtain ⟨i0, hi, hzz⟩ := Option.map_eq_some_iff.1 hinfo
  simp only [Prod.mk.injEq] at hzz
  obtain ⟨hz0, hz1, hz2⟩ := hzz
  have hlen : m ≤ 140737488355328 := Nat.le_trans (Nat.le_mul_of_pos_right _ hb0) hl
  obtain ⟨h1, h2, ⟨h0, h⟩ | ⟨b, off, c, rfl, hc⟩⟩ := HY
  · subst h0
    have hcs : cs = [] := List.eq_nil_of_length_eq_zero (by omega)
    subst hcs
    refine ⟨some ⟨b0, o0, none⟩, 0, W, ?_, ⟨by omega, by simp, .inl ⟨rfl, .inr ⟨_, _, rfl⟩⟩⟩, Below.refl _ _⟩
    rcases h with rfl | ⟨ad, c, rfl⟩
    · simp [Builtin.append_, run_underlying ht, sizeOf, typeInfo, hi, Builtin.lenOf, Builtin.firstCells, storeCells]
    · have hf := run_firstCells_some (P := P) W i0.size 0 ad 0 c [] (by simp) (by simp)
      simp [Builtin.append_, run_underlying ht, sizeOf, typeInfo, hi, Builtin.lenOf, hf, storeCells]
  · by_cases hm : m = 0
    · subst hm
      have hcs : cs = [] := List.eq_nil_of_length_eq_zero (by omega)
      subst hcs
      refine ⟨some ⟨b0, o0, none⟩, 0, W, ?_, ⟨by omega, by simp, .inl ⟨rfl, .inr ⟨_, _, rfl⟩⟩⟩, Below.refl _ _⟩
      have hf := run_firstCells_some (P := P) W i0.size 0 ⟨b, off, none⟩ 0 c [] (by simp) (by simp)
      simp [Builtin.append_, run_underlying ht, sizeOf, typeInfo, hi, Builtin.lenOf, hf, storeCells]
    · obtain ⟨v', w', hr, hO, hg⟩ := run_append_arg_grows (P := P) W t ty e i0 z size bytes ht hi hz0 hz1 hz2 hzs hs0 ⟨b0, o0, none⟩ 0 0 [] (by simp) (by simp) ⟨b, off, none⟩ m c cs h2 (fun j u hj => by rw [addr_add]; exact hc j u hj) (by omega) (by simp only [maxLen]; omega) (by rwa [Nat.zero_add])
      rw [Nat.zero_add, List.nil_append] at hO
      have hC := CRd.ofOwn hO
      obtain ⟨A, c', rfl⟩ := hC.slice
      exact ⟨A, c', w', hr, hC, ⟨hg.os, hg.tape, hg.output, hg.size, fun k hk => hg.block k hk (by simp)⟩⟩

/-- An empty slice that points somewhere. -/
def emptyLit : Value → Bool
  | .slice (some ⟨_, _, none⟩) 0 0 => true
  | _ => false
theorem emptyLit_form {v : Value} (h : emptyLit v = true) : ∃ b o, v = .slice (some ⟨b, o, none⟩) 0 0 := by
  unfold emptyLit at h
  split at h
  · exact ⟨_, _, rfl⟩
  · cases h

theorem step_append_fresh {P : Program} {ops : Array Oper} {o : Oper} {a : Act} {K : Act → World → Prop} {Q : Exit → Act → World → Prop} {E : Prop} {W : World} (k : IntKind) (hgd : o.guard = none) (s x : Operand) (t e bytes : Nat)
    (ho : o.op = .call { callee := .builtin .append, args := #[s, x], argTypes := #[t, t] }) (ht : P.underlying t = some (.slice e))
    (hinfo : (P.info? e).map (fun i => (i.zero, i.size, i.bytes)) = some (some (.int k 0), 1, bytes)) (hb0 : 0 < bytes)
    (vy : Value) (ys : List Int) (hse : emptyLit (a.eval s) = true) (hx : a.eval x = vy) (HY : IRd k W vy ys) (hl : ys.length * bytes ≤ 140737488355328)
    (h : ∀ A c w1, IRd k w1 (.slice A ys.length c) ys → Below W.heap.size W w1 → K (a.put o.dst (.slice A ys.length c)) w1) :
    if Region.wanted o (yielded ops a.tmps) = true then Oper.wp P o a W K Q else E := by
  have hw : Region.wanted o (yielded ops a.tmps) = true := by simp [Region.wanted, hgd]
  rw [if_pos hw]
  obtain ⟨b0, o0, hs⟩ := emptyLit_form hse
  obtain ⟨A, c, w1, hrun, hO, hg⟩ := run_append_fresh (P := P) 1 bytes W t o.type e (.int k 0) ht hinfo rfl (by omega) hb0 b0 o0 vy ys.length _ (CRd.ofInts HY) hl
  unfold Oper.wp
  simp [execOp, ho, resolve, invoke, builtin, hs, hx, hrun, Result.andThen]
  exact h A c w1 (CRd.toInts hO) hg
end Go.Proofs.Ytejmbkmjonmpcaa
