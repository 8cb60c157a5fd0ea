/- append of a read slice, empty or not, inside a region that draws. -/
import Derived.Test.YtejmbkmjonmpcaaRow
set_option linter.unusedVariables false
namespace Go.Proofs.Ytejmbkmjonmpcaa
open Go.RowKit

theorem run_append_ints {P : Program} (k : IntKind) (W : World) (base : Nat) (t ty e bytes : Nat) (ht : P.underlying t = some (.slice e))
    (hinfo : (P.info? e).map (fun i => (i.zero, i.size, i.bytes)) = some (some (.int k 0), 1, bytes)) (hb0 : 0 < bytes)
    (v vy : Value) (xs ys : List Int) (HO : IOwn k W base e v xs) (HY : IRd k W vy ys) (hbase : base ≤ W.heap.size) (hl : (xs.length + ys.length) * bytes ≤ 140737488355328) :
    ∃ A c w1, (Builtin.append_ #[t, t] ty #[v, vy]).run P W = .ok (.slice A (xs.length + ys.length) c) w1 ∧ IOwn k w1 base e (.slice A (xs.length + ys.length) c) (xs ++ ys) ∧ W.grownBy w1 v.ownBlock ∧
      ((Value.slice A (xs.length + ys.length) c).ownBlock = v.ownBlock ∨ (Value.slice A (xs.length + ys.length) c).ownBlock = some W.heap.size) := by
  obtain ⟨i0, hi, hzz⟩ := Option.map_eq_some_iff.1 hinfo
  simp only [Prod.mk.injEq] at hzz
  obtain ⟨hz0, hz1, hz2⟩ := hzz
  have hlen : xs.length + ys.length ≤ 140737488355328 := Nat.le_trans (Nat.le_mul_of_pos_right _ hb0) hl
  have wrapup : ∀ v1 w1, (Builtin.append_ #[t, t] ty #[v, vy]).run P W = .ok v1 w1 → IOwn k w1 base e v1 (xs ++ ys) → W.grownBy w1 v.ownBlock → (v1.ownBlock = v.ownBlock ∨ v1.ownBlock = some W.heap.size) →
      ∃ A c w1, (Builtin.append_ #[t, t] ty #[v, vy]).run P W = .ok (.slice A (xs.length + ys.length) c) w1 ∧ IOwn k w1 base e (.slice A (xs.length + ys.length) c) (xs ++ ys) ∧ W.grownBy w1 v.ownBlock ∧
      ((Value.slice A (xs.length + ys.length) c).ownBlock = v.ownBlock ∨ (Value.slice A (xs.length + ys.length) c).ownBlock = some W.heap.size) := by
    intro v1 w1 h1 h2 h3 h4
    obtain ⟨A, c, rfl⟩ := h2.rd.slice
    rw [List.length_append] at h1 h2 h4
    exact ⟨A, c, w1, h1, h2, h3, h4⟩
  have go : ∀ (ad : Addr) (c : Nat), vy = .slice (some ad) ys.length c → (∀ j u, (ys.map (Value.int k))[j]? = some u → W.cell? (ad.add j) = some u) → ∃ A c w1, (Builtin.append_ #[t, t] ty #[v, vy]).run P W = .ok (.slice A (xs.length + ys.length) c) w1 ∧ IOwn k w1 base e (.slice A (xs.length + ys.length) c) (xs ++ ys) ∧ W.grownBy w1 v.ownBlock ∧
      ((Value.slice A (xs.length + ys.length) c).ownBlock = v.ownBlock ∨ (Value.slice A (xs.length + ys.length) c).ownBlock = some W.heap.size) := by
    intro ad c hvy hnews
    obtain ⟨v1, w1, hrun, hown, hg, _, hat⟩ := run_append_own_at (P := P) W base t ty e i0 (.int k 0) 1 bytes ht hi hz0 hz1 hz2 rfl (by omega) v xs.length _ HO ad ys.length c (ys.map (Value.int k)) (by simp) hnews (by
      intro u hu
      obtain ⟨y, _, rfl⟩ := List.mem_map.1 hu
      rfl) (by simp only [maxLen]; omega) hl hbase
    rw [← hvy] at hrun
    refine wrapup v1 w1 hrun ?_ hg hat
    show w1.ownsRow base e 1 v1 (xs ++ ys).length ((xs ++ ys).map (Value.int k))
    rw [List.length_append, List.map_append]
    exact hown
  obtain ⟨hyl, ⟨rfl, rfl | ⟨ad, c, rfl⟩⟩ | ⟨b, off, c, rfl, hc⟩⟩ := HY
  · refine wrapup v W (run_append_owned_none (P := P) (w := W) base t ty e i0 1 ht hi v xs.length _ HO) (by rw [List.append_nil]; exact HO) ⟨rfl, rfl, rfl, Nat.le_refl _, fun _ _ _ => rfl⟩ (.inl rfl)
  · exact go ad c rfl (by intro j u hj; simp at hj)
  · refine go ⟨b, off, none⟩ c rfl (fun j u hj => ?_)
    rw [List.getElem?_map] at hj
    obtain ⟨y, hy, rfl⟩ := Option.map_eq_some_iff.1 hj
    have hjl : j < ys.length := (List.getElem?_eq_some_iff.1 hy).1
    have h1 := hc j hjl
    have h2 : ys.getD j 0 = y := by simp [List.getD_eq_getElem?_getD, hy]
    rw [h2] at h1
    have ha : (⟨b, off, none⟩ : Addr).add j = ⟨b, off + j, none⟩ := by unfold Addr.add; split <;> simp_all
    rw [ha]
    exact h1

theorem step_append_any {P : Program} {ops : Array Oper} {o : Oper} {a : Act} {K : Act → World → Prop} {Q : Exit → Act → World → Prop} {E : Prop} {W : World} (k : IntKind) (base : Nat) (hgd : o.guard = none) (s x : Operand) (t e bytes : Nat)
    (ho : o.op = .call { callee := .builtin .append, args := #[s, x], argTypes := #[t, t] }) (ht : P.underlying t = some (.slice e))
    (hinfo : (P.info? e).map (fun i => (i.zero, i.size, i.bytes)) = some (some (.int k 0), 1, bytes)) (hb0 : 0 < bytes)
    (v vy : Value) (xs ys : List Int) (hs : a.eval s = v) (hx : a.eval x = vy) (HO : IOwn k W base e v xs) (HY : IRd k W vy ys) (hbase : base ≤ W.heap.size) (hl : (xs.length + ys.length) * bytes ≤ 140737488355328)
    (h : ∀ A c w1, IOwn k w1 base e (.slice A (xs.length + ys.length) c) (xs ++ ys) → W.grownBy w1 v.ownBlock → ((Value.slice A (xs.length + ys.length) c).ownBlock = v.ownBlock ∨ (Value.slice A (xs.length + ys.length) c).ownBlock = some W.heap.size) → K (a.put o.dst (.slice A (xs.length + ys.length) c)) w1) :
    if Region.wanted o (yielded ops a.tmps) = true then Oper.wp P o a W K Q else E := by
  have hw : Region.wanted o (yielded ops a.tmps) = true := by simp [Region.wanted, hgd]
  rw [if_pos hw]
  obtain ⟨A, c, w1, hrun, hO, hg, hat⟩ := run_append_ints (P := P) k W base t o.type e bytes ht hinfo hb0 v vy xs ys HO HY hbase hl
  unfold Oper.wp
  simp [execOp, ho, resolve, invoke, builtin, hs, hx, hrun, Result.andThen]
  exact h A c w1 hO hg hat
end Go.Proofs.Ytejmbkmjonmpcaa
