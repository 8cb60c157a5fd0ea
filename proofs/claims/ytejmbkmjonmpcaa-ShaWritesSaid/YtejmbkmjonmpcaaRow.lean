/- Slices of whole numbers: read ones, owned ones. -/
import Derived.Test.YtejmbkmjonmpcaaBlk
import Derived.Maps.AppendAt
import Derived.Laws.AppendOwnNone
import Derived.OwnWalk
import Derived.Deep.AppendLies
namespace Go.Proofs.Ytejmbkmjonmpcaa
open Go.RowKit

/-- A slice value that reads as these whole numbers. -/
def IRd (k : IntKind) (w : World) (v : Value) (xs : List Int) : Prop :=
  xs.length ≤ 9223372036854775807 ∧ ((xs = [] ∧ (v = .slice none 0 0 ∨ ∃ ad c, v = .slice (some ad) 0 c)) ∨ ∃ b off c, v = .slice (some ⟨b, off, none⟩) xs.length c ∧ ∀ j, j < xs.length → w.cell? ⟨b, off + j, none⟩ = some (.int k (xs.getD j 0)))
theorem IRd.below {k : IntKind} {w w' : World} {v : Value} {xs : List Int} (h : IRd k w v xs) (hb : Below w.heap.size w w') : IRd k w' v xs := by
  obtain ⟨hl, h | ⟨b, off, c, rfl, hc⟩⟩ := h
  · exact ⟨hl, .inl h⟩
  · exact ⟨hl, .inr ⟨b, off, c, rfl, fun j hj => (hb.cell (p := ⟨b, off + j, none⟩) (World.block_lt_of_cell? _ _ (hc j hj))).trans (hc j hj)⟩⟩
theorem IRd.drewN {k : IntKind} {w : World} {v : Value} {xs : List Int} (h : IRd k w v xs) (n : Nat) : IRd k (w.drewN n) v xs := h
theorem IRd.slice {k : IntKind} {w : World} {v : Value} {xs : List Int} (h : IRd k w v xs) : ∃ A c, v = .slice A xs.length c := by
  obtain ⟨hl, ⟨rfl, rfl | ⟨ad, c, rfl⟩⟩ | ⟨b, off, c, rfl, hc⟩⟩ := h
  · exact ⟨none, 0, rfl⟩
  · exact ⟨_, c, rfl⟩
  · exact ⟨_, c, rfl⟩
/-- A row of the call's own, of whole numbers. -/
def IOwn (k : IntKind) (w : World) (base e : Nat) (v : Value) (xs : List Int) : Prop := w.ownsRow base e 1 v xs.length (xs.map (Value.int k))
theorem IOwn.rd {k : IntKind} {w : World} {base e : Nat} {v : Value} {xs : List Int} (h : IOwn k w base e v xs) : IRd k w v xs := by
  rcases h.2 with ⟨rfl, h0⟩ | ⟨g, cap, cur, rfl, _, hh, h1, h2, h3, h4⟩
  · have : xs = [] := List.eq_nil_of_length_eq_zero h0
    exact ⟨by omega, .inl ⟨this, .inl rfl⟩⟩
  · unfold maxLen at h2
    refine ⟨by omega, .inr ⟨g, 0, cap, rfl, fun j hj => ?_⟩⟩
    have h5 : (cur.toList.take (xs.length * 1))[j]? = some (.int k (xs.getD j 0)) := by
      rw [h4]; simp [List.getElem?_eq_getElem hj, List.getD_eq_getElem?_getD]
    rw [List.getElem?_take] at h5
    simp only [Nat.mul_one, hj, if_true] at h5
    rw [Nat.zero_add]
    simpa [World.cell?, hh] using h5
theorem IOwn.form {k : IntKind} {w : World} {base e : Nat} {v : Value} {xs : List Int} (h : IOwn k w base e v xs) (hp : 0 < xs.length) :
    ∃ g c, v = .slice (some ⟨g, 0, none⟩) xs.length c ∧ base ≤ g ∧ g < w.heap.size ∧ ∀ j, j < xs.length → w.cell? ⟨g, j, none⟩ = some (.int k (xs.getD j 0)) := by
  have hr := h.rd
  rcases h.2 with ⟨rfl, h0⟩ | ⟨g, cap, cur, rfl, hb, hh, _⟩
  · omega
  · refine ⟨g, cap, rfl, hb, (Array.getElem?_eq_some_iff.1 hh).1, fun j hj => ?_⟩
    obtain ⟨_, ⟨h1, _⟩ | ⟨b, off, c, he, hc⟩⟩ := hr
    · rw [h1] at hp; simp at hp
    · have h2 := hc j hj
      simp only [Value.slice.injEq, Option.some.injEq, Addr.mk.injEq] at he
      obtain ⟨⟨rfl, rfl, _⟩, _⟩ := he
      rw [Nat.zero_add] at h2
      exact h2
theorem IOwn.cap {k : IntKind} {w : World} {base e n c : Nat} {A : Option Addr} {xs : List Int} (h : IOwn k w base e (.slice A n c) xs) : xs.length ≤ c ∧ c ≤ 9223372036854775807 := by
  rcases h.2 with ⟨h1, h0⟩ | ⟨g, cap, cur, h1, hb, hh, h2, h3, _⟩
  · simp only [Value.slice.injEq] at h1
    omega
  · simp only [Value.slice.injEq] at h1
    unfold maxLen at h3
    omega
theorem IOwn.below {k : IntKind} {w w' : World} {base e : Nat} {v : Value} {xs : List Int} (h : IOwn k w base e v xs) (hb : Below w.heap.size w w') : IOwn k w' base e v xs :=
  World.ownsRow.kept h (row := none) ⟨hb.os, hb.tape, hb.output, hb.size, fun i hi _ => hb.block i hi⟩ (by cases v.ownBlock <;> simp)
theorem IOwn.drewN {k : IntKind} {w : World} {base e : Nat} {v : Value} {xs : List Int} (h : IOwn k w base e v xs) (n : Nat) : IOwn k (w.drewN n) base e v xs := h
theorem IOwn.nil (k : IntKind) (w : World) (base e : Nat) : IOwn k w base e (.slice none 0 0) [] := World.ownsRow_nil _ _ _ _

theorem IOwn.lt {k : IntKind} {w : World} {base e : Nat} {v : Value} {xs : List Int} (h : IOwn k w base e v xs) : ∀ g, v.ownBlock = some g → base ≤ g ∧ g < w.heap.size := World.ownsRow.lt h
/-- What is written is another block. -/
theorem IOwn.grown {k : IntKind} {w w' : World} {base e : Nat} {v : Value} {xs : List Int} (h : IOwn k w base e v xs) {row : Option Nat} (hg : w.grownBy w' row) (hne : v.ownBlock = none ∨ v.ownBlock ≠ row) : IOwn k w' base e v xs :=
  World.ownsRow.kept h hg hne
theorem IOwn.alloc {k : IntKind} {w : World} {base e : Nat} {v : Value} {xs : List Int} (h : IOwn k w base e v xs) (o : Obj) : IOwn k (w.alloc o) base e v xs :=
  World.ownsRow.alloc h o
theorem IOwn.base_mono {k : IntKind} {w : World} {base base' e : Nat} {v : Value} {xs : List Int} (h : IOwn k w base e v xs) (hb : base' ≤ base) : IOwn k w base' e v xs := by
  refine ⟨h.1, ?_⟩
  rcases h.2 with h | ⟨g, cap, cur, h1, h2, h3⟩
  · exact .inl h
  · exact .inr ⟨g, cap, cur, h1, Nat.le_trans hb h2, h3⟩
theorem IRd.alloc {k : IntKind} {w : World} {v : Value} {xs : List Int} (h : IRd k w v xs) (o : Obj) : IRd k (w.alloc o) v xs :=
  h.below ((Below.refl _ _).alloc (Nat.le_refl _) o)
theorem IRd.one {k : IntKind} (w : World) (y : Int) (e : Nat) : IRd k (w.alloc (.cells #[.int k y] e)) (.slice (some ⟨w.heap.size, 0, none⟩) 1 1) [y] := by
  refine ⟨by simp, .inr ⟨w.heap.size, 0, 1, rfl, fun j hj => ?_⟩⟩
  have : j = 0 := by simpa using hj
  subst this
  exact Blk.cell (Blk.new w [.int k y] e) rfl
theorem grown_below {B : Nat} {w0 w w' : World} {row : Option Nat} (h : Below B w0 w) (hg : w.grownBy w' row) (hB : B ≤ w.heap.size) (hr : ∀ g, row = some g → B ≤ g) : Below B w0 w' := h.grown hg hB hr

/-- 'append(x, ys...)': x owned, ys read (nil, empty or not). -/
theorem wpList_append_ints {P : Program} {ops : Array Oper} {rest : List Oper} {o : Oper} {a : Act} {Q : Exit → Act → World → Prop} {W : World} (k : IntKind) (base : Nat) (hgd : o.guard = none) (s x : Operand) (t e bytes : Nat)
    (ho : o.op = .call { callee := .builtin .append, args := #[s, x], argTypes := #[t, t] }) (ht : P.underlying t = some (.slice e))
    (hinfo : (P.info? e).map (fun i => (i.zero, i.size, i.bytes)) = some (some (.int k 0), 1, bytes)) (hb0 : 0 < bytes)
    (v vy : Value) (xs ys : List Int) (hs : a.eval s = v) (hx : a.eval x = vy) (HO : IOwn k W base e v xs) (HY : IRd k W vy ys) (hbase : base ≤ W.heap.size) (hl : (xs.length + ys.length) * bytes ≤ 140737488355328)
    (h : ∀ v1 w1, IOwn k w1 base e v1 (xs ++ ys) → W.grownBy w1 v.ownBlock → (v1.ownBlock = v.ownBlock ∨ v1.ownBlock = some W.heap.size) → wpList P ops Q rest (a.put o.dst v1) w1) :
    wpList P ops Q (o :: rest) a W := by
  obtain ⟨i0, hi, hzz⟩ := Option.map_eq_some_iff.1 hinfo
  simp only [Prod.mk.injEq] at hzz
  obtain ⟨hz0, hz1, hz2⟩ := hzz
  have hlen : xs.length + ys.length ≤ 140737488355328 := Nat.le_trans (Nat.le_mul_of_pos_right _ hb0) hl
  have go : ∀ (ad : Addr) (c : Nat), vy = .slice (some ad) ys.length c → (∀ j u, (ys.map (Value.int k))[j]? = some u → W.cell? (ad.add j) = some u) → wpList P ops Q (o :: rest) a W := by
    intro ad c hvy hnews
    refine wpList_append_own_at W hgd s x t ho base e i0 (.int k 0) 1 bytes ht hi hz0 hz1 hz2 rfl (by omega) v xs.length _ hs HO ad ys.length c (ys.map (Value.int k)) (hx.trans hvy) (by simp) hnews (by
      intro u hu
      obtain ⟨y, _, rfl⟩ := List.mem_map.1 hu
      rfl) (by simp only [maxLen]; omega) hl hbase ?_
    intro v1 w1 hown hg _ hat
    refine h v1 w1 ?_ hg hat
    show w1.ownsRow base e 1 v1 (xs ++ ys).length ((xs ++ ys).map (Value.int k))
    rw [List.length_append, List.map_append]
    exact hown
  obtain ⟨hyl, ⟨rfl, rfl | ⟨ad, c, rfl⟩⟩ | ⟨b, off, c, rfl, hc⟩⟩ := HY
  · refine wpList_append_own_none hgd s x t ho base e i0 1 ht hi v xs.length _ hs HO hx (h v W ?_ ⟨rfl, rfl, rfl, Nat.le_refl _, fun _ _ _ => rfl⟩ (.inl rfl))
    rw [List.append_nil]; exact HO
  · exact go ad c rfl (by intro j u hj; simp at hj)
  · refine go ⟨b, off, none⟩ c rfl (fun j u hj => ?_)
    rw [List.getElem?_map] at hj
    obtain ⟨y, hy, rfl⟩ := Option.map_eq_some_iff.1 hj
    have hjl : j < ys.length := (List.getElem?_eq_some_iff.1 hy).1
    have h1 := hc j hjl
    have h2 : ys.getD j 0 = y := by simp [List.getD_eq_getElem?_getD, hy]
    rw [h2] at h1
    have ha : (⟨b, off, none⟩ : Addr).add j = ⟨b, off + j, none⟩ := by unfold Addr.add; split <;> simp_all
    rw [ha]
    exact h1
/-- 'append(x, y)', behind the one-cell block that the call laid for y. -/
theorem wpList_append_one {P : Program} {ops : Array Oper} {rest : List Oper} {o : Oper} {a : Act} {Q : Exit → Act → World → Prop} {W : World} (k : IntKind) (base : Nat) (hgd : o.guard = none) (s x : Operand) (t e bytes : Nat)
    (ho : o.op = .call { callee := .builtin .append, args := #[s, x], argTypes := #[t, t] }) (ht : P.underlying t = some (.slice e))
    (hinfo : (P.info? e).map (fun i => (i.zero, i.size, i.bytes)) = some (some (.int k 0), 1, bytes)) (hb0 : 0 < bytes)
    (v : Value) (xs : List Int) (y : Int) (hs : a.eval s = v) (hx : a.eval x = .slice (some ⟨W.heap.size, 0, none⟩) 1 1) (HO : IOwn k W base e v xs) (hbase : base ≤ W.heap.size) (hl : (xs.length + 1) * bytes ≤ 140737488355328)
    (h : ∀ v1 w1, IOwn k w1 base e v1 (xs ++ [y]) → W.grownBy w1 v.ownBlock → (v1.ownBlock = v.ownBlock ∨ ∃ g, v1.ownBlock = some g ∧ W.heap.size ≤ g) → wpList P ops Q rest (a.put o.dst v1) w1) :
    wpList P ops Q (o :: rest) a (W.alloc (.cells #[.int k y] e)) := by
  refine wpList_append_ints k base hgd s x t e bytes ho ht hinfo hb0 v _ xs [y] hs hx (HO.alloc _) (IRd.one W y e) (by simp; omega) (by simpa using hl) fun v1 w1 hown hg hat => h v1 w1 hown (World.grownBy.trans (World.grownBy_alloc W _ _) hg) ?_
  rcases hat with hat | hat
  · exact .inl hat
  · exact .inr ⟨_, hat, by simp⟩

/-- 'append(x, ys...)' inside a region that draws; ys not empty. -/
theorem step_append_ints {P : Program} {ops : Array Oper} {o : Oper} {a : Act} {K : Act → World → Prop} {Q : Exit → Act → World → Prop} {E : Prop} {W : World} (k : IntKind) (base : Nat) (hgd : o.guard = none) (s x : Operand) (t e bytes : Nat)
    (ho : o.op = .call { callee := .builtin .append, args := #[s, x], argTypes := #[t, t] }) (ht : P.underlying t = some (.slice e))
    (hinfo : (P.info? e).map (fun i => (i.zero, i.size, i.bytes)) = some (some (.int k 0), 1, bytes)) (hb0 : 0 < bytes)
    (v vy : Value) (xs ys : List Int) (hs : a.eval s = v) (hx : a.eval x = vy) (HO : IOwn k W base e v xs) (HY : IRd k W vy ys) (hpos : 0 < ys.length) (hbase : base ≤ W.heap.size) (hl : (xs.length + ys.length) * bytes ≤ 140737488355328) (H : Nat) (hH : W.heap.size = H)
    (h : ∀ g cap w1, IOwn k w1 base e (.slice (some ⟨g, 0, none⟩) (xs.length + ys.length) cap) (xs ++ ys) → W.grownBy w1 v.ownBlock → (v.ownBlock = some g ∨ g = H) → g < w1.heap.size → K (a.put o.dst (.slice (some ⟨g, 0, none⟩) (xs.length + ys.length) cap)) w1) :
    if Region.wanted o (yielded ops a.tmps) = true then Oper.wp P o a W K Q else E := by
  obtain ⟨i0, hi, hzz⟩ := Option.map_eq_some_iff.1 hinfo
  simp only [Prod.mk.injEq] at hzz
  obtain ⟨hz0, hz1, hz2⟩ := hzz
  have hlen : xs.length + ys.length ≤ 140737488355328 := Nat.le_trans (Nat.le_mul_of_pos_right _ hb0) hl
  obtain ⟨hyl, ⟨rfl, _⟩ | ⟨b, off, c, rfl, hc⟩⟩ := HY
  · simp at hpos
  · refine step_append_lies W hgd s x t ho base e i0 (.int k 0) 1 bytes ht hi hz0 hz1 hz2 rfl (by omega) v xs.length _ hs HO ⟨b, off, none⟩ ys.length c (ys.map (Value.int k)) hx (by simp) (fun j u hj => ?_) (by
      intro u hu
      obtain ⟨y, _, rfl⟩ := List.mem_map.1 hu
      rfl) hpos (by simp only [maxLen]; omega) hl hbase H hH ?_
    · rw [List.getElem?_map] at hj
      obtain ⟨y, hy, rfl⟩ := Option.map_eq_some_iff.1 hj
      have hjl : j < ys.length := (List.getElem?_eq_some_iff.1 hy).1
      have h1 := hc j hjl
      have h2 : ys.getD j 0 = y := by simp [List.getD_eq_getElem?_getD, hy]
      rw [h2] at h1
      have ha : (⟨b, off, none⟩ : Addr).add j = ⟨b, off + j, none⟩ := by unfold Addr.add; split <;> simp_all
      rw [ha]
      exact h1
    · intro g cap w1 hown hg hat hlt
      refine h g cap w1 ?_ hg hat hlt
      show w1.ownsRow base e 1 _ (xs ++ ys).length ((xs ++ ys).map (Value.int k))
      rw [List.length_append, List.map_append]
      exact hown
end Go.Proofs.Ytejmbkmjonmpcaa
