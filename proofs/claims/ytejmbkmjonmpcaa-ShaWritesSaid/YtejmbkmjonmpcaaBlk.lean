/- Small words on blocks of cells that are known whole. -/
import Derived.WalkKit
import Derived.KernelRfl
import Derived.Laws.AppendOwn
import Derived.OwnWalk
import Derived.Deep.Draws
namespace Go.Proofs.Ytejmbkmjonmpcaa
open Go.RowKit

/-- Block g holds just these cells, and may be written. -/
def Blk (w : World) (g : Nat) (T : Nat) (cs : List Value) : Prop := w.heap[g]? = some (.cells cs.toArray T (0, 0))
/-- The same, whole numbers of one kind. -/
def IBlk (k : IntKind) (w : World) (g : Nat) (T : Nat) (xs : List Int) : Prop := Blk w g T (xs.map (Value.int k))

theorem Blk.cell {w : World} {g T : Nat} {cs : List Value} (h : Blk w g T cs) {j : Nat} {v : Value} (hj : cs[j]? = some v) : w.cell? ⟨g, j, none⟩ = some v := by
  unfold Blk at h
  simp [World.cell?, h, hj]
theorem Blk.lt {w : World} {g T : Nat} {cs : List Value} (h : Blk w g T cs) : g < w.heap.size := (Array.getElem?_eq_some_iff.1 h).1
theorem Blk.frozen {w : World} {g T : Nat} {cs : List Value} (h : Blk w g T cs) (j : Nat) : w.frozen? ⟨g, j, none⟩ = false := by
  unfold Blk at h
  simp [World.frozen?, h]
theorem Blk.below {w w' : World} {g T B : Nat} {cs : List Value} (h : Blk w g T cs) (hb : Below B w w') (hB : g < B) : Blk w' g T cs := by
  unfold Blk at *
  rw [hb.block g hB, h]
theorem Blk.grown {w w' : World} {g T : Nat} {cs : List Value} (h : Blk w g T cs) {row : Option Nat} (hb : w.grownBy w' row) (hB : some g ≠ row) : Blk w' g T cs := by
  have hl := h.lt
  unfold Blk at *
  rw [hb.block g hl hB, h]
theorem Blk.alloc {w : World} {g T : Nat} {cs : List Value} (h : Blk w g T cs) (o : Obj) : Blk (w.alloc o) g T cs := by
  have hl := h.lt
  unfold Blk at *
  simp only [World.alloc]
  rw [Array.getElem?_push_lt hl]
  simpa [Array.getElem?_eq_getElem hl] using h
theorem Blk.new (w : World) (cs : List Value) (T : Nat) : Blk (w.alloc (.cells cs.toArray T)) w.heap.size T cs := by
  simp only [Blk, World.alloc]
  exact Array.getElem?_push_size
theorem Blk.drewN {w : World} {g T : Nat} {cs : List Value} (h : Blk w g T cs) (n : Nat) : Blk (w.drewN n) g T cs := h
theorem Blk.set {w : World} {g T : Nat} {cs : List Value} (h : Blk w g T cs) (j : Nat) (v : Value) : Blk (w.setCell ⟨g, j, none⟩ v) g T (cs.set j v) := by
  have hl := h.lt
  unfold Blk at *
  simp only [World.setCell]
  rw [Array.getElem?_modify]
  simp [h]
theorem Blk.set_ne {w : World} {g T g' : Nat} {cs : List Value} (h : Blk w g T cs) (j : Nat) (v : Value) (hne : g' ≠ g) : Blk (w.setCell ⟨g', j, none⟩ v) g T cs := by
  have hl := h.lt
  unfold Blk at *
  simp only [World.setCell]
  rw [Array.getElem?_modify, if_neg hne, h]
theorem IBlk.cell {k : IntKind} {w : World} {g T : Nat} {xs : List Int} (h : IBlk k w g T xs) {j : Nat} (hj : j < xs.length) : w.cell? ⟨g, j, none⟩ = some (.int k (xs.getD j 0)) :=
  Blk.cell h (by simp [List.getElem?_eq_getElem hj, List.getD_eq_getElem?_getD])
theorem IBlk.set {k : IntKind} {w : World} {g T : Nat} {xs : List Int} (h : IBlk k w g T xs) (j : Nat) (x : Int) : IBlk k (w.setCell ⟨g, j, none⟩ (.int k x)) g T (xs.set j x) := by
  have := Blk.set h j (.int k x)
  unfold IBlk
  rw [List.map_set]
  exact this
theorem IBlk.new (k : IntKind) (w : World) (xs : List Int) (T : Nat) : IBlk k (w.alloc (.cells (xs.map (Value.int k)).toArray T)) w.heap.size T xs := Blk.new _ _ _

theorem IBlk.set8 {k : IntKind} {w : World} {g T : Nat} {xs : List Int} (h : IBlk k w g T xs) (hl : xs.length = 8) (a0 a1 a2 a3 a4 a5 a6 a7 : Int) :
    IBlk k ((((((((w.setCell ⟨g, 0, none⟩ (.int k a0)).setCell ⟨g, 1, none⟩ (.int k a1)).setCell ⟨g, 2, none⟩ (.int k a2)).setCell ⟨g, 3, none⟩ (.int k a3)).setCell ⟨g, 4, none⟩ (.int k a4)).setCell ⟨g, 5, none⟩ (.int k a5)).setCell ⟨g, 6, none⟩ (.int k a6)).setCell ⟨g, 7, none⟩ (.int k a7)) g T [a0, a1, a2, a3, a4, a5, a6, a7] := by
  have h8 := (((((((h.set 0 a0).set 1 a1).set 2 a2).set 3 a3).set 4 a4).set 5 a5).set 6 a6).set 7 a7
  match xs, hl with
  | [b0, b1, b2, b3, b4, b5, b6, b7], _ => exact h8
theorem below_drewN' {B : Nat} {w W : World} (h : Below B w W) (n : Nat) : Below B w (W.drewN n) := ⟨h.os, h.tape, h.output, h.size, h.block⟩
theorem below_drew' {B : Nat} {w W : World} (h : Below B w W) : Below B w W.drew := ⟨h.os, h.tape, h.output, h.size, h.block⟩

theorem below_step {B : Nat} {w w1 w2 : World} (h : Below B w w1) (hB : B ≤ w1.heap.size) (k : Below w1.heap.size w1 w2) : Below B w w2 := h.trans (k.mono hB)
theorem below_grown {w w1 w2 : World} {row : Option Nat} (hb : Below w.heap.size w w1) (hg : w1.grownBy w2 row) : w.grownBy w2 row :=
  ⟨hg.os.trans hb.os, hg.tape.trans hb.tape, hg.output.trans hb.output, Nat.le_trans hb.size hg.size, fun i hi hne => (hg.block i (Nat.lt_of_lt_of_le hi hb.size) hne).trans (hb.block i hi)⟩
theorem grown_refl (w : World) (row : Option Nat) : w.grownBy w row := ⟨rfl, rfl, rfl, Nat.le_refl _, fun _ _ _ => rfl⟩
theorem grown_set {w w1 : World} {g : Nat} (h : w.grownBy w1 (some g)) (j : Nat) (v : Value) : w.grownBy (w1.setCell ⟨g, j, none⟩ v) (some g) :=
  ⟨h.os, h.tape, h.output, by simpa [World.setCell] using h.size, fun i hi hne => by
    simp only [World.setCell]
    rw [Array.getElem?_modify, if_neg (fun e => hne (by rw [e]))]
    exact h.block i hi hne⟩
theorem grown_drewN {w w1 : World} {row : Option Nat} (h : w.grownBy w1 row) (n : Nat) : w.grownBy (w1.drewN n) row := ⟨h.os, h.tape, h.output, h.size, h.block⟩
theorem getD_app_left {a b : List Int} {j : Nat} (h : j < a.length) : (a ++ b).getD j 0 = a.getD j 0 := by
  simp [List.getD_eq_getElem?_getD, List.getElem?_append_left h]
theorem set_app_zero {a : List Int} {n : Nat} {x : Int} (h : 0 < n) : (a ++ List.replicate n 0).set a.length x = (a ++ [x]) ++ List.replicate (n - 1) 0 := by
  obtain ⟨m, rfl⟩ : ∃ m, n = m + 1 := ⟨n - 1, by omega⟩
  simp [List.replicate_succ]

/-- An element of an array value, each element one cell. -/
theorem run_index_cells {P : Program} (t e : TypeId) (n : Nat) (cs : Array Value) (i : Nat) (v : Value) (ht : P.underlying t = some (.array n e)) (h1 : ∀ w, (sizeOf e).run P w = .ok 1 w) (h2 : ∀ w, (isAgg e).run P w = .ok false w) (hi : i < n) (hv : cs[i]? = some v) (w : World) :
    (Instr.index t (.agg cs) (.int .i64 (i : Int))).run P w = .ok v w := by
  have hn : (0 : Int) ≤ (i : Int) ∧ (i : Int) < (n : Int) := by omega
  simp [Instr.index, run_underlying ht, asIntOf, part, h1, h2, hn, hv, go_sem]
  omega

/-- An operation that is an element of an array value, by its run. -/
theorem wpList_index {P : Program} {ops : Array Oper} {rest : List Oper} {o : Oper} {a : Act} {w : World} {Q : Exit → Act → World → Prop} (hgd : o.guard = none) (t : TypeId) (x i : Operand) (ho : o.op = .index t x i)
    (vx vi v : Value) (hx : a.eval x = vx) (hi : a.eval i = vi) (hr : (Instr.index t vx vi).run P w = .ok v w) (h : wpList P ops Q rest (a.put o.dst v) w) : wpList P ops Q (o :: rest) a w :=
  wpList_plain hgd fun _ hK => by
    unfold Oper.wp execOp
    simp only [ho, hx, hi, Sem.run_bind, hr, Result.andThen_ok, Sem.run_pure]
    exact hK _ _ h

/-- The world under a name, with what is known of it. -/
theorem wp_world {P : Program} {c : Code} {Q : Exit → Act → World → Prop} {a : Act} {w : World} (F : World → Prop) (hf : F w) (h : ∀ w', F w' → Code.wp P c Q a w') : Code.wp P c Q a w := h w hf
theorem wpList_world {P : Program} {ops : Array Oper} {l : List Oper} {Q : Exit → Act → World → Prop} {a : Act} {w : World} (F : World → Prop) (hf : F w) (h : ∀ w', F w' → wpList P ops Q l a w') : wpList P ops Q l a w := h w hf

theorem quietSame {P : Program} {f : FuncId} {args : Array Value} {w : World} {n : Nat} {v : Value}
    (h : Calls P f args (w.drewN n) fun e w' => e = .returned v ∧ w.drewN n = w') : Calls P f args (w.drewN n) fun e w'' => e = .returned v ∧ ∃ m, w'' = w.drewN m :=
  h.mono fun _ _ ⟨he, hm⟩ => ⟨he, n, hm.symm⟩
theorem quietDrew {P : Program} {f : FuncId} {args : Array Value} {w : World} {n : Nat} {v : Value}
    (h : Calls P f args (w.drewN n) fun e w' => e = .returned v ∧ ∃ m, w' = (w.drewN n).drewN m) : Calls P f args (w.drewN n) fun e w'' => e = .returned v ∧ ∃ m, w'' = w.drewN m :=
  h.mono fun _ _ ⟨he, m, hm⟩ => ⟨he, n + m, by rw [hm, World.drewN_drewN]⟩
theorem quietAdd {P : Program} {f : FuncId} {args : Array Value} {w : World} {a n : Nat} {v : Value}
    (h : Calls P f args (w.drewN (a + n)) fun e w' => e = .returned v ∧ ∃ m, w' = (w.drewN (a + n)).drewN m) :
    Calls P f args (w.drewN (a + n)) fun e w'' => e = .returned v ∧ ∃ m, w'' = w.drewN (a + m) :=
  h.mono fun _ _ ⟨he, m, hm⟩ => ⟨he, n + m, by rw [hm, World.drewN_drewN, Nat.add_assoc]⟩
theorem quietAddSame {P : Program} {f : FuncId} {args : Array Value} {w : World} {a n : Nat} {v : Value}
    (h : Calls P f args (w.drewN (a + n)) fun e w' => e = .returned v ∧ w.drewN (a + n) = w') :
    Calls P f args (w.drewN (a + n)) fun e w'' => e = .returned v ∧ ∃ m, w'' = w.drewN (a + m) :=
  h.mono fun _ _ ⟨he, hm⟩ => ⟨he, n, hm.symm⟩
end Go.Proofs.Ytejmbkmjonmpcaa
