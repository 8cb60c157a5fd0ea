/- For every digest and every bytes ShaWrites answers true, and both read as before. No condition. -/
import Derived.Test.YtejmbkmjonmpcaaRows
import Derived.Test.YtejmbkmjonmpcaaShaLaw
import Derived.Test.YtejmbkmjonmpcaaOpen
import Derived.ProofKit
import Derived.ShutString
import Derived.ChangeOld
import Derived.Lib.SmallJoins
set_option linter.unusedVariables false
namespace Go.Proofs.Ytejmbkmjonmpcaa.shaWrites
open Go.ChangeShapes Go.WideShapes Go.ChangeAt Go.RowKit

theorem own : ownKnob Try.prog.godebug = none := by kernel_rfl
theorem laidOut : laidOutB Try.prog = true := by kernel_rfl
theorem weights_sha {H : Type} (y0 y1 y2 : DataW H) : (DataW.agg [y0, y1, y2]).weights Try.prog 26 = y0.weights Try.prog 22 ++ (y1.weights Try.prog 23 ++ (y2.weights Try.prog 24 ++ [])) := by
  simp [DataW.weights, DataW.weightsEach, Try.underlying26]

set_option maxRecDepth 100000 in
theorem lifted (os : Os) (started : os.Started) (H : Type) (enc : TypeId × Value → H) :
    ReturnsInHanded {} Try.checked os 3 .any (Rows.shaWritesSpec.pre6 enc Try.prog Try.f3 Rows.shaWritesRow.domain false) (Rows.shaWritesSpec.post enc Try.prog Try.f3 false true false false) := by
  refine returnsInHanded_of_change_sized (C := Try.checked) own started (by kernel_rfl) Try.func3
    (ChangeSpec.witness6 (enc := enc) (C := Try.checked) false ⟨#[], #[.agg #[.slice none 0 0, .slice none 0 0, .int .u64 0], .slice none 0 0], []⟩ 8 (by kernel_rfl) (by kernel_rfl) (by kernel_rfl) (by kernel_rfl)) ?_
  intro W base args ds gs before hval0 hW hcnd hsz0 _
  have hsz : (DataW.weightsEach Try.prog (Try.f3.params.toList ++ Rows.shaWritesSpec.plain.varTypes Try.prog) (ds ++ gs)).all (· ≤ reachBytes) = true := hsz0
  have hval : ∀ (j : Nat) t v, Try.f3.params[j]? = some t → args[j]? = some v → Value.okWide Try.prog W .any base t v := hval0
  have hW' := hW
  obtain ⟨p, q, hA0, hV, rfl, hfz, hnd⟩ := hW
  have hA : DataW.TrodAll enc Try.prog W 0 (fun _ => true) true Try.f3.params.toList args.toList ds p := hA0
  rw [Try.params3] at hA hval hsz
  obtain ⟨v0, vs0, d0, ds0, p0, q0, hargs, rfl, rfl, h0, r0⟩ := trodAll_cons hA
  obtain ⟨v1, vs1, d1, ds1, p1, q1, rfl, rfl, rfl, h1, r1⟩ := trodAll_cons r0
  obtain ⟨rfl, rfl, rfl⟩ := trodAll_nil r1
  obtain rfl : args = #[v0, v1] := by cases args; simp_all
  obtain ⟨rfl, rfl⟩ := trodVars_none hV
  have k0 := h0
  have lt0 : ∀ x ∈ p0, x.block < W.heap.size := by obtain ⟨m, hm⟩ := k0; exact DataW.trod_lt m _ _ _ hm
  have k1 := h1
  have lt1 : ∀ x ∈ p1, x.block < W.heap.size := by obtain ⟨m, hm⟩ := k1; exact DataW.trod_lt m _ _ _ hm
  obtain ⟨c0, c1, c2, y0, y1, y2, m, rfl, rfl, hp0, g0, g1, g2⟩ := Go.Joins.open_agg3 Try.underlying26 (by kernel_rfl) (by kernel_rfl) (hval 0 26 v0 rfl rfl) h0
  obtain ⟨u0, hs, e0, b0, w0, l0⟩ := IRd.ofTrod Try.underlying22 Try.underlying47 (by kernel_rfl) g0
  obtain ⟨u1, bs, e1, b1, w1, l1⟩ := IRd.ofTrod Try.underlying23 Try.underlying5 (by kernel_rfl) g1
  obtain ⟨n, e2, _, w2⟩ := DataW.trod_int Try.underlying24 g2
  simp only [List.cons.injEq, and_true] at e0 e1 e2
  subst e0 e1 e2
  obtain ⟨a1, len1, cap1, rfl⟩ := okWide_slice Try.underlying23 (hval 1 23 v1 rfl rfl)
  obtain ⟨m1, hf1⟩ := h1
  obtain ⟨u3, xs, e3, b3, w3, l3⟩ := IRd.ofTrod Try.underlying23 Try.underlying5 (by kernel_rfl) hf1
  simp [Value.cells] at e3
  subst e3
  have hin : ∀ z ∈ (DataW.agg [y0.1, y1.1, y2.1]).weights Try.prog 26, z ∈ DataW.weightsEach Try.prog ([26, 23] ++ Rows.shaWritesSpec.plain.varTypes Try.prog) ([DataW.agg [y0.1, y1.1, y2.1], d1] ++ []) := DataW.weights_mem_each (j := 0) rfl rfl
  rw [weights_sha] at hin
  have z0 := weigh_slice (B := 4) (fun z hz => hin z (List.mem_append.2 (.inl hz))) hsz Try.underlying22 (by kernel_rfl) l0
  have z1 := weigh_slice (B := 1) (fun z hz => hin z (List.mem_append.2 (.inr (List.mem_append.2 (.inl hz))))) hsz Try.underlying23 (by kernel_rfl) l1
  have hn := bounds_u64 w2
  clear hA0 hval0 hsz0 hsz
  refine (law4_calls _ _ _ hs bs xs n W b0 b1 b3 hn.1 z0 (by omega) (fun x hx => ⟨(bounds_u32 (w0 x hx)).1, by have := (bounds_u32 (w0 x hx)).2; omega⟩) (bytes_of_wf w1) (bytes_of_wf w3)).mono fun e W' ⟨he, bel⟩ => ?_
  subst he
  exact ⟨_, rfl, _, _, _, [], _, [], hW', trodAll_mk1 (shut_bool Try.underlying4 _), (trodAll_cons_mk (Below.trod laidOut (by kernel_rfl) (of_decide_eq_true (by kernel_rfl)) k0 bel lt0) (trodAll_cons_mk (Below.trod laidOut (by kernel_rfl) (of_decide_eq_true (by kernel_rfl)) k1 bel lt1) trodAll_mk0)), rfl, bel.frame _, fun h => by cases h⟩

theorem over : Rows.shaWritesRow.holds Try.pinned (OpenSpec.ofChange Rows.shaWritesSpec) :=
  OpenClaim.holds_of_wide 3 Try.f3 rfl rfl rfl rfl rfl rfl rfl ⟨rfl, rfl, rfl, rfl, rfl⟩ rfl rfl rfl rfl rfl (by kernel_rfl) Try.func3 (by kernel_rfl)
    (of_decide_eq_true (by kernel_rfl)) (by unfold Func.isWrapper; first | (rw [if_pos (by decide +kernel)]; kernel_rfl) | (rw [if_neg (by decide +kernel)]; exact ⟨rfl, rfl⟩))
    (fun os started H enc _ => lifted os started H enc)
theorem proved : Rows.ShaWritesSaid := over
#print axioms proved
end Go.Proofs.Ytejmbkmjonmpcaa.shaWrites
namespace Go.Proofs.Ytejmbkmjonmpcaa
/-- The row, under a short name, for the claim. -/
theorem shaWrites_holds : Rows.ShaWritesSaid := shaWrites.proved
end Go.Proofs.Ytejmbkmjonmpcaa
