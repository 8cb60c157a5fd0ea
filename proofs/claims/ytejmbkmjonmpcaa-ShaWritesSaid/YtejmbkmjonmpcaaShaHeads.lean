/- Layer 4's heads: what must come at any rate. -/
import Derived.Test.YtejmbkmjonmpcaaShaRDone
import Derived.Lib.SlBytesConst
set_option linter.unusedVariables false
set_option linter.unusedSimpArgs false
namespace Go.Proofs.Ytejmbkmjonmpcaa
open Go.RowKit

theorem abcD : ABC = doneS (writeH H0 [] 0 [97, 98, 99]) (writeB H0 [] 0 [97, 98, 99]) (writeN H0 [] 0 [97, 98, 99]) := by decide +kernel
theorem abcH1 : writeH H0 [] 0 [97] = H0 := by decide +kernel
theorem abcB1 : writeB H0 [] 0 [97] = [97] := by decide +kernel
theorem abcN1 : writeN H0 [] 0 [97] = 1 := by decide +kernel
theorem abcH2 : writeH H0 [97] 1 [98, 99] = H0 := by decide +kernel
theorem abcB2 : writeB H0 [97] 1 [98, 99] = [97, 98, 99] := by decide +kernel
theorem abcN2 : writeN H0 [97] 1 [98, 99] = 3 := by decide +kernel
theorem abcD2 : doneS H0 [97, 98, 99] 3 = ABC := by decide +kernel
theorem abcC : checkS H0.length ([97, 98, 99] : List Int).length 3 = true := by decide +kernel

theorem ShaV.nil (w : World) : ShaV w (.agg #[.slice none 0 0, .slice none 0 0, .int .u64 0]) [] [] 0 :=
  ⟨_, _, rfl, ⟨by simp, .inl ⟨rfl, .inl rfl⟩⟩, ⟨by simp, .inl ⟨rfl, .inl rfl⟩⟩⟩

theorem IRd.litM (k : IntKind) (w : World) (e g : Nat) (m : Nat × Nat) (hs : List Int) (h : w.heap.size = g) (hl : hs.length ≤ 9223372036854775807) :
    IRd k (w.alloc (.cells (hs.map (Value.int k)).toArray e m)) (.slice (some ⟨g, 0, none⟩) hs.length hs.length) hs := by
  subst h
  refine ⟨hl, .inr ⟨w.heap.size, 0, hs.length, rfl, fun j hj => ?_⟩⟩
  unfold World.cell?
  rw [heap_alloc_new w _]
  simp [List.getElem?_eq_getElem hj, List.getD_eq_getElem?_getD]

set_option maxRecDepth 100000 in
set_option maxHeartbeats 4000000 in
theorem heads4_calls (w : World) : Calls Try.prog 5 #[] w fun e w' => e = .returned (.bool true) ∧ Below w.heap.size w w' := by
  have kc := fun (w : World) (C : Array Value) (n c : Nat) => Lib.run_convert_bytes_const (P := Try.prog) w 23 5 C n c Try.underlying23 Try.underlying5
  go_enter Try.func5, Try.ntmps5
  go_wp2_with fail
  refine (sum_calls _ [97, 98, 99] _ (IRd.litM .u8 w 5 w.heap.size _ [97, 98, 99] rfl (by decide)) (by decide) (by decide) ABC abcD).mono ?_
  rintro e w1 ⟨v1, rfl, hD, hB1⟩
  have hB1 := Below.trans (((Below.refl w.heap.size w).alloc (Nat.le_refl _) _)) (hB1.mono (by simp))
  obtain ⟨_, ⟨h0, _⟩ | ⟨db, do', dc, rfl, hdc⟩⟩ := hD
  · exact absurd h0 (by decide)
  have hl : ABC.length = 32 := rfl
  rw [hl] at hdc ⊢
  have HDC := Lib.hid hdc
  have hdb : db < w1.heap.size := World.block_lt_of_cell? _ _ (hdc 0 (by omega))
  have HB1 := Lib.hid hB1
  clear hdc hB1 hl
  go_wp2_with fail
  refine (new_val _).mono ?_
  rintro e w2 ⟨v2, rfl, hV2, hB2⟩
  have HV2 := Lib.hid hV2
  have HB2 := Lib.hid hB2
  have hz2 := hB2.size
  clear hV2 hB2
  go_wp2_with fail
  refine (write_calls _ _ H0 [] [97] 0 _ (HV2.out.below ((Below.refl _ _).alloc (Nat.le_refl _) _)) (IRd.litM .u8 w2 5 w2.heap.size _ [97] rfl (by decide)) (by omega) (by decide) (by decide) (by decide)).mono ?_
  rw [abcH1, abcB1, abcN1]
  rintro e w3 ⟨v3, rfl, hV3, hB3⟩
  have HV3 := Lib.hid hV3
  have HB3 := Lib.hid (show Below w2.heap.size w2 w3 from (((Below.refl w2.heap.size w2).alloc (Nat.le_refl _) _)).trans (hB3.mono (by simp)))
  have hz3 := HB3.out.size
  clear hV3 hB3
  go_wp2_with fail
  refine (write_calls _ _ H0 [97] [98, 99] 1 _ (HV3.out.below ((Below.refl _ _).alloc (Nat.le_refl _) _)) (IRd.litM .u8 w3 5 w3.heap.size _ [98, 99] rfl (by decide)) (by omega) (by decide) (by decide) (by decide)).mono ?_
  rw [abcH2, abcB2, abcN2]
  rintro e w4 ⟨v4, rfl, hV4, hB4⟩
  obtain ⟨vh, vb, rfl, hvh, hvb⟩ := hV4
  obtain ⟨A, ch, rfl⟩ := hvh.slice
  obtain ⟨B, cb, rfl⟩ := hvb.slice
  have HB4 := Lib.hid (show Below w3.heap.size w3 w4 from (((Below.refl w3.heap.size w3).alloc (Nat.le_refl _) _)).trans (hB4.mono (by simp)))
  have hz4 := HB4.out.size
  have HVH := Lib.hid hvh
  have HVB := Lib.hid hvb
  clear hB4 hvh hvb
  have HB04 := Lib.hid (((HB1.out.trans (HB2.out.mono HB1.out.size)).trans (HB3.out.mono (by have := HB1.out.size; omega))).trans (HB4.out.mono (by have := HB1.out.size; omega)))
  have HB14 := Lib.hid (show Below w1.heap.size w1 w4 from (HB2.out.trans (HB3.out.mono hz2)).trans (HB4.out.mono (by omega)))
  clear HB1 HB2 HB3 HB4 HV2 HV3
  go_upto_region 3 with fail
  rw [show H0.length = 8 from rfl]
  refine wp_world (fun w5 => Blk w5 w4.heap.size 26 [.slice A 8 ch, .slice B 3 cb, .int .u64 3] ∧ Below w4.heap.size w4 w5 ∧ w5.heap.size = w4.heap.size + 1) ⟨Blk.new w4 _ _, (Below.refl _ _).alloc (Nat.le_refl _) _, by simp⟩ ?_
  rintro w5 ⟨hb5, hB5, hz5⟩
  have hB05 := HB04.out.trans (hB5.mono (by have := HB04.out.size; omega))
  have hB15 := HB14.out.trans (hB5.mono HB14.out.size)
  have hdr : ∀ j, j < 32 → w5.cell? ⟨db, do' + j, none⟩ = some (.int .u8 (ABC.getD j 0)) := fun j hj => (hB15.cell (p := ⟨db, do' + j, none⟩) hdb).trans (HDC.out j hj)
  have d0 : w5.cell? ⟨db, do', none⟩ = some (.int .u8 186) := hdr 0 (by omega)
  have d1 : w5.cell? ⟨db, do' + 1, none⟩ = some (.int .u8 120) := hdr 1 (by omega)
  have d31 : w5.cell? ⟨db, do' + 31, none⟩ = some (.int .u8 173) := hdr 31 (by omega)
  have k0 := Blk.cell (j := 0) hb5 rfl
  have k1 := Blk.cell (j := 1) hb5 rfl
  have k2 := Blk.cell (j := 2) hb5 rfl
  have HV5 := Lib.hid (show ShaV w5 (.agg #[.slice A 8 ch, .slice B 3 cb, .int .u64 3]) H0 [97, 98, 99] 3 from ⟨_, _, rfl, HVH.out.below hB5, HVB.out.below hB5⟩)
  have HDR := Lib.hid hdr
  have HB05 := Lib.hid hB05
  have HB15 := Lib.hid hB15
  have HB5 := Lib.hid hb5
  clear hB05 hB15 hB5 hb5 hdr HB04 HB14 HVH HVB
  have hz15 := HB15.out.size
  go_wp2_with fail
  refine (done_calls _ _ _ _ w5 HV5.out (by omega) (by decide)).mono ?_
  rw [abcD2]
  rintro e w6 ⟨v6, rfl, hV6, hB6⟩
  have HV6 := Lib.hid hV6
  have HB06 := Lib.hid (below_step HB05.out HB05.out.size hB6)
  have HD6 := Lib.hid (show IRd .u8 w6 (.slice (some ⟨db, do', none⟩) 32 dc) ABC from ⟨by decide, .inr ⟨db, do', dc, rfl, fun j hj => (hB6.cell (p := ⟨db, do' + j, none⟩) (by show db < _; omega)).trans (HDR.out j hj)⟩⟩)
  have hb6 := Blk.below HB5.out hB6 HB5.out.lt
  have HV66 := Lib.hid (HV5.out.below hB6)
  clear hV6 hB6 k0 k1 k2 d0 d1 d31 HDR
  have k0 := Blk.cell (j := 0) hb6 rfl
  have k1 := Blk.cell (j := 1) hb6 rfl
  have k2 := Blk.cell (j := 2) hb6 rfl
  have HB6 := Lib.hid hb6
  clear hb6
  go_wp2_with fail
  refine (same2_calls _ _ ABC w6 HV6.out HD6.out).mono ?_
  rintro e w7 ⟨rfl, hB7⟩
  have HB07 := Lib.hid (below_step HB06.out HB06.out.size hB7)
  have hb7 := Blk.below HB6.out hB7 HB6.out.lt
  have HV7 := Lib.hid (HV66.out.below hB7)
  clear hB7 k0 k1 k2
  have k0 := Blk.cell (j := 0) hb7 rfl
  have k1 := Blk.cell (j := 1) hb7 rfl
  have k2 := Blk.cell (j := 2) hb7 rfl
  clear hb7
  go_wp2_with fail
  refine (check_val _ _ _ _ w7 HV7.out (by omega)).mono ?_
  rw [abcC]
  rintro e w8 ⟨rfl, hB8⟩
  have HB08 := Lib.hid (below_step HB07.out HB07.out.size hB8)
  clear hB8 k0 k1 k2
  go_wp2_with fail
  refine (check_val _ _ _ _ w8 (ShaV.nil w8) (by omega)).mono ?_
  rintro e w9 ⟨rfl, hB9⟩
  have HB09 := Lib.hid (below_step HB08.out HB08.out.size hB9)
  clear hB9
  rw [show checkS ([] : List Int).length ([] : List Int).length 0 = false from rfl]
  go_wp2_with fail
  refine (done_calls _ _ _ _ w9 (ShaV.nil w9) (by omega) (by simp)).mono ?_
  rw [show doneS [] [] 0 = [] from rfl]
  rintro e w10 ⟨v10, rfl, hV10, hB10⟩
  obtain ⟨A10, c10, rfl⟩ := hV10.slice
  have HB010 := Lib.hid (below_step HB09.out HB09.out.size hB10)
  clear hV10 hB10
  go_wp2_with fail
  go_ret
  exact ⟨rfl, HB010.out⟩
end Go.Proofs.Ytejmbkmjonmpcaa
