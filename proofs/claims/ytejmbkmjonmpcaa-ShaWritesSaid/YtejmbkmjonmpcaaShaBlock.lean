/- sha.block: it puts 64 bytes into a digest's words, as 'intoS' says. -/
import Derived.Test.YtejmbkmjonmpcaaShaTurn
import Derived.StillTailTactics
import Derived.Test.YtejmbkmjonmpcaaQTail
import Derived.BigRegion
import Derived.Deep.DeepCutAuto
import Derived.Deep.CutBlock
namespace Go.Proofs.Ytejmbkmjonmpcaa
open Go.RowKit

theorem sched_step {w : World} {g T i : Nat} {bs : List Int} (hi : i < 64) (h : IBlk .u32 w g T (schedL bs i ++ List.replicate (64 - i) 0)) :
    IBlk .u32 (w.setCell ⟨g, i, none⟩ (.int .u32 (nextW bs (schedL bs i) i))) g T (schedL bs (i + 1) ++ List.replicate (64 - (i + 1)) 0) := by
  have h1 := h.set i (nextW bs (schedL bs i) i)
  have hl := schedL_length bs i
  have e : (schedL bs i ++ List.replicate (64 - i) 0).set i (nextW bs (schedL bs i) i) = schedL bs (i + 1) ++ List.replicate (64 - (i + 1)) 0 := by
    have h2 := set_app_zero (a := schedL bs i) (n := 64 - i) (x := nextW bs (schedL bs i) i) (by omega)
    rw [hl] at h2
    rw [h2, show 64 - i - 1 = 64 - (i + 1) by omega]
    rfl
  rw [e] at h1
  exact h1

theorem info64 : (Try.prog.info? 49).map (·.size) = some 64 := by kernel_rfl
theorem list8 (hs : List Int) (h : hs.length = 8) : hs = [hs.getD 0 0, hs.getD 1 0, hs.getD 2 0, hs.getD 3 0, hs.getD 4 0, hs.getD 5 0, hs.getD 6 0, hs.getD 7 0] := by
  match hs, h with
  | [a, b, c, d, e, f, g, h], _ => rfl

set_option maxHeartbeats 4000000 in
set_option maxRecDepth 100000 in
theorem block_calls (gh gk Th Tk gb off cap : Nat) (hs ks bs : List Int) (w : World) (hh : IBlk .u32 w gh Th hs) (hk : IBlk .u32 w gk Tk ks) (hhl : hs.length = 8) (hkl : ks.length = 64) (hbl : bs.length = 64)
    (hb : ∀ j, j < 64 → w.cell? ⟨gb, off + j, none⟩ = some (.int .u8 (bs.getD j 0))) (hbd : ∀ j, 0 ≤ bs.getD j 0 ∧ bs.getD j 0 ≤ 255) (hne : gb ≠ gh) (hne' : gk ≠ gh) :
    Calls Try.prog 24 #[.pointer (some ⟨gh, 0, none⟩), .pointer (some ⟨gk, 0, none⟩), .slice (some ⟨gb, off, none⟩) 64 cap] w
      fun e w' => e = .returned (.tuple #[]) ∧ IBlk .u32 w' gh Th (intoS ks hs bs) ∧ w.grownBy w' (some gh) := by
  have Hhh := Lib.hid hh
  have Hhk := Lib.hid hk
  have Hb := Lib.hid hb
  have Hbd := Lib.hid hbd
  have Hhl := Lib.hid hhl
  have Hkl := Lib.hid hkl
  have Hbl := Lib.hid hbl
  clear hh hk hb hbd hhl hkl hbl
  go_enter Try.func24, Try.ntmps24
  go_wp2_with fail
  refine (turn_calls _ _ _ _ _ (by omega) (by omega) (by omega)).mono ?_
  rintro e w1 ⟨g1, rfl, t1, b1, s1⟩
  go_wp2_with fail
  refine (turn_calls _ _ _ _ _ (by omega) (by omega) (by omega)).mono ?_
  rintro e w2 ⟨g2, rfl, t2, b2, s2⟩
  go_wp2_with fail
  refine (turn_calls _ _ _ _ _ (by omega) (by omega) (by omega)).mono ?_
  rintro e w3 ⟨g3, rfl, t3, b3, s3⟩
  go_wp2_with fail
  refine (turn_calls _ _ _ _ _ (by omega) (by omega) (by omega)).mono ?_
  rintro e w4 ⟨g4, rfl, t4, b4, s4⟩
  go_upto_block 0 with fail
  have T1 := Lib.hid (((t1.below b2 t1.lt).below b3 (Nat.lt_trans t1.lt s2)).below b4 (Nat.lt_trans (Nat.lt_trans t1.lt s2) s3))
  have T2 := Lib.hid ((t2.below b3 t2.lt).below b4 (Nat.lt_trans t2.lt s3))
  have T3 := Lib.hid (t3.below b4 t3.lt)
  have T4 := Lib.hid t4
  have B4 := Lib.hid (below_step (below_step (below_step b1 (Nat.le_of_lt s1) b2) (by omega) b3) (by omega) b4)
  have z4 : w.heap.size < w4.heap.size := by omega
  have l1 : g1 + 3 < w4.heap.size := T1.out.lt
  have l2 : g2 + 3 < w4.heap.size := T2.out.lt
  have l3 : g3 + 3 < w4.heap.size := T3.out.lt
  have l4 : g4 + 3 < w4.heap.size := T4.out.lt
  clear t1 t2 t3 t4 b1 b2 b3 b4 s1 s2 s3 s4
  go_cut [10, 11] from 22 to 87 (fun s10 _s11 wc => s10 = .pointer (some ⟨w4.heap.size, 0, none⟩) ∧ IBlk .u32 wc w4.heap.size 49 (schedL bs 64) ∧ Below w4.heap.size w4 wc)
  case first =>
    go_wp2_with fail
    go_loopw [22] (fun s22 wr => ∃ i : Nat, i ≤ 64 ∧ s22 = .int .i64 i ∧ IBlk .u32 wr w4.heap.size 49 (schedL bs i ++ List.replicate (64 - i) 0) ∧ Below w4.heap.size w4 wr)
      (fun s _ => 64 - (intOf s).toNat)
    case atStart => exact ⟨0, by omega, rfl, IBlk.new .u32 w4 (List.replicate 64 0) 49, (Below.refl _ _).alloc (Nat.le_refl _) _⟩
    case round =>
      obtain ⟨i, hi, rfl, hW, hB⟩ := hrel
      have HW := Lib.hid hW
      have HB := Lib.hid hB
      clear hW hB
      by_cases hlt : i < 64
      · by_cases h16 : i < 16
        · have lW : (schedL bs i ++ List.replicate (64 - i) 0).length = 64 := by simp [schedL_length]; omega
          have kW : wr.cell? ⟨w4.heap.size, i, none⟩ = some (.int .u32 ((schedL bs i ++ List.replicate (64 - i) 0).getD i 0)) := HW.out.cell (by omega)
          have fW : wr.frozen? ⟨w4.heap.size, i, none⟩ = false := Blk.frozen HW.out i
          have hbr : ∀ j, j < 64 → wr.cell? ⟨gb, off + j, none⟩ = some (.int .u8 (bs.getD j 0)) := fun j hj => by
            have h1 := Hb.out j hj
            have h2 := World.block_lt_of_cell? _ _ h1
            rw [HB.out.cell (p := ⟨gb, off + j, none⟩) (Nat.lt_trans h2 z4), B4.out.cell (p := ⟨gb, off + j, none⟩) h2, h1]
          have k0 := hbr (4 * i) (by omega)
          have k1 := hbr (4 * i + 1) (by omega)
          have k2 := hbr (4 * i + 2) (by omega)
          have k3 := hbr (4 * i + 3) (by omega)
          have d0 := Hbd.out (4 * i)
          have d1 := Hbd.out (4 * i + 1)
          have d2 := Hbd.out (4 * i + 2)
          have d3 := Hbd.out (4 * i + 3)
          clear hbr lW
          generalize e0 : bs.getD (4 * i) 0 = c0 at k0 d0
          generalize e1 : bs.getD (4 * i + 1) 0 = c1 at k1 d1
          generalize e2 : bs.getD (4 * i + 2) 0 = c2 at k2 d2
          generalize e3 : bs.getD (4 * i + 3) 0 = c3 at k3 d3
          generalize eW : (schedL bs i ++ List.replicate (64 - i) 0).getD i 0 = cW at kW
          obtain ⟨d00, d01⟩ := d0
          obtain ⟨d10, d11⟩ := d1
          obtain ⟨d20, d21⟩ := d2
          obtain ⟨d30, d31⟩ := d3
          have E0 := Lib.hid e0
          have E1 := Lib.hid e1
          have E2 := Lib.hid e2
          have E3 := Lib.hid e3
          clear e0 e1 e2 e3 eW
          have p0 : 0 ≤ 4 * (i : Int) := by omega
          have p1 : 0 ≤ 4 * (i : Int) + 1 := by omega
          have p2 : 0 ≤ 4 * (i : Int) + 2 := by omega
          have p3 : 0 ≤ 4 * (i : Int) + 3 := by omega
          have q0 : 4 * (i : Int) < 64 := by omega
          have q1 : 4 * (i : Int) + 1 < 64 := by omega
          have q2 : 4 * (i : Int) + 2 < 64 := by omega
          have q3 : 4 * (i : Int) + 3 < 64 := by omega
          have s0 : IntKind.i64.wrap (4 * (i : Int)) = 4 * (i : Int) := IntWalk.i64_in _ (by omega)
          have s1 : IntKind.i64.wrap (4 * (i : Int) + 1) = 4 * (i : Int) + 1 := IntWalk.i64_in _ (by omega)
          have s2 : IntKind.i64.wrap (4 * (i : Int) + 2) = 4 * (i : Int) + 2 := IntWalk.i64_in _ (by omega)
          have s3 : IntKind.i64.wrap (4 * (i : Int) + 3) = 4 * (i : Int) + 3 := IntWalk.i64_in _ (by omega)
          have n0 : (4 * (i : Int)).toNat = 4 * i := by omega
          have n1 : (4 * (i : Int) + 1).toNat = 4 * i + 1 := by omega
          have n2 : (4 * (i : Int) + 2).toNat = 4 * i + 2 := by omega
          have n3 : (4 * (i : Int) + 3).toNat = 4 * i + 3 := by omega
          have m0 : IntKind.u32.wrap c0 = c0 := by rw [IntKind.wrap_u32']; omega
          have m1 : IntKind.u32.wrap c1 = c1 := by rw [IntKind.wrap_u32']; omega
          have m2 : IntKind.u32.wrap c2 = c2 := by rw [IntKind.wrap_u32']; omega
          have m3 : IntKind.u32.wrap c3 = c3 := by rw [IntKind.wrap_u32']; omega
          have m4 : IntKind.u32.wrap (c0 * 16777216) = c0 * 16777216 := by rw [IntKind.wrap_u32']; omega
          have m5 : IntKind.u32.wrap (c1 * 65536) = c1 * 65536 := by rw [IntKind.wrap_u32']; omega
          have m6 : IntKind.u32.wrap (c2 * 256) = c2 * 256 := by rw [IntKind.wrap_u32']; omega
          go_wp2_with fail
          go_still_tail 35, (by kernel_rfl)
          change wpList _ _ _ _ _ wr.drew
          go_wp2
          go_roundw
          case rel =>
            have ex : nextW bs (schedL bs i) i = Go.bits .or .u32 (Go.bits .or .u32 (Go.bits .or .u32 (c0 * 16777216) (c1 * 65536)) (c2 * 256)) c3 := by
              rw [nextW_lo bs _ h16, E0.out, E1.out, E2.out, E3.out]
            rw [← ex]
            exact ⟨i + 1, by omega, by go_num, sched_step hlt HW.out, below_drew' (HB.out.setCell (Nat.le_refl _) _)⟩
          case measure => simp [intOf]; omega
        · have lW : (schedL bs i ++ List.replicate (64 - i) 0).length = 64 := by simp [schedL_length]; omega
          have kW : wr.cell? ⟨w4.heap.size, i, none⟩ = some (.int .u32 ((schedL bs i ++ List.replicate (64 - i) 0).getD i 0)) := HW.out.cell (by omega)
          have fW : wr.frozen? ⟨w4.heap.size, i, none⟩ = false := Blk.frozen HW.out i
          have kk : ∀ j, j < i → wr.cell? ⟨w4.heap.size, j, none⟩ = some (.int .u32 ((schedL bs i).getD j 0)) := fun j hj => by
            rw [← getD_app_left (b := List.replicate (64 - i) 0) (by rw [schedL_length]; exact hj)]
            exact HW.out.cell (by omega)
          have k0 := kk (i - 16) (by omega)
          have k1 := kk (i - 7) (by omega)
          have k2 := kk (i - 15) (by omega)
          have k3 := kk (i - 2) (by omega)
          clear kk lW
          generalize e0 : (schedL bs i).getD (i - 16) 0 = c0 at k0
          generalize e1 : (schedL bs i).getD (i - 7) 0 = c1 at k1
          generalize e2 : (schedL bs i).getD (i - 15) 0 = c2 at k2
          generalize e3 : (schedL bs i).getD (i - 2) 0 = c3 at k3
          generalize eW : (schedL bs i ++ List.replicate (64 - i) 0).getD i 0 = cW at kW
          have E0 := Lib.hid e0
          have E1 := Lib.hid e1
          have E2 := Lib.hid e2
          have E3 := Lib.hid e3
          have U1 := Lib.hid (T1.out.below HB.out l1)
          have U2 := Lib.hid (T2.out.below HB.out l2)
          clear e0 e1 e2 e3 eW
          have p0 : 0 ≤ (i : Int) - 16 := by omega
          have p1 : 0 ≤ (i : Int) - 7 := by omega
          have p2 : 0 ≤ (i : Int) - 15 := by omega
          have p3 : 0 ≤ (i : Int) - 2 := by omega
          have q0 : (i : Int) - 16 < 64 := by omega
          have q1 : (i : Int) - 7 < 64 := by omega
          have q2 : (i : Int) - 15 < 64 := by omega
          have q3 : (i : Int) - 2 < 64 := by omega
          have s0 : IntKind.i64.wrap ((i : Int) - 16) = (i : Int) - 16 := IntWalk.i64_in _ (by omega)
          have s1 : IntKind.i64.wrap ((i : Int) - 7) = (i : Int) - 7 := IntWalk.i64_in _ (by omega)
          have s2 : IntKind.i64.wrap ((i : Int) - 15) = (i : Int) - 15 := IntWalk.i64_in _ (by omega)
          have s3 : IntKind.i64.wrap ((i : Int) - 2) = (i : Int) - 2 := IntWalk.i64_in _ (by omega)
          have n0 : ((i : Int) - 16).toNat = i - 16 := by omega
          have n1 : ((i : Int) - 7).toNat = i - 7 := by omega
          have n2 : ((i : Int) - 15).toNat = i - 15 := by omega
          have n3 : ((i : Int) - 2).toNat = i - 2 := by omega
          go_wp2_with fail
          refine wp_region_quiet_tail 25 (by kernel_rfl) (by kernel_rfl) ?_
          simp only [List.take_succ_cons, List.take_zero, List.drop_succ_cons, List.drop_zero]
          repeat (go_big_quiet_step (exact quietDrew (turn1_calls _ _ _ _ _ _ _ (by first | exact U1.out.drewN _ | exact U2.out.drewN _))))
          refine wpQuiet_nil ?_
          intro wq hwq
          obtain ⟨nq, rfl⟩ := hwq
          go_wp2
          go_roundw
          case rel =>
            have ex : nextW bs (schedL bs i) i = (c0 + c1 + turnS c2 7 18 3 true + turnS c3 17 19 10 true) % 4294967296 := by
              rw [nextW_hi bs _ h16, E0.out, E1.out, E2.out, E3.out]
            rw [← ex]
            exact ⟨i + 1, by omega, by go_num, sched_step hlt (HW.out.drewN nq), (below_drewN' HB.out nq).setCell (Nat.le_refl _) _⟩
          case measure => simp [intOf]; omega
      · obtain rfl : i = 64 := by omega
        have hWW := HW.out
        simp only [Nat.sub_self, List.replicate_zero, List.append_nil] at hWW
        have HS := Lib.hid hWW
        clear hWW HW hi
        go_wp2_with fail
        go_meet
        exact ⟨rfl, HS.out, HB.out⟩
  case rest =>
    obtain ⟨rfl, hS, hB⟩ := hcut
    have HS := Lib.hid hS
    have HB := Lib.hid hB
    clear hS hB
    have hhr : ∀ j, j < 8 → wc.cell? ⟨gh, j, none⟩ = some (.int .u32 (hs.getD j 0)) := fun j hj => by
      have h1 := Hhh.out.cell (j := j) (by rw [Hhl.out]; exact hj)
      have h2 := World.block_lt_of_cell? _ _ h1
      rw [HB.out.cell (p := ⟨gh, j, none⟩) (Nat.lt_trans h2 z4), B4.out.cell (p := ⟨gh, j, none⟩) h2, h1]
    have a0 := hhr 0 (by omega)
    have a1 := hhr 1 (by omega)
    have a2 := hhr 2 (by omega)
    have a3 := hhr 3 (by omega)
    have a4 := hhr 4 (by omega)
    have a5 := hhr 5 (by omega)
    have a6 := hhr 6 (by omega)
    have a7 := hhr 7 (by omega)
    clear hhr
    have HA := Lib.hid (list8 hs Hhl.out)
    generalize hs.getD 0 0 = x0 at a0 HA
    generalize hs.getD 1 0 = x1 at a1 HA
    generalize hs.getD 2 0 = x2 at a2 HA
    generalize hs.getD 3 0 = x3 at a3 HA
    generalize hs.getD 4 0 = x4 at a4 HA
    generalize hs.getD 5 0 = x5 at a5 HA
    generalize hs.getD 6 0 = x6 at a6 HA
    generalize hs.getD 7 0 = x7 at a7 HA
    have hbk : ∀ o, (wc.alloc o).heap[w4.heap.size]? = some (.cells ((schedL bs 64).map (Value.int .u32)).toArray 49 (0, 0)) := fun o => HS.out.alloc o
    obtain ⟨WS, hWS⟩ : ∃ l, schedL bs 64 = l := ⟨_, rfl⟩
    rw [hWS] at hbk
    obtain ⟨WA, hWA⟩ : ∃ l : Array Value, (WS.map (Value.int .u32)).toArray = l := ⟨_, rfl⟩
    rw [hWA] at hbk
    have HBK := Lib.hid hbk
    have HWS := Lib.hid hWS
    have HWA := Lib.hid hWA
    have hsz : (Try.prog.info? 49).map (·.size) = some WA.size := by
      rw [info64, ← hWA, ← hWS]; simp [schedL_length]
    have HSZ := Lib.hid hsz
    clear hbk hsz hWA hWS
    go_wp2_with (with_reducible refine wpList_load_row (o := ⟨some 91, _, _, _, _, _⟩) rfl _ _ rfl w4.heap.size rfl _ _ _ _ (HBK.out _) Try.underlying49 rfl HSZ.out ?_)
    have zz : w4.heap.size < wc.heap.size := HS.out.lt
    go_loopw [92] (fun s92 wr => ∃ n : Nat, n ≤ 64 ∧ s92 = .int .i64 n ∧ IBlk .u32 wr wc.heap.size 48 (roundsS ks WS hs n) ∧ Below wc.heap.size wc wr)
      (fun s _ => 64 - (intOf s).toNat)
    case atStart =>
      refine ⟨0, by omega, rfl, ?_, (Below.refl _ _).alloc (Nat.le_refl _) _⟩
      show IBlk _ _ _ _ hs
      rw [HA.out]
      exact IBlk.new .u32 wc [x0, x1, x2, x3, x4, x5, x6, x7] 48
    case round =>
      obtain ⟨n, hn, rfl, hV, hB2⟩ := hrel
      have HV := Lib.hid hV
      have HB2 := Lib.hid hB2
      clear hV hB2
      by_cases hlt2 : n < 64
      · have hkx : wr.cell? ⟨gk, n, none⟩ = some (.int .u32 (ks.getD n 0)) := by
          have h1 := Hhk.out.cell (j := n) (by rw [Hkl.out]; exact hlt2)
          have h2 := World.block_lt_of_cell? _ _ h1
          rw [HB2.out.cell (p := ⟨gk, n, none⟩) (Nat.lt_trans (Nat.lt_trans h2 z4) zz), HB.out.cell (p := ⟨gk, n, none⟩) (Nat.lt_trans h2 z4), B4.out.cell (p := ⟨gk, n, none⟩) h2, h1]
        have hix : (Instr.index 49 (.agg WA) (.int .i64 (n : Int))).run Try.prog wr = .ok (.int .u32 (WS.getD n 0)) wr :=
          run_index_cells 49 47 64 _ n _ Try.underlying49 (fun _ => by kernel_rfl) (fun _ => by kernel_rfl) hlt2 (by
            have hl : WS.length = 64 := by rw [← HWS.out]; exact schedL_length bs 64
            rw [← HWA.out]
            simp [List.getElem?_eq_getElem (show n < WS.length by omega), List.getD_eq_getElem?_getD]) wr
        have hvl : (roundsS ks WS hs n).length = 8 := roundsS_length _ _ _ _ Hhl.out
        have b0 := HV.out.cell (j := 0) (by omega)
        have b1 := HV.out.cell (j := 1) (by omega)
        have b2 := HV.out.cell (j := 2) (by omega)
        have b3 := HV.out.cell (j := 3) (by omega)
        have b4 := HV.out.cell (j := 4) (by omega)
        have b5 := HV.out.cell (j := 5) (by omega)
        have b6 := HV.out.cell (j := 6) (by omega)
        have b7 := HV.out.cell (j := 7) (by omega)
        have f0 := Blk.frozen HV.out 0
        have f1 := Blk.frozen HV.out 1
        have f2 := Blk.frozen HV.out 2
        have f3 := Blk.frozen HV.out 3
        have f4 := Blk.frozen HV.out 4
        have f5 := Blk.frozen HV.out 5
        have f6 := Blk.frozen HV.out 6
        have f7 := Blk.frozen HV.out 7
        clear hvl
        have U3 := Lib.hid ((T3.out.below HB.out l3).below HB2.out (Nat.lt_trans l3 zz))
        have U4 := Lib.hid ((T4.out.below HB.out l4).below HB2.out (Nat.lt_trans l4 zz))
        generalize eK : ks.getD n 0 = K at hkx
        generalize eX : WS.getD n 0 = X at hix
        generalize eV : roundsS ks WS hs n = V at b0 b1 b2 b3 b4 b5 b6 b7
        have EK := Lib.hid eK
        have EX := Lib.hid eX
        have EV := Lib.hid eV
        clear eK eX eV
        obtain ⟨y0, e0⟩ : ∃ y, V.getD 0 0 = y := ⟨_, rfl⟩
        obtain ⟨y1, e1⟩ : ∃ y, V.getD 1 0 = y := ⟨_, rfl⟩
        obtain ⟨y2, e2⟩ : ∃ y, V.getD 2 0 = y := ⟨_, rfl⟩
        obtain ⟨y3, e3⟩ : ∃ y, V.getD 3 0 = y := ⟨_, rfl⟩
        obtain ⟨y4, e4⟩ : ∃ y, V.getD 4 0 = y := ⟨_, rfl⟩
        obtain ⟨y5, e5⟩ : ∃ y, V.getD 5 0 = y := ⟨_, rfl⟩
        obtain ⟨y6, e6⟩ : ∃ y, V.getD 6 0 = y := ⟨_, rfl⟩
        obtain ⟨y7, e7⟩ : ∃ y, V.getD 7 0 = y := ⟨_, rfl⟩
        rw [e0] at b0
        rw [e1] at b1
        rw [e2] at b2
        rw [e3] at b3
        rw [e4] at b4
        rw [e5] at b5
        rw [e6] at b6
        rw [e7] at b7
        have E0 := Lib.hid e0
        have E1 := Lib.hid e1
        have E2 := Lib.hid e2
        have E3 := Lib.hid e3
        have E4 := Lib.hid e4
        have E5 := Lib.hid e5
        have E6 := Lib.hid e6
        have E7 := Lib.hid e7
        clear e0 e1 e2 e3 e4 e5 e6 e7
        have hbn : decide ((n : Int) < 64) = true := decide_eq_true (by omega)
        go_wp2_with fail
        clear hix
        go_quiet ((exact quietDrew (turn1_calls _ _ _ _ _ _ _ (U4.out.drewN _))))
        go_wp2_with fail
        go_quiet ((exact (quietAdd (turn1_calls _ _ _ _ _ _ _ (U3.out.drewN _)))))
        go_wp2_with fail
        go_roundw
        case rel =>
          have er : roundsS ks WS hs (n + 1) = [((y7 + turnS y4 6 11 25 false + Go.bits .or .u32 (Go.bits .and .u32 y4 y5) (Go.bits .andNot .u32 y6 y4) + K + X + (turnS y0 2 13 22 false + Go.bits .or .u32 (Go.bits .or .u32 (Go.bits .and .u32 y0 y1) (Go.bits .and .u32 y0 y2)) (Go.bits .and .u32 y1 y2))) % 4294967296),
              y0, y1, y2, ((y3 + (y7 + turnS y4 6 11 25 false + Go.bits .or .u32 (Go.bits .and .u32 y4 y5) (Go.bits .andNot .u32 y6 y4) + K + X)) % 4294967296), y4, y5, y6] := by
            rw [roundsS_succ, EK.out, EX.out, EV.out]
            unfold roundS tS uS
            rw [E0.out, E1.out, E2.out, E3.out, E4.out, E5.out, E6.out, E7.out]
          refine ⟨n + 1, by omega, by go_num, ?_, ?_⟩
          · rw [er]
            exact IBlk.set8 (HV.out.drewN _) (roundsS_length _ _ _ _ Hhl.out) _ _ _ _ _ _ _ _
          · exact (((((((((below_drewN' HB2.out _).setCell (Nat.le_refl _) _).setCell (Nat.le_refl _) _).setCell (Nat.le_refl _) _).setCell (Nat.le_refl _) _).setCell (Nat.le_refl _) _).setCell (Nat.le_refl _) _).setCell (Nat.le_refl _) _).setCell (Nat.le_refl _) _)
        case measure => simp [intOf]; omega
      · obtain rfl : n = 64 := by omega
        have hbn : decide (((64 : Nat) : Int) < 64) = false := by decide
        obtain ⟨w5, rfl⟩ : ∃ w5 : World, w5 = wr := ⟨_, rfl⟩
        have hgw : gh < w.heap.size := Hhh.out.lt
        have B5 := Lib.hid (below_step (below_step B4.out (by omega) HB.out) (by omega) HB2.out)
        have H5 := Lib.hid (show IBlk .u32 w5 gh Th hs from Blk.below Hhh.out B5.out hgw)
        obtain ⟨V, hV⟩ : ∃ V, roundsS ks WS hs 64 = V := ⟨_, rfl⟩
        have HV5 := Lib.hid HV.out
        have EV := Lib.hid hV
        clear HV
        rw [hV] at HV5
        clear hV
        have hVl : V.length = 8 := by rw [← EV.out]; exact roundsS_length _ _ _ _ Hhl.out
        have HVL := Lib.hid hVl
        have zc : gh < wc.heap.size := by omega
        have ne5 : gh ≠ wc.heap.size := by omega
        clear hVl
        go_wp2_with fail
        go_loopw [166] (fun s166 wr => ∃ m : Nat, m ≤ 8 ∧ s166 = .int .i64 m ∧ IBlk .u32 wr gh Th (sumS hs V m) ∧ w5.grownBy wr (some gh))
          (fun s _ => 8 - (intOf s).toNat)
        case atStart => exact ⟨0, by omega, rfl, H5.out, grown_refl _ _⟩
        case round =>
          obtain ⟨m, hm, rfl, hH, hG⟩ := hrel
          have HH := Lib.hid hH
          have HG := Lib.hid hG
          clear hH hG
          by_cases hlt3 : m < 8
          · have hbm : decide ((m : Int) < 8) = true := decide_eq_true (by omega)
            have c0 := HH.out.cell (j := m) (by rw [sumS_length, Hhl.out]; exact hlt3)
            have f0 := Blk.frozen HH.out m
            have c1 := (Blk.grown (cs := V.map (Value.int .u32)) HV5.out HG.out (by simp; omega))
            have c2 := IBlk.cell (xs := V) c1 (j := m) (by rw [HVL.out]; exact hlt3)
            clear c1
            generalize e0 : (sumS hs V m).getD m 0 = X0 at c0
            generalize e1 : V.getD m 0 = X1 at c2
            have E0 := Lib.hid e0
            have E1 := Lib.hid e1
            clear e0 e1
            go_wp2_with fail
            refine wp_region_quiet_tail 11 (by kernel_rfl) (by kernel_rfl) ?_
            simp only [List.take_succ_cons, List.take_zero, List.drop_succ_cons, List.drop_zero]
            repeat (go_big_quiet_step (fail))
            refine wpQuiet_nil ?_
            intro wq hwq
            obtain ⟨nq, rfl⟩ := hwq
            go_wp2
            go_roundw
            case rel =>
              refine ⟨m + 1, by omega, by go_num, ?_, ?_⟩
              · have h3 := IBlk.set (HH.out.drewN nq) m ((X0 + X1) % 4294967296)
                rw [← E0.out, ← E1.out] at h3
                rw [← E0.out, ← E1.out]
                exact h3
              · exact grown_set (grown_drewN HG.out _) _ _
            case measure => simp [intOf]; omega
          · obtain rfl : m = 8 := by omega
            have hbm : decide (((8 : Nat) : Int) < 8) = false := by decide
            go_wp2_with fail
            go_end0
            refine ⟨rfl, ?_, below_grown B5.out HG.out⟩
            unfold intoS
            rw [HWS.out, EV.out]
            exact HH.out
end Go.Proofs.Ytejmbkmjonmpcaa
