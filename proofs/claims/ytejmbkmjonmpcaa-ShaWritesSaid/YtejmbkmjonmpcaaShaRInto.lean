/- The reference's block function. -/
import Derived.Test.YtejmbkmjonmpcaaShaWd
import Derived.Deep.DeepCutAuto
import Derived.Deep.CutBlock
import Derived.Deep.DeepMust
import Derived.Deep.RegionHeld3
set_option linter.unusedVariables false
set_option linter.unusedSimpArgs false
namespace Go.Proofs.Ytejmbkmjonmpcaa
open Go.RowKit

/-- The sums into the second list. -/
def sumS' (hs v : List Int) : Nat → List Int
  | 0 => v
  | n + 1 => (sumS' hs v n).set n (((sumS' hs v n).getD n 0 + hs.getD n 0) % 4294967296)
theorem sumS'_length (hs v : List Int) (n : Nat) : (sumS' hs v n).length = v.length := by
  induction n with
  | zero => rfl
  | succ n ih => simp [sumS', ih]
theorem sumS_eq (hs v : List Int) (h1 : hs.length = 8) (h2 : v.length = 8) : sumS' hs v 8 = sumS hs v 8 := by
  match hs, h1, v, h2 with
  | [a0, a1, a2, a3, a4, a5, a6, a7], _, [b0, b1, b2, b3, b4, b5, b6, b7], _ =>
    simp [sumS, sumS', Int.add_comm]

set_option maxHeartbeats 4000000 in
set_option maxRecDepth 100000 in
theorem into_calls (vh vb : Value) (hs bs : List Int) (w : World) (hh : IRd .u32 w vh hs) (hb : IRd .u8 w vb bs) (hhl : hs.length = 8) (hbl : bs.length = 64) (hsd : ∀ x ∈ hs, Wd x) (hbd : ∀ x ∈ bs, 0 ≤ x ∧ x ≤ 255) :
    Calls Try.prog 25 #[vh, vb] w fun e w' => ∃ v, e = .returned v ∧ IRd .u32 w' v (intoS ROOTS hs bs) ∧ Below w.heap.size w w' := by
  obtain ⟨_, ⟨rfl, _⟩ | ⟨hb0, ho, hc, rfl, hcs⟩⟩ := hh
  · simp at hhl
  obtain ⟨_, ⟨rfl, _⟩ | ⟨bb, bo, bc, rfl, bcs⟩⟩ := hb
  · simp at hbl
  rw [hhl] at hcs ⊢
  rw [hbl] at bcs ⊢
  have HCS := Lib.hid hcs
  have BCS := Lib.hid bcs
  have HHL := Lib.hid hhl
  have HBL := Lib.hid hbl
  have HSD := Lib.hid hsd
  have HBD := Lib.hid (bytes_getD hbd)
  obtain ⟨R, hR⟩ : ∃ R, R = intoS ROOTS hs bs := ⟨_, rfl⟩
  rw [← hR]
  have HR := Lib.hid hR
  clear hcs bcs hhl hbl hsd hbd hR
  go_enter Try.func25, Try.ntmps25
  go_upto_block 0 with fail
  go_cut [5] from 24 to 110 (fun s5 wc => IOwn .u32 wc w.heap.size 47 s5 (schedL bs 64) ∧ Below w.heap.size w wc)
  case first =>
    go_wp2_with fail
    go_loopw [5, 6] (fun s5 s6 wr => ∃ i : Nat, i ≤ 64 ∧ s6 = .int .i64 (i : Int) ∧ IOwn .u32 wr w.heap.size 47 s5 (schedL bs i) ∧ Below w.heap.size w wr)
      (fun _ s _ => 64 - (intOf s).toNat)
    case atStart => exact ⟨0, by omega, rfl, IOwn.nil _ _ _ _, Below.refl _ _⟩
    case round =>
      obtain ⟨i, hi, rfl, hW, hB⟩ := hrel
      obtain ⟨A5, c5, rfl⟩ := hW.rd.slice
      have hwl := schedL_length bs i
      rw [hwl] at hW ⊢
      have HW := Lib.hid hW
      have HB := Lib.hid hB
      have hzr := hB.size
      clear hW hB hwl
      by_cases hlt : i < 64
      · have hbn : decide ((i : Int) < 64) = true := decide_eq_true (by omega)
        by_cases h16 : i < 16
        · have hb16 : decide ((i : Int) < 16) = true := decide_eq_true (by omega)
          have hbr : ∀ j, j < 64 → wr.cell? ⟨bb, bo + j, none⟩ = some (.int .u8 (bs.getD j 0)) := fun j hj => by
            have h1 := BCS.out j hj
            exact (HB.out.cell (p := ⟨bb, bo + j, none⟩) (World.block_lt_of_cell? _ _ h1)).trans h1
          have k0 := hbr (4 * i) (by omega)
          have k1 := hbr (4 * i + 1) (by omega)
          have k2 := hbr (4 * i + 2) (by omega)
          have k3 := hbr (4 * i + 3) (by omega)
          have d0 := HBD.out (4 * i)
          have d1 := HBD.out (4 * i + 1)
          have d2 := HBD.out (4 * i + 2)
          have d3 := HBD.out (4 * i + 3)
          clear hbr
          generalize e0 : bs.getD (4 * i) 0 = c0 at k0 d0
          generalize e1 : bs.getD (4 * i + 1) 0 = c1 at k1 d1
          generalize e2 : bs.getD (4 * i + 2) 0 = c2 at k2 d2
          generalize e3 : bs.getD (4 * i + 3) 0 = c3 at k3 d3
          obtain ⟨d00, d01⟩ := d0
          obtain ⟨d10, d11⟩ := d1
          obtain ⟨d20, d21⟩ := d2
          obtain ⟨d30, d31⟩ := d3
          have E0 := Lib.hid e0
          have E1 := Lib.hid e1
          have E2 := Lib.hid e2
          have E3 := Lib.hid e3
          clear e0 e1 e2 e3
          have p0 : 0 ≤ 4 * (i : Int) := by omega
          have p1 : 0 ≤ 4 * (i : Int) + 1 := by omega
          have p2 : 0 ≤ 4 * (i : Int) + 2 := by omega
          have p3 : 0 ≤ 4 * (i : Int) + 3 := by omega
          have q0 : 4 * (i : Int) < 64 := by omega
          have q1 : 4 * (i : Int) + 1 < 64 := by omega
          have q2 : 4 * (i : Int) + 2 < 64 := by omega
          have q3 : 4 * (i : Int) + 3 < 64 := by omega
          have s0 : IntKind.i64.wrap (4 * (i : Int)) = 4 * (i : Int) := IntWalk.i64_in _ (by omega)
          have s1 : IntKind.i64.wrap (4 * (i : Int) + 1) = 4 * (i : Int) + 1 := IntWalk.i64_in _ (by omega)
          have s2 : IntKind.i64.wrap (4 * (i : Int) + 2) = 4 * (i : Int) + 2 := IntWalk.i64_in _ (by omega)
          have s3 : IntKind.i64.wrap (4 * (i : Int) + 3) = 4 * (i : Int) + 3 := IntWalk.i64_in _ (by omega)
          have n0 : (4 * (i : Int)).toNat = 4 * i := by omega
          have n1 : (4 * (i : Int) + 1).toNat = 4 * i + 1 := by omega
          have n2 : (4 * (i : Int) + 2).toNat = 4 * i + 2 := by omega
          have n3 : (4 * (i : Int) + 3).toNat = 4 * i + 3 := by omega
          have m0 : IntKind.u32.wrap c0 = c0 := by rw [IntKind.wrap_u32']; omega
          have m1 : IntKind.u32.wrap c1 = c1 := by rw [IntKind.wrap_u32']; omega
          have m2 : IntKind.u32.wrap c2 = c2 := by rw [IntKind.wrap_u32']; omega
          have m3 : IntKind.u32.wrap c3 = c3 := by rw [IntKind.wrap_u32']; omega
          have m4 : IntKind.u32.wrap (c0 * 16777216) = c0 * 16777216 := by rw [IntKind.wrap_u32']; omega
          have m5 : IntKind.u32.wrap (c1 * 65536) = c1 * 65536 := by rw [IntKind.wrap_u32']; omega
          have m6 : IntKind.u32.wrap (c2 * 256) = c2 * 256 := by rw [IntKind.wrap_u32']; omega
          go_wp2_with fail
          have hbz : bb < w.heap.size := World.block_lt_of_cell? _ _ (BCS.out 0 (by omega))
          have hbz' : bb < wr.heap.size := by omega
          have hneA : some bb ≠ (Value.slice A5 i c5).ownBlock := fun e => by
            have := (HW.out.lt _ e.symm).1
            omega
          have kept : ∀ (j : Nat) (c : Int) (o : Obj) (w1 : World), wr.cell? ⟨bb, j, none⟩ = some (.int .u8 c) → (wr.drew.alloc o).grownBy w1 (Value.slice A5 i c5).ownBlock → w1.cell? ⟨bb, j, none⟩ = some (.int .u8 c) := fun j c o w1 h hg =>
            hg.cell (a := ⟨bb, j, none⟩) ((((Below.refl wr.drew.heap.size wr.drew).alloc (Nat.le_refl _) o).cell (p := ⟨bb, j, none⟩) hbz').trans h) hneA
          clear HCS BCS HSD HBD HR HHL HBL
          go_region_held3 (fun w' => w'.cell? ⟨bb, bo + 4 * i, none⟩ = some (.int .u8 c0) ∧ w'.cell? ⟨bb, bo + (4 * i + 1), none⟩ = some (.int .u8 c1) ∧ w'.cell? ⟨bb, bo + (4 * i + 2), none⟩ = some (.int .u8 c2) ∧ w'.cell? ⟨bb, bo + (4 * i + 3), none⟩ = some (.int .u8 c3)) (first | exact ⟨k0, k1, k2, k3⟩ | exact kS | go_keep)
            (first | (go_must (refine step_append_any .u32 w.heap.size (by rfl) _ _ 22 47 4 (by rfl) Try.underlying22 info_u32 (by omega) (.slice A5 i c5) _ (schedL bs i) [_] (by rfl) (by rfl) (IOwn.alloc (show IOwn .u32 wr.drew w.heap.size 47 (.slice A5 i c5) (schedL bs i) from HW.out) _) (IRd.one wr.drew _ 47) (by simp; omega) (by simp [schedL_length]; omega) ?_; intro A1 c1' w1 hown hgr hat; have kS := And.intro (kept _ _ _ _ k0 hgr) (And.intro (kept _ _ _ _ k1 hgr) (And.intro (kept _ _ _ _ k2 hgr) (kept _ _ _ _ k3 hgr))); have HOW := Lib.hid hown; have HGR := Lib.hid hgr; clear hown hgr hat)))
          go_wp2_with fail
          go_roundw
          case rel =>
            have ex : nextW bs (schedL bs i) i = Go.bits .or .u32 (Go.bits .or .u32 (Go.bits .or .u32 (c0 * 16777216) (c1 * 65536)) (c2 * 256)) c3 := by
              rw [nextW_lo bs _ h16, E0.out, E1.out, E2.out, E3.out]
            refine ⟨i + 1, by omega, by go_num, ?_, grown_below ((below_drew' HB.out).alloc hzr _) HGR.out (by simp; omega) (fun g hg => (HW.out.lt g hg).1)⟩
            rw [schedL, ex]
            exact HOW.out
          case measure => simp [intOf]; omega
        · have hb16 : decide ((i : Int) < 16) = false := decide_eq_false (by omega)
          have hwd := schedL_wd bs i
          obtain ⟨g5, c5', hv5, _, hg5l, hg5⟩ := HW.out.form (by rw [schedL_length]; omega)
          rw [schedL_length] at hv5 hg5
          simp only [Value.slice.injEq, true_and] at hv5
          obtain ⟨rfl, rfl⟩ := hv5
          have k0 := hg5 (i - 16) (by omega)
          have k1 := hg5 (i - 7) (by omega)
          have k2 := hg5 (i - 15) (by omega)
          have k3 := hg5 (i - 2) (by omega)
          obtain ⟨u20, u21⟩ := wd_getD hwd (i - 15)
          obtain ⟨u30, u31⟩ := wd_getD hwd (i - 2)
          clear hg5 hwd
          generalize e0 : (schedL bs i).getD (i - 16) 0 = c0 at k0
          generalize e1 : (schedL bs i).getD (i - 7) 0 = c1 at k1
          generalize e2 : (schedL bs i).getD (i - 15) 0 = c2 at k2 u20 u21
          generalize e3 : (schedL bs i).getD (i - 2) 0 = c3 at k3 u30 u31
          have E0 := Lib.hid e0
          have E1 := Lib.hid e1
          have E2 := Lib.hid e2
          have E3 := Lib.hid e3
          clear e0 e1 e2 e3
          have p0 : 0 ≤ (i : Int) - 16 := by omega
          have p1 : 0 ≤ (i : Int) - 7 := by omega
          have p2 : 0 ≤ (i : Int) - 15 := by omega
          have p3 : 0 ≤ (i : Int) - 2 := by omega
          have q0 : (i : Int) - 16 < i := by omega
          have q1 : (i : Int) - 7 < i := by omega
          have q2 : (i : Int) - 15 < i := by omega
          have q3 : (i : Int) - 2 < i := by omega
          have s0 : IntKind.i64.wrap ((i : Int) - 16) = (i : Int) - 16 := IntWalk.i64_in _ (by omega)
          have s1 : IntKind.i64.wrap ((i : Int) - 7) = (i : Int) - 7 := IntWalk.i64_in _ (by omega)
          have s2 : IntKind.i64.wrap ((i : Int) - 15) = (i : Int) - 15 := IntWalk.i64_in _ (by omega)
          have s3 : IntKind.i64.wrap ((i : Int) - 2) = (i : Int) - 2 := IntWalk.i64_in _ (by omega)
          have n0 : ((i : Int) - 16).toNat = i - 16 := by omega
          have n1 : ((i : Int) - 7).toNat = i - 7 := by omega
          have n2 : ((i : Int) - 15).toNat = i - 15 := by omega
          have n3 : ((i : Int) - 2).toNat = i - 2 := by omega
          go_wp2_with fail
          go_quiet (fail)
          go_wp2_with (first | (go_at_call 36; refine (right_at _ _ (by assumption) (by assumption) (by decide) (by decide) _).mono ?_; rintro e w' ⟨rfl, rfl⟩))
          rw [← turnS_8, ← turnS_10]
          generalize e9 : turnS c2 7 18 3 true = t9
          generalize e10 : turnS c3 17 19 10 true = t10
          have E9 := Lib.hid e9
          have E10 := Lib.hid e10
          clear e9 e10 u20 u21 u30 u31
          have HWq := Lib.hid (HW.out.drewN nq)
          have HBq := Lib.hid (below_drewN' HB.out nq)
          obtain ⟨wq, hwq⟩ : ∃ wq, wq = wr.drewN nq := ⟨_, rfl⟩
          rw [← hwq] at HWq HBq ⊢
          have k0 : wq.cell? ⟨g5, i - 16, none⟩ = some (.int .u32 c0) := by rw [hwq]; exact k0
          have k1 : wq.cell? ⟨g5, i - 7, none⟩ = some (.int .u32 c1) := by rw [hwq]; exact k1
          have hzq := HBq.out.size
          clear hwq
          go_quiet (fail)
          go_wp2_with (at_builtin; refine wpList_append_one .u32 w.heap.size rfl _ _ 22 47 4 rfl Try.underlying22 info_u32 (by omega) (.slice (some ⟨g5, 0, none⟩) i c5) (schedL bs i) _ rfl rfl (IOwn.drewN HWq.out _) hzq (by rw [schedL_length]; omega) ?_; intro v1 w3 hown hgr hat; have HOW := Lib.hid hown; have HGR := Lib.hid hgr; clear hown hgr hat)
          go_roundw
          case rel =>
            have ex : nextW bs (schedL bs i) i = (c0 + c1 + t9 + t10) % 4294967296 := by
              rw [nextW_hi bs _ h16, E0.out, E1.out, E2.out, E3.out, E9.out, E10.out]
            refine ⟨i + 1, by omega, by go_num, ?_, grown_below (below_drewN' HBq.out nq) HGR.out hzq (fun g hg => (HWq.out.lt g hg).1)⟩
            rw [schedL, ex]
            exact HOW.out
          case measure => simp [intOf]; omega
      · obtain rfl : i = 64 := by omega
        have hbn : decide (((64 : Nat) : Int) < 64) = false := by decide
        go_wp2_with fail
        go_meet
        exact ⟨HW.out, HB.out⟩
  case rest =>
    obtain ⟨hW, hB⟩ := hcut
    obtain ⟨g5, c5, rfl, _, hg5l, hg5⟩ := hW.form (by rw [schedL_length]; omega)
    rw [schedL_length] at hg5
    obtain ⟨WS, hWS⟩ : ∃ l, schedL bs 64 = l := ⟨_, rfl⟩
    have hwsl : (schedL bs 64).length = 64 := schedL_length _ _
    rw [hwsl] at hW ⊢
    rw [hWS] at hg5
    have HWS := Lib.hid hWS
    have HG5 := Lib.hid hg5
    have HB := Lib.hid hB
    have hzc := hB.size
    clear hW hB hwsl hWS hg5
    go_wp2_with fail
    refine (roots_calls _).mono ?_
    rintro e w1 ⟨gr, rfl, hR1, hB1⟩
    obtain ⟨_, ⟨hR1, _⟩ | ⟨gr', o', c', hR1, hgr⟩⟩ := hR1
    · simp [ROOTS] at hR1
    have hrl : ROOTS.length = 64 := rfl
    rw [hrl] at hR1 hgr
    simp only [Value.slice.injEq, Option.some.injEq, Addr.mk.injEq, and_true, true_and] at hR1
    obtain ⟨⟨rfl, rfl⟩, rfl⟩ := hR1
    have hgrl : gr < w1.heap.size := World.block_lt_of_cell? _ _ (hgr 0 (by omega))
    generalize ROOTS = KS at HR hgr
    have HGR := Lib.hid hgr
    have HB01 := Lib.hid (below_step HB.out (by omega) hB1)
    have HG51 := Lib.hid (show ∀ j, j < 64 → w1.cell? ⟨g5, j, none⟩ = some (.int .u32 (WS.getD j 0)) from fun j hj => (hB1.cell (p := ⟨g5, j, none⟩) hg5l).trans (HG5.out j hj))
    have hz1 := hB1.size
    have hh1 : IRd .u32 w1 (.slice (some ⟨hb0, ho, none⟩) 8 hc) hs := ⟨by rw [HHL.out]; omega, .inr ⟨hb0, ho, hc, by rw [HHL.out], fun j hj => by
      have h1 := HCS.out j (by rw [← HHL.out]; exact hj)
      exact (HB01.out.cell (p := ⟨hb0, ho + j, none⟩) (World.block_lt_of_cell? _ _ h1)).trans h1⟩⟩
    have HH1 := Lib.hid hh1
    clear hB1 hgr hh1 HG5 HB
    go_wp2_with (at_builtin; refine wpList_append_ints .u32 w1.heap.size rfl _ _ 22 47 4 rfl Try.underlying22 info_u32 (by omega) (.slice (some ⟨w1.heap.size, 0, none⟩) 0 0) (.slice (some ⟨hb0, ho, none⟩) 8 hc) [] hs rfl rfl (IOwn.made .u32 w1 w1.heap.size 47 #[] 0 (by omega) (by omega) rfl) (HH1.out.alloc _) (by simp) (by rw [HHL.out]; simp) ?_; intro v2 w2 hO2 hG2 hat; rw [List.nil_append] at hO2; have HO2 := Lib.hid hO2; have HG2 := Lib.hid hG2; clear hO2 hG2 hat)
    have hB12 : Below w1.heap.size w1 w2 := grown_below ((Below.refl _ _).alloc (Nat.le_refl _) _) HG2.out (by simp) (fun g hg => by simp [Value.ownBlock] at hg; omega)
    obtain ⟨gv, cv, rfl, hgv1, hgv2, hgv⟩ := HO2.out.form (by rw [HHL.out]; omega)
    rw [HHL.out] at hgv ⊢
    have HGV := Lib.hid hgv
    have HG52 := Lib.hid (show ∀ j, j < 64 → w2.cell? ⟨g5, j, none⟩ = some (.int .u32 (WS.getD j 0)) from fun j hj => (hB12.cell (p := ⟨g5, j, none⟩) (by show g5 < _; omega)).trans (HG51.out j hj))
    have HGR2 := Lib.hid (show ∀ j, j < 64 → w2.cell? ⟨gr, j, none⟩ = some (.int .u32 (KS.getD j 0)) from fun j hj => (hB12.cell (p := ⟨gr, j, none⟩) hgrl).trans (by have := HGR.out j hj; rwa [Nat.zero_add] at this))
    have HB02 := Lib.hid (HB01.out.trans (hB12.mono (by omega)))
    have hz2 := hB12.size
    clear hB12 hgv HG51 HGR HB01 HG2 HO2 HH1
    obtain ⟨wo, hwo⟩ : ∃ wo : World, wo = w2 := ⟨_, rfl⟩
    subst hwo
    have hg5o : g5 < wo.heap.size := by omega
    have hgro : gr < wo.heap.size := by omega
    go_loopw [13, 14] (fun s13 s14 wr => ∃ n g c : Nat, n ≤ 64 ∧ s14 = .int .i64 (n : Int) ∧ s13 = .slice (some ⟨g, 0, none⟩) 8 c ∧ w1.heap.size ≤ g ∧ (∀ j, j < 8 → wr.cell? ⟨g, j, none⟩ = some (.int .u32 ((roundsS KS WS hs n).getD j 0))) ∧ (0 < n → IBlk .u32 wr g 47 (roundsS KS WS hs n)) ∧ Below wo.heap.size wo wr)
      (fun _ s _ => 64 - (intOf s).toNat)
    case atStart => exact ⟨0, gv, cv, by omega, rfl, rfl, hgv1, HGV.out, fun h => absurd h (by omega), Below.refl _ _⟩
    case round =>
      obtain ⟨n, g, c, hn, rfl, rfl, hg1, hV, hI, hB⟩ := hrel
      have HI := Lib.hid hI
      have HB := Lib.hid hB
      have hzr := hB.size
      clear hI hB
      by_cases hlt2 : n < 64
      · have hbn : decide ((n : Int) < 64) = true := decide_eq_true (by omega)
        have hkx : wr.cell? ⟨gr, n, none⟩ = some (.int .u32 (KS.getD n 0)) := (HB.out.cell (p := ⟨gr, n, none⟩) hgro).trans (HGR2.out n hlt2)
        have hwx : wr.cell? ⟨g5, n, none⟩ = some (.int .u32 (WS.getD n 0)) := (HB.out.cell (p := ⟨g5, n, none⟩) hg5o).trans (HG52.out n hlt2)
        have b0 := hV 0 (by omega)
        have b1 := hV 1 (by omega)
        have b2 := hV 2 (by omega)
        have b3 := hV 3 (by omega)
        have b4 := hV 4 (by omega)
        have b5 := hV 5 (by omega)
        have b6 := hV 6 (by omega)
        have b7 := hV 7 (by omega)
        have hwd := roundsS_wd KS WS hs HSD.out n
        clear hV
        generalize eK : KS.getD n 0 = K at hkx
        generalize eX : WS.getD n 0 = X at hwx
        generalize eV : roundsS KS WS hs n = V at b0 b1 b2 b3 b4 b5 b6 b7 hwd
        have EK := Lib.hid eK
        have EX := Lib.hid eX
        have EV := Lib.hid eV
        clear eK eX eV
        obtain ⟨l0, u0⟩ := wd_getD hwd 0
        obtain ⟨l4, u4⟩ := wd_getD hwd 4
        have hc6 := ch_eq (V.getD 4 0) (V.getD 6 0) (wd_getD hwd 4) (wd_getD hwd 6)
        clear hwd
        generalize e0 : V.getD 0 0 = y0 at b0 l0 u0
        generalize e1 : V.getD 1 0 = y1 at b1
        generalize e2 : V.getD 2 0 = y2 at b2
        generalize e3 : V.getD 3 0 = y3 at b3
        generalize e4 : V.getD 4 0 = y4 at b4 l4 u4 hc6
        generalize e5 : V.getD 5 0 = y5 at b5
        generalize e6 : V.getD 6 0 = y6 at b6 hc6
        generalize e7 : V.getD 7 0 = y7 at b7
        have E0 := Lib.hid e0
        have E1 := Lib.hid e1
        have E2 := Lib.hid e2
        have E3 := Lib.hid e3
        have E4 := Lib.hid e4
        have E5 := Lib.hid e5
        have E6 := Lib.hid e6
        have E7 := Lib.hid e7
        have HC6 := Lib.hid hc6
        clear e0 e1 e2 e3 e4 e5 e6 e7 hc6
        have m4 : IntKind.u32.wrap (4294967295 - y4) = 4294967295 - y4 := by rw [IntKind.wrap_u32']; omega
        go_wp2_with fail
        go_quiet (fail)
        obtain ⟨wq, hwq⟩ : ∃ wq, wq = wr.drewN nq := ⟨_, rfl⟩
        rw [← hwq]
        have HBq := Lib.hid (show Below wo.heap.size wo wq by rw [hwq]; exact below_drewN' HB.out nq)
        have hkx : wq.cell? ⟨gr, n, none⟩ = some (.int .u32 K) := by rw [hwq]; exact hkx
        have hwx : wq.cell? ⟨g5, n, none⟩ = some (.int .u32 X) := by rw [hwq]; exact hwx
        have b3 : wq.cell? ⟨g, 3, none⟩ = some (.int .u32 y3) := by rw [hwq]; exact b3
        have b7 : wq.cell? ⟨g, 7, none⟩ = some (.int .u32 y7) := by rw [hwq]; exact b7
        have hzq := HBq.out.size
        clear hwq b0 b1 b2 b4 b5 b6
        go_wp2_with fail
        go_quiet ((go_at_call 36; exact quietSame (right_at _ _ (by assumption) (by assumption) (by decide) (by decide) _)))
        obtain ⟨T, hT⟩ : ∃ T, T = ((y7 + Go.bits .xor .u32 (Go.bits .xor .u32 (rotl y4 (-6)) (rotl y4 (-11))) (rotl y4 (-25)) + Go.bits .or .u32 (Go.bits .and .u32 y4 y5) (Go.bits .and .u32 (4294967295 - y4) y6) + K) % 4294967296 + X) % 4294967296 := ⟨_, rfl⟩
        rw [← hT]
        have HT := Lib.hid hT
        obtain ⟨wz, hwz⟩ : ∃ wz, wz = wq.drewN nq := ⟨_, rfl⟩
        rw [← hwz]
        have HBz := Lib.hid (show Below wo.heap.size wo wz by rw [hwz]; exact below_drewN' HBq.out nq)
        have b3 : wz.cell? ⟨g, 3, none⟩ = some (.int .u32 y3) := by rw [hwz]; exact b3
        have hzz := HBz.out.size
        clear hwz hT b7 hkx hwx m4
        go_wp2_with (first | (go_at_call 36; refine (right_at _ _ (by assumption) (by assumption) (by decide) (by decide) _).mono ?_; rintro e w' ⟨rfl, rfl⟩))
        go_roundw
        case rel =>
          have er : roundsS KS WS hs (n + 1) = [(T + (Go.bits .xor .u32 (Go.bits .xor .u32 (rotl y0 (-2)) (rotl y0 (-13))) (rotl y0 (-22)) + Go.bits .or .u32 (Go.bits .or .u32 (Go.bits .and .u32 y0 y1) (Go.bits .and .u32 y0 y2)) (Go.bits .and .u32 y1 y2))) % 4294967296, y0, y1, y2, (y3 + T) % 4294967296, y4, y5, y6] := by
            rw [roundsS_succ, EV.out, EK.out, EX.out, HT.out, HC6.out]
            simp only [roundS, tS, uS, E0.out, E1.out, E2.out, E3.out, E4.out, E5.out, E6.out, E7.out, turnS_f, List.cons.injEq, true_and, and_true]
            constructor <;> omega
          have hI := IBlk.new .u32 wz (roundsS KS WS hs (n + 1)) 47
          have hl8 := roundsS_length KS WS hs (n + 1) HHL.out
          rw [er] at hl8 hI
          refine ⟨n + 1, wz.heap.size, 8, by omega, by go_num, rfl, by omega, fun j hj => ?_, fun _ => ?_, HBz.out.alloc hzz _⟩
          · rw [er]; exact hI.cell (by rw [hl8]; exact hj)
          · rw [er]; exact hI
        case measure => simp [intOf]; omega
      · obtain rfl : n = 64 := by omega
        have hbn : decide (((64 : Nat) : Int) < 64) = false := by decide
        have hV0 := HI.out (by omega)
        have hvl := roundsS_length KS WS hs 64 HHL.out
        obtain ⟨VV, hVV⟩ : ∃ V, V = roundsS KS WS hs 64 := ⟨_, rfl⟩
        rw [← hVV] at hV0 hvl
        have HVV := Lib.hid hVV
        have HV0 := Lib.hid hV0
        have HVL := Lib.hid hvl
        have hhr : ∀ j, j < 8 → wr.cell? ⟨hb0, ho + j, none⟩ = some (.int .u32 (hs.getD j 0)) := fun j hj => by
          have h1 := HCS.out j hj
          have h2 := World.block_lt_of_cell? _ _ h1
          exact (HB.out.cell (p := ⟨hb0, ho + j, none⟩) (Nat.lt_of_lt_of_le h2 HB02.out.size)).trans ((HB02.out.cell (p := ⟨hb0, ho + j, none⟩) h2).trans h1)
        have hbh : hb0 < w.heap.size := World.block_lt_of_cell? _ _ (HCS.out 0 (by omega))
        have HHR := Lib.hid hhr
        have HB0r := Lib.hid (HB02.out.trans (HB.out.mono (by have := HB02.out.size; omega)))
        clear hV hV0 hVV hvl hhr
        obtain ⟨wo, hwo⟩ : ∃ wo : World, wo = wr := ⟨_, rfl⟩
        subst hwo
        go_wp2_with fail
        go_loopw [23] (fun s23 wr => ∃ m : Nat, m ≤ 8 ∧ s23 = .int .i64 (m : Int) ∧ IBlk .u32 wr g 47 (sumS' hs VV m) ∧ wo.grownBy wr (some g))
          (fun s _ => 8 - (intOf s).toNat)
        case atStart => exact ⟨0, by omega, rfl, HV0.out, grown_refl _ _⟩
        case round =>
          obtain ⟨m, hm, rfl, hV, hG⟩ := hrel
          have HV := Lib.hid hV
          have HG := Lib.hid hG
          clear hV hG
          by_cases hlt3 : m < 8
          · have hbm : decide ((m : Int) < 8) = true := decide_eq_true (by omega)
            have hvl3 := sumS'_length hs VV m
            have kv := HV.out.cell (j := m) (by rw [hvl3, HVL.out]; exact hlt3)
            have fv : wr.frozen? ⟨g, m, none⟩ = false := Blk.frozen HV.out m
            have kh : wr.cell? ⟨hb0, ho + m, none⟩ = some (.int .u32 (hs.getD m 0)) := HG.out.cell (a := ⟨hb0, ho + m, none⟩) (HHR.out m hlt3) (by simp; omega)
            generalize e0 : (sumS' hs VV m).getD m 0 = y0 at kv
            generalize e1 : hs.getD m 0 = y1 at kh
            have E0 := Lib.hid e0
            have E1 := Lib.hid e1
            clear e0 e1 hvl3
            go_wp2_with fail
            refine wp_region_quiet_tail 12 (by kernel_rfl) (by kernel_rfl) ?_
            simp only [List.take_succ_cons, List.take_zero, List.drop_succ_cons, List.drop_zero]
            repeat (go_big_quiet_step (fail))
            refine wpQuiet_nil ?_
            intro wq hwq
            obtain ⟨nq, rfl⟩ := hwq
            go_wp2
            go_roundw
            case rel =>
              refine ⟨m + 1, by omega, by go_num, ?_, ?_⟩
              · have h3 := IBlk.set (k := .u32) (HV.out.drewN nq) m ((y0 + y1) % 4294967296)
                rw [← E0.out, ← E1.out] at h3
                rw [← E0.out, ← E1.out]
                exact h3
              · exact grown_set (grown_drewN HG.out nq) _ _
            case measure => simp [intOf]; omega
          · obtain rfl : m = 8 := by omega
            have hbm : decide (((8 : Nat) : Int) < 8) = false := by decide
            go_wp2_with fail
            go_ret
            refine ⟨_, rfl, ?_, HB0r.out.grown HG.out (HB0r.out.size) (by simp; omega)⟩
            have hR : R = sumS' hs VV 8 := by rw [HR.out, sumS_eq hs VV HHL.out HVL.out, HVV.out, ← HWS.out]; rfl
            have hRl : R.length = 8 := by rw [hR, sumS'_length, HVL.out]
            refine ⟨by omega, .inr ⟨g, 0, c, by rw [hRl]; rfl, fun j hj => ?_⟩⟩
            rw [Nat.zero_add, hR]
            exact HV.out.cell (by rw [← hR]; exact hj)
end Go.Proofs.Ytejmbkmjonmpcaa
