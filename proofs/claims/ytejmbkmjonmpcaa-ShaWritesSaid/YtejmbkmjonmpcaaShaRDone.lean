/- The reference's Write in one form; its Done. -/
import Derived.Test.YtejmbkmjonmpcaaShaRWrite
set_option linter.unusedVariables false
set_option linter.unusedSimpArgs false
namespace Go.Proofs.Ytejmbkmjonmpcaa
open Go.RowKit

theorem rwrite_calls (v vx : Value) (hs bs xs : List Int) (n : Int) (w : World) (hv : ShaV w v hs bs n) (hx : IRd .u8 w vx xs) (hn : 0 ≤ n) (hxl : xs.length ≤ 1000000) (hsd : ∀ x ∈ hs, Wd x)
    (hbd : ∀ x ∈ bs, 0 ≤ x ∧ x ≤ 255) (hxd : ∀ x ∈ xs, 0 ≤ x ∧ x ≤ 255) :
    Calls Try.prog 7 #[v, vx] w fun e w' => ∃ v', e = .returned v' ∧ ShaV w' v' (writeH hs bs n xs) (writeB hs bs n xs) (writeN hs bs n xs) ∧ Below w.heap.size w w' := by
  obtain ⟨vh, vb, rfl, h1, h2⟩ := hv
  unfold writeH writeB writeN
  cases hc : checkS hs.length bs.length n with
  | false =>
    refine (rwrite_no vx vh vb hs bs n w h1 h2 hn hc).mono ?_
    rintro e w' ⟨rfl, hB⟩
    exact ⟨_, rfl, ⟨_, _, rfl, h1.below hB, h2.below hB⟩, hB⟩
  | true =>
    obtain ⟨c1, c2, c3⟩ := checkS_yes hc
    refine (rwrite_yes vx vh vb hs bs xs n w h1 h2 hx hn c1 c2 hxl hsd (fun x hx' => (List.mem_append.1 hx').elim (hbd x) (hxd x)) hc).mono ?_
    rintro e w' ⟨vh', vb', rfl, r1, r2, hB⟩
    exact ⟨_, rfl, ⟨_, _, rfl, r1, r2⟩, hB⟩

set_option maxRecDepth 100000 in
set_option maxHeartbeats 4000000 in
theorem rdone_no (vh vb : Value) (hs bs : List Int) (n : Int) (w : World) (hh : IRd .u32 w vh hs) (hb : IRd .u8 w vb bs) (hn : 0 ≤ n) (hc : checkS hs.length bs.length n = false) :
    Calls Try.prog 11 #[.agg #[vh, vb, .int .u64 n]] w fun e w' => e = .returned (.slice none 0 0) ∧ Below w.heap.size w w' := by
  obtain ⟨A, ch, rfl⟩ := hh.slice
  obtain ⟨B, cb, rfl⟩ := hb.slice
  have hbl := hb.1
  have HC := Lib.hid hc
  clear hh hc hb
  go_enter Try.func11, Try.ntmps11
  go_wp2_with fail
  refine (rcheck_calls A B hs.length bs.length ch cb n hbl hn _).mono ?_
  rintro e w1 ⟨rfl, hB⟩
  rw [HC.out]
  have hB0 : Below w.heap.size w w1 := Below.trans ((((Below.refl _ _).alloc (Nat.le_refl _) _))) (hB.mono (by simp))
  have HB0 := Lib.hid hB0
  clear hB hB0
  go_wp2_with fail
  go_ret
  exact ⟨rfl, HB0.out⟩

theorem rep_snoc (k : Nat) (x y : Int) : (y :: List.replicate k x) ++ [x] = y :: List.replicate (k + 1) x := by
  rw [List.replicate_succ']; rfl
theorem IOwn.lit1 (w : World) (e : Nat) (y : Int) : IOwn .u8 (w.alloc (.cells #[.int .u8 y] e)) w.heap.size e (.slice (some ⟨w.heap.size, 0, none⟩) 1 1) [y] := by
  refine ⟨by simp, .inr ⟨w.heap.size, 1, _, by simp, Nat.le_refl _, heap_alloc_new w _, by simp, by unfold maxLen; omega, by simp, by simp⟩⟩

set_option maxRecDepth 100000 in
set_option maxHeartbeats 4000000 in
theorem rdone_yes (vh vb : Value) (hs bs : List Int) (n : Int) (w : World) (hh : IRd .u32 w vh hs) (hb : IRd .u8 w vb bs) (hn : 0 ≤ n) (hhl : hs.length = 8) (hbl : bs.length < 64) (hsd : ∀ x ∈ hs, Wd x)
    (hbd : ∀ x ∈ bs, 0 ≤ x ∧ x ≤ 255) (hc : checkS hs.length bs.length n = true) (D : List Int) (hD : D = outB (foldS ROOTS hs (bs ++ tailS bs.length n) ((bs ++ tailS bs.length n).length / 64)) 8) :
    Calls Try.prog 11 #[.agg #[vh, vb, .int .u64 n]] w fun e w' => ∃ v, e = .returned v ∧ IOwn .u8 w' w.heap.size 5 v D ∧ Below w.heap.size w w' := by
  have HD := Lib.hid hD
  clear hD
  obtain ⟨A, ch, rfl⟩ := hh.slice
  obtain ⟨B, cb, rfl⟩ := hb.slice
  have HH := Lib.hid hh
  have HBS := Lib.hid hb
  have HBD := Lib.hid hbd
  have HSD := Lib.hid hsd
  have HC := Lib.hid hc
  have HHL := Lib.hid hhl
  clear hh hc hb hbd hhl hsd
  go_enter Try.func11, Try.ntmps11
  go_wp2_with fail
  refine (rcheck_calls A B hs.length bs.length ch cb n HBS.out.1 hn _).mono ?_
  rintro e w1 ⟨rfl, hB⟩
  rw [HC.out]
  have hb2 : Blk w1 w.heap.size 26 [.slice A hs.length ch, .slice B bs.length cb, .int .u64 n] :=
    Blk.below (Blk.new w [.slice A hs.length ch, .slice B bs.length cb, .int .u64 n] 26) hB (by simp)
  have hB0 : Below w.heap.size w w1 := Below.trans ((((Below.refl _ _).alloc (Nat.le_refl _) _))) (hB.mono (by simp))
  have hz1 : w.heap.size < w1.heap.size := hb2.lt
  have HB0 := Lib.hid hB0
  have HB2 := Lib.hid hb2
  clear hB hB0 hb2
  go_wp2_with fail
  go_loopw [3] (fun s3 wr => ∃ k : Nat, k ≤ (119 - bs.length) % 64 ∧ IOwn .u8 wr w1.heap.size 5 s3 (128 :: List.replicate k 0) ∧ Below w1.heap.size w1 wr)
    (fun s3 _ => 100 - lenOf s3)
  case atStart => exact ⟨0, by omega, IOwn.lit1 w1 _ _, (Below.refl _ _).alloc (Nat.le_refl _) _⟩
  case round =>
    obtain ⟨k, hk, hO, hB⟩ := hrel
    obtain ⟨A3, c3, rfl⟩ := hO.rd.slice
    rw [show (128 :: List.replicate k (0 : Int)).length = k + 1 by simp] at hO ⊢
    have k1 : wr.cell? ⟨w.heap.size, 1, none⟩ = some (.slice B bs.length cb) := Blk.cell (Blk.below HB2.out hB hz1) rfl
    have HO := Lib.hid hO
    have HB := Lib.hid hB
    have hzr := hB.size
    clear hO hB
    by_cases hlt : k < (119 - bs.length) % 64
    · have hb : ((((bs.length : Int) + ((k : Int) + 1)) % 64) != 56) = true := by rw [bne_iff_ne]; omega
      go_wp2_with (at_builtin; refine wpList_append_one .u8 w1.heap.size rfl _ _ 23 5 1 rfl Try.underlying23 info_u8 (by omega) (.slice A3 (k + 1) c3) (128 :: List.replicate k 0) _ rfl rfl HO.out hzr (by simp; omega) ?_; intro v1 w3 hown hgr hat; have HOW := Lib.hid hown; have HGR := Lib.hid hgr; clear hown hgr hat)
      have ho : IOwn .u8 w3 w1.heap.size 5 v1 (128 :: List.replicate (k + 1) 0) := by rw [← rep_snoc]; exact HOW.out
      obtain ⟨A4, c4, rfl⟩ := ho.rd.slice
      have HOW2 := Lib.hid ho
      clear ho HOW
      go_roundw
      case rel => exact ⟨k + 1, by omega, HOW2.out, grown_below HB.out HGR.out hzr (fun g hg => (HO.out.lt g hg).1)⟩
      case measure => simp [lenOf]; omega
    · have hb : ((((bs.length : Int) + ((k : Int) + 1)) % 64) != 56) = false := by
        rw [Bool.eq_false_iff]; simp; omega
      obtain rfl : k = (119 - bs.length) % 64 := by omega
      have HO3 := Lib.hid (show IOwn .u8 wr w1.heap.size 5 (.slice A3 ((119 - bs.length) % 64 + 1) c3) (padS bs.length) from HO.out)
      have hpl : (padS bs.length).length = (119 - bs.length) % 64 + 1 := by simp [padS]
      have HPL := Lib.hid hpl
      generalize hT0 : padS bs.length = T0 at HO3 HPL
      have HT0 := Lib.hid hT0
      have k2 : wr.cell? ⟨w.heap.size, 2, none⟩ = some (.int .u64 n) := Blk.cell (Blk.below HB2.out HB.out hz1) rfl
      have HB03 := Lib.hid (below_step HB0.out (by omega) HB.out)
      have HB23 := Lib.hid (Blk.below HB2.out HB.out hz1)
      clear hpl hT0 HO HB0 HB2
      have n8 : 0 ≤ IntKind.u64.wrap (n * 8) ∧ IntKind.u64.wrap (n * 8) < 18446744073709551616 := by
        simp only [IntKind.wrap, IntKind.bits, IntKind.signed]
        simp
        omega
      go_upto_block 0 with (fail)
      have e20 : (((bs.length : Int) + (((119 - bs.length : Nat) : Int) % 64 + 1)) % 64 != 56) = false := by
        rw [Bool.eq_false_iff]; simp; omega
      rw [e20]
      clear e20 hb
      generalize hN8 : IntKind.u64.wrap (n * 8) = N8 at n8
      have HN8 := Lib.hid hN8
      clear hN8
      obtain ⟨n8a, n8b⟩ := n8
      obtain ⟨wo, hwo⟩ : ∃ wo : World, wo = wr := ⟨_, rfl⟩
      subst hwo
      go_loopw [3, 5] (fun s3 s5 wr => ∃ i : Nat, i ≤ 8 ∧ s5 = .int .i64 (7 - (i : Int)) ∧ IOwn .u8 wr w1.heap.size 5 s3 (T0 ++ lenB n i) ∧ Below w1.heap.size wo wr)
        (fun _ s5 _ => (8 + intOf s5).toNat)
      case atStart => exact ⟨0, by omega, rfl, by rw [lenB, List.append_nil]; exact HO3.out, Below.refl _ _⟩
      case round =>
        obtain ⟨i, hi, rfl, hO, hB⟩ := hrel
        obtain ⟨A4, c4, rfl⟩ := hO.rd.slice
        have hll : (T0 ++ lenB n i).length = (119 - bs.length) % 64 + 1 + i := by rw [List.length_append, HPL.out, lenB_length]
        generalize hTI : T0 ++ lenB n i = TI at hO hll
        have HTI := Lib.hid hTI
        have HLL := Lib.hid hll
        have HO := Lib.hid hO
        have HB := Lib.hid hB
        have hzr := hB.size
        have hz13 : w1.heap.size ≤ wr.heap.size := by omega
        clear hll hO hB hTI
        by_cases hi8 : i < 8
        · have hb : decide ((0 : Int) ≤ 7 - (i : Int)) = true := decide_eq_true (by omega)
          have he : (8 * (7 - (i : Int))).toNat = 56 - 8 * i := by omega
          go_wp2_with (at_builtin; refine wpList_append_one .u8 w1.heap.size rfl _ _ 23 5 1 rfl Try.underlying23 info_u8 (by omega) (.slice A4 TI.length c4) TI _ rfl rfl HO.out hz13 (by rw [HLL.out]; omega) ?_; intro v1 w3 hown hgr hat; have HOW := Lib.hid hown; have HGR := Lib.hid hgr; clear hown hgr hat)
          go_roundw
          case rel =>
            refine ⟨i + 1, by omega, by go_num, ?_, grown_below HB.out HGR.out hz13 (fun g hg => (HO.out.lt g hg).1)⟩
            rw [lenB, ← List.append_assoc, HTI.out, HN8.out]
            exact HOW.out
          case measure => simp [intOf]; omega
        · obtain rfl : i = 8 := by omega
          have hb : decide ((0 : Int) ≤ 7 - ((8 : Nat) : Int)) = false := by decide
          have HTI' := Lib.hid (show TI = tailS bs.length n by rw [← HTI.out, ← HT0.out]; rfl)
          have HB0r := Lib.hid (HB03.out.trans (HB.out.mono (by omega)))
          have hb2r := Blk.below HB23.out HB.out (by omega)
          have k0 := Blk.cell (j := 0) hb2r rfl
          have k1 := Blk.cell (j := 1) hb2r rfl
          have k2 := Blk.cell (j := 2) hb2r rfl
          have HTR := Lib.hid HO.out.rd
          have HHR := Lib.hid (HH.out.below HB0r.out)
          have HBR := Lib.hid (HBS.out.below HB0r.out)
          clear hb2r HB03 HB23 HO3 HTI HT0 HPL
          go_wp2_with fail
          have hby : ∀ x ∈ TI, 0 ≤ x ∧ x ≤ 255 := by
            intro x hx
            rw [HTI'.out, tailS, List.mem_append] at hx
            rcases hx with hx | hx
            · exact padS_bytes _ x hx
            · exact lenB_bytes _ _ x hx
          refine (rwrite_yes _ _ _ hs bs TI n wr HHR.out HBR.out HTR.out hn HHL.out hbl (by rw [HLL.out]; omega) HSD.out (fun x hx => (List.mem_append.1 hx).elim (HBD.out x) (hby x)) HC.out).mono ?_
          rintro e w4 ⟨vh', vb', rfl, hF, hbuf, hB4⟩
          obtain ⟨B4, cb4, rfl⟩ := hbuf.slice
          clear hbuf
          have hfl : (foldS ROOTS hs (bs ++ TI) ((bs ++ TI).length / 64)).length = 8 := foldS_length _ _ _ HHL.out _
          rw [HTI'.out] at hF hfl
          have HD2 : Hid (D = outB (foldS ROOTS hs (bs ++ tailS bs.length n) ((bs ++ tailS bs.length n).length / 64)) 8) := HD
          clear HD
          generalize hF0 : foldS ROOTS hs (bs ++ tailS bs.length n) ((bs ++ tailS bs.length n).length / 64) = F at hF hfl HD2
          obtain ⟨_, ⟨rfl, _⟩ | ⟨fb, fo, fc, rfl, hfc⟩⟩ := hF
          · simp at hfl
          rw [hfl] at hfc ⊢
          have HFC := Lib.hid hfc
          have HB04 := Lib.hid (HB0r.out.trans (hB4.mono (by have := HB0r.out.size; omega)))
          have hzw := hB4.size
          have hfbl : fb < w4.heap.size := by
            have := hfc 0 (by omega)
            exact World.block_lt_of_cell? _ _ this
          have HFL := Lib.hid hfl
          clear hfc hB4 hby hfl hF0 HBR HHR HTR k0 k1 k2 HO HB HB0r HTI' HLL
          generalize ((bs ++ TI).drop (64 * ((bs ++ TI).length / 64))).length = l4
          go_upto_block 0 with (fail)
          refine wp_world (fun w5 => Blk w5 w4.heap.size 26 [.slice (some ⟨fb, fo, none⟩) 8 fc, .slice B4 l4 cb4, .int .u64 (IntKind.u64.wrap (n + (TI.length : Int)))] ∧ Below w4.heap.size w4 w5 ∧ w5.heap.size = w4.heap.size + 1) ⟨Blk.new w4 _ _, (Below.refl _ _).alloc (Nat.le_refl _) _, by simp⟩ ?_
          rintro w5 ⟨hb5, hB5, hz5⟩
          have HB5 := Lib.hid hb5
          have HB05 := Lib.hid (HB04.out.trans (hB5.mono (by have := HB04.out.size; omega)))
          have HFC5 := Lib.hid (show ∀ j, j < 8 → w5.cell? ⟨fb, fo + j, none⟩ = some (.int .u32 (F.getD j 0)) from fun j hj => (hB5.cell (p := ⟨fb, fo + j, none⟩) hfbl).trans (HFC.out j hj))
          have hfb5 : fb < w5.heap.size := by omega
          have hw45 : w4.heap.size < w5.heap.size := by omega
          clear hb5 hB5 hz5 HB04 HFC hzw
          go_loopw [7, 8] (fun s7 s8 wr => ∃ i : Nat, i ≤ 8 ∧ s8 = .int .i64 (i : Int) ∧ IOwn .u8 wr w5.heap.size 5 s7 (outB F i) ∧ Below w5.heap.size w5 wr)
            (fun _ s8 _ => 8 - (intOf s8).toNat)
          case atStart => exact ⟨0, by omega, rfl, IOwn.nil _ _ _ _, Below.refl _ _⟩
          case round =>
            obtain ⟨i, hi, rfl, hO, hB⟩ := hrel
            obtain ⟨A5, c5, rfl⟩ := hO.rd.slice
            have hol := outB_length F i
            generalize hOI : outB F i = OI at hO hol
            have HOI := Lib.hid hOI
            have HOL := Lib.hid hol
            have HO := Lib.hid hO
            have HB := Lib.hid hB
            have hzr := hB.size
            clear hol hO hB hOI
            by_cases hi8 : i < 8
            · have hb : decide ((i : Int) < 8) = true := decide_eq_true (by omega)
              have i0 : (0 : Int) ≤ (i : Int) := by omega
              have i1 : (i : Int) < 8 := by omega
              have kd : wr.cell? ⟨w4.heap.size, 0, none⟩ = some (.slice (some ⟨fb, fo, none⟩) 8 fc) := Blk.cell (Blk.below HB5.out HB.out hw45) rfl
              have kf : wr.cell? ⟨fb, fo + i, none⟩ = some (.int .u32 (F.getD i 0)) := (HB.out.cell (p := ⟨fb, fo + i, none⟩) hfb5).trans (HFC5.out i hi8)
              generalize hxf : F.getD i 0 = xf at kf
              have HXF := Lib.hid hxf
              clear hxf
              go_wp2_with fail
              have hne : some fb ≠ (Value.slice A5 OI.length c5).ownBlock := fun e => by
                have := (HO.out.lt _ e.symm).1
                omega
              have hne4 : some w4.heap.size ≠ (Value.slice A5 OI.length c5).ownBlock := fun e => by
                have := (HO.out.lt _ e.symm).1
                omega
              have hbr : fb < wr.heap.size := by omega
              have hbr4 : w4.heap.size < wr.heap.size := by omega
              have kept : ∀ (g j : Nat) (u : Value) (o : Obj) (w1 : World), g < wr.heap.size → some g ≠ (Value.slice A5 OI.length c5).ownBlock → wr.cell? ⟨g, j, none⟩ = some u → (wr.drew.alloc o).grownBy w1 (Value.slice A5 OI.length c5).ownBlock → w1.cell? ⟨g, j, none⟩ = some u := fun g j u o w1 hg hn h hgr =>
                hgr.cell (a := ⟨g, j, none⟩) ((((Below.refl wr.drew.heap.size wr.drew).alloc (Nat.le_refl _) o).cell (p := ⟨g, j, none⟩) hg).trans h) hn
              have HKEPT := Lib.hid kept
              have HNE := Lib.hid hne
              have HNE4 := Lib.hid hne4
              clear kept hne hne4 HFL HHL HSD HBD
              go_region_held3 (fun w' => w'.cell? ⟨w4.heap.size, 0, none⟩ = some (.slice (some ⟨fb, fo, none⟩) 8 fc) ∧ w'.cell? ⟨fb, fo + i, none⟩ = some (.int .u32 xf)) (first | exact ⟨kd, kf⟩ | exact kS | go_keep)
                (first | (go_must (refine step_append_any .u8 w5.heap.size (by rfl) _ _ 23 5 1 (by rfl) Try.underlying23 info_u8 (by omega) (.slice A5 OI.length c5) _ OI [xf / 16777216 % 256, xf / 65536 % 256, xf / 256 % 256, xf % 256] (by rfl) (by rfl) (IOwn.alloc (show IOwn .u8 wr.drew w5.heap.size 5 (.slice A5 OI.length c5) OI from HO.out) _) (IRd.new4 wr.drew 5 _ _ _ _) (by simp; omega) (by rw [HOL.out]; simp; omega) ?_; intro A1 c1' w1 hown hgr hat; have kS := And.intro (HKEPT.out _ _ _ _ _ hbr4 HNE4.out kd hgr) (HKEPT.out _ _ _ _ _ hbr HNE.out kf hgr); have HOW := Lib.hid hown; have HGR := Lib.hid hgr; clear hown hgr hat)))
              go_wp2_with fail
              go_roundw
              case rel =>
                refine ⟨i + 1, by omega, by go_num, ?_, grown_below ((below_drew' HB.out).alloc hzr _) HGR.out (by simp; omega) (fun g hg => (HO.out.lt g hg).1)⟩
                rw [outB, HOI.out, HXF.out]
                exact HOW.out
              case measure => simp [intOf]; omega
            · obtain rfl : i = 8 := by omega
              have hb : decide (((8 : Nat) : Int) < 8) = false := by decide
              go_wp2_with fail
              go_ret
              refine ⟨_, rfl, ?_, HB05.out.trans (HB.out.mono (by have := HB05.out.size; omega))⟩
              rw [HD2.out, HOI.out]
              exact HO.out.base_mono HB05.out.size
theorem rdone_calls (v : Value) (hs bs : List Int) (n : Int) (w : World) (hv : ShaV w v hs bs n) (hn : 0 ≤ n) (hsd : ∀ x ∈ hs, Wd x) (hbd : ∀ x ∈ bs, 0 ≤ x ∧ x ≤ 255) :
    Calls Try.prog 11 #[v] w fun e w' => ∃ v', e = .returned v' ∧ IRd .u8 w' v' (doneS hs bs n) ∧ Below w.heap.size w w' := by
  obtain ⟨vh, vb, rfl, h1, h2⟩ := hv
  unfold doneS
  cases hc : checkS hs.length bs.length n with
  | false =>
    refine (rdone_no vh vb hs bs n w h1 h2 hn hc).mono ?_
    rintro e w' ⟨rfl, hB⟩
    exact ⟨_, rfl, ⟨by simp, .inl ⟨rfl, .inl rfl⟩⟩, hB⟩
  | true =>
    obtain ⟨c1, c2, c3⟩ := checkS_yes hc
    refine (rdone_yes vh vb hs bs n w h1 h2 hn c1 c2 hsd hbd hc _ rfl).mono ?_
    rintro e w' ⟨v', rfl, r1, hB⟩
    exact ⟨_, rfl, r1.rd, hB⟩
end Go.Proofs.Ytejmbkmjonmpcaa
