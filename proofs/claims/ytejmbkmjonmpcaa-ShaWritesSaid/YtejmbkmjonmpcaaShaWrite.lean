/- sha.Write. -/
import Derived.Test.YtejmbkmjonmpcaaShaClone
import Derived.Test.YtejmbkmjonmpcaaShaNew
import Derived.Test.YtejmbkmjonmpcaaShaBlock
import Derived.Deep.DeepMust
import Derived.Deep.DeepCutAuto
import Derived.Deep.CutBlock
set_option linter.unusedVariables false
set_option linter.unusedSimpArgs false
namespace Go.Proofs.Ytejmbkmjonmpcaa
open Go.RowKit

theorem arrayAt8 (a : Addr) (c : Nat) (w : World) : (Instr.arrayAt 48 (.slice (some a) 8 c)).run Try.prog w = .ok (.pointer (some a)) w := by kernel_rfl

theorem getD_dt (l : List Int) (m i : Nat) (h : i < 64) : ((l.drop m).take 64).getD i 0 = l.getD (m + i) 0 := by
  simp [List.getD_eq_getElem?_getD, h]
theorem bd_dt (l : List Int) (m i : Nat) (hb : ∀ j, 0 ≤ l.getD j 0 ∧ l.getD j 0 ≤ 255) : 0 ≤ ((l.drop m).take 64).getD i 0 ∧ ((l.drop m).take 64).getD i 0 ≤ 255 := by
  by_cases h : i < 64
  · rw [getD_dt l m i h]; exact hb _
  · have : ((l.drop m).take 64).getD i 0 = 0 := by
      rw [List.getD_eq_getElem?_getD, List.getElem?_eq_none (by simp; omega)]; rfl
    omega
theorem drop_rd (l : List Int) (m g c : Nat) (w : World) (hl : l.length ≤ 9223372036854775807) (hc : ∀ j, j < l.length → w.cell? ⟨g, j, none⟩ = some (.int .u8 (l.getD j 0))) : IRd .u8 w (.slice (some ⟨g, m, none⟩) (l.length - m) c) (l.drop m) := by
  refine ⟨by simp; omega, .inr ⟨g, m, c, by simp, fun j hj => ?_⟩⟩
  rw [List.length_drop] at hj
  have h := hc (m + j) (by omega)
  rw [h]
  simp [List.getD_eq_getElem?_getD]

/-- A digest's words behind n blocks of these bytes. -/
def foldS (ks hs l : List Int) : Nat → List Int
  | 0 => hs
  | j + 1 => intoS ks (foldS ks hs l j) ((l.drop (64 * j)).take 64)
theorem foldS_length (ks hs l : List Int) (h : hs.length = 8) (n : Nat) : (foldS ks hs l n).length = 8 := by
  induction n with
  | zero => exact h
  | succ n ih => exact intoS_length _ _ _ ih

set_option maxRecDepth 100000 in
set_option maxHeartbeats 4000000 in
theorem write_no (vx vh vb : Value) (hs bs : List Int) (n : Int) (w : World) (hh : IRd .u32 w vh hs) (hb : IRd .u8 w vb bs) (hn : 0 ≤ n) (hc : checkS hs.length bs.length n = false) :
    Calls Try.prog 6 #[.agg #[vh, vb, .int .u64 n], vx] w fun e w' => e = .returned (.agg #[vh, vb, .int .u64 n]) ∧ Below w.heap.size w w' := by
  obtain ⟨A, ch, rfl⟩ := hh.slice
  obtain ⟨B, cb, rfl⟩ := hb.slice
  have hbl := hb.1
  have HC := Lib.hid hc
  clear hh hc hb
  go_enter Try.func6, Try.ntmps6
  go_wp2_with fail
  refine (check_calls A B hs.length bs.length ch cb n hbl hn _).mono ?_
  rintro e w1 ⟨rfl, hB⟩
  rw [HC.out]
  have hB0 : Below w.heap.size w w1 := Below.trans ((((Below.refl _ _).alloc (Nat.le_refl _) _).alloc (by simp) _)) (hB.mono (by simp; omega))
  have hb2 : Blk w1 w.heap.size 26 [.slice A hs.length ch, .slice B bs.length cb, .int .u64 n] :=
    Blk.below ((Blk.new w [.slice A hs.length ch, .slice B bs.length cb, .int .u64 n] 26).alloc _) hB (by simp; omega)
  have hb4 : Blk w1 (w.heap.size + 1) 26 [.slice none 0 0, .slice none 0 0, .int .u64 0] := by
    have := Blk.below (Blk.new (w.alloc (.cells #[.slice A hs.length ch, .slice B bs.length cb, .int .u64 n] 26)) [.slice none 0 0, .slice none 0 0, .int .u64 0] 26) hB (by simp)
    simpa using this
  have k20 := Blk.cell (j := 0) hb2 rfl
  have k21 := Blk.cell (j := 1) hb2 rfl
  have k22 := Blk.cell (j := 2) hb2 rfl
  have k40 := Blk.cell (j := 0) hb4 rfl
  have k41 := Blk.cell (j := 1) hb4 rfl
  have k42 := Blk.cell (j := 2) hb4 rfl
  have f40 := Blk.frozen hb4 0
  have f41 := Blk.frozen hb4 1
  have f42 := Blk.frozen hb4 2
  have HB0 := Lib.hid hB0
  have HB4 := Lib.hid hb4
  clear hB hB0 hb2 hb4
  go_wp2_with fail
  refine bodyPost_ret (v := .agg #[.slice A hs.length ch, .slice B bs.length cb, .int .u64 n]) (results_cell_row rfl _ _ (w.heap.size + 1) _ _ _ _ rfl (Blk.set (Blk.set (Blk.set HB4.out 0 _) 1 _) 2 _) Try.underlying26 rfl infoSha) rfl ⟨rfl, ?_⟩
  exact (((HB0.out.setCell (by simp) _).setCell (by simp) _).setCell (by simp) _)

def lenOf : Value → Nat
  | .slice _ n _ => n
  | _ => 0

set_option maxRecDepth 100000 in
set_option maxHeartbeats 8000000 in
theorem write_yes (PS : List Int) (R : PrimeRow 64 310 PS) (vx vh vb : Value) (hs bs xs : List Int) (n : Int) (w : World) (hh : IRd .u32 w vh hs) (hb : IRd .u8 w vb bs) (hx : IRd .u8 w vx xs) (hn : 0 ≤ n) (hhl : hs.length = 8) (hbl : bs.length < 64) (hxl : xs.length ≤ 1000000)
    (hbd : ∀ j, 0 ≤ (bs ++ xs).getD j 0 ∧ (bs ++ xs).getD j 0 ≤ 255) (hc : checkS hs.length bs.length n = true) :
    Calls Try.prog 6 #[.agg #[vh, vb, .int .u64 n], vx] w fun e w' => ∃ vh' vb', e = .returned (.agg #[vh', vb', .int .u64 (IntKind.u64.wrap (n + (xs.length : Int)))]) ∧
      IRd .u32 w' vh' (foldS (constL PS true) hs (bs ++ xs) ((bs ++ xs).length / 64)) ∧ IRd .u8 w' vb' ((bs ++ xs).drop (64 * ((bs ++ xs).length / 64))) ∧ Below w.heap.size w w' := by
  obtain ⟨_, ⟨rfl, _⟩ | ⟨bh, oh, ch, rfl, hcs⟩⟩ := hh
  · simp at hhl
  have HHL := Lib.hid hhl
  have HX := Lib.hid hx
  have HB := Lib.hid hb
  have HBD := Lib.hid hbd
  have HR := Lib.hid R
  obtain ⟨B, cb, rfl⟩ := hb.slice
  obtain ⟨X, cx, rfl⟩ := hx.slice
  have HCS := Lib.hid hcs
  have HC := Lib.hid hc
  rw [hhl]
  clear hb hx hbd R hcs hc
  go_enter Try.func6, Try.ntmps6
  go_wp2_with fail
  refine (check_calls _ B 8 bs.length ch cb n (by omega) hn _).mono ?_
  rintro e w1 ⟨rfl, hB⟩
  rw [show checkS 8 bs.length n = true from hhl ▸ HC.out]
  have hB0 : Below w.heap.size w w1 := Below.trans ((((Below.refl _ _).alloc (Nat.le_refl _) _).alloc (by simp) _)) (hB.mono (by simp; omega))
  have hz : w.heap.size + 1 < w1.heap.size := by have := hB.size; simp at this; omega
  have hb2 : Blk w1 w.heap.size 26 [.slice (some ⟨bh, oh, none⟩) 8 ch, .slice B bs.length cb, .int .u64 n] :=
    Blk.below ((Blk.new w [.slice (some ⟨bh, oh, none⟩) 8 ch, .slice B bs.length cb, .int .u64 n] 26).alloc _) hB (by simp; omega)
  have hb4 : Blk w1 (w.heap.size + 1) 26 [.slice none 0 0, .slice none 0 0, .int .u64 0] := by
    have := Blk.below (Blk.new (w.alloc (.cells #[.slice (some ⟨bh, oh, none⟩) 8 ch, .slice B bs.length cb, .int .u64 n] 26)) [.slice none 0 0, .slice none 0 0, .int .u64 0] 26) hB (by simp)
    simpa using this
  have k20 := Blk.cell (j := 0) hb2 rfl
  have k21 := Blk.cell (j := 1) hb2 rfl
  have k22 := Blk.cell (j := 2) hb2 rfl
  have hcr : ∀ j, j < 8 → w1.cell? ⟨bh, oh + j, none⟩ = some (.int .u32 (hs.getD j 0)) := fun j hj => by
    have h1 := HCS.out j (by rw [HHL.out]; exact hj)
    exact (hB0.cell (p := ⟨bh, oh + j, none⟩) (World.block_lt_of_cell? _ _ h1)).trans h1
  have a0 := hcr 0 (by omega)
  have a1 := hcr 1 (by omega)
  have a2 := hcr 2 (by omega)
  have a3 := hcr 3 (by omega)
  have a4 := hcr 4 (by omega)
  have a5 := hcr 5 (by omega)
  have a6 := hcr 6 (by omega)
  have a7 := hcr 7 (by omega)
  rw [Nat.add_zero] at a0
  clear hcr
  have HA := Lib.hid (list8 hs HHL.out)
  generalize hs.getD 0 0 = x0 at a0 HA
  generalize hs.getD 1 0 = x1 at a1 HA
  generalize hs.getD 2 0 = x2 at a2 HA
  generalize hs.getD 3 0 = x3 at a3 HA
  generalize hs.getD 4 0 = x4 at a4 HA
  generalize hs.getD 5 0 = x5 at a5 HA
  generalize hs.getD 6 0 = x6 at a6 HA
  generalize hs.getD 7 0 = x7 at a7 HA
  have HB0 := Lib.hid hB0
  have HB2 := Lib.hid hb2
  have HB4 := Lib.hid hb4
  clear hB hB0 hb2 hb4
  have hz0 : w.heap.size < w1.heap.size := by omega
  have k21' := World.new_ne w1 _ k21
  have k22' := World.new_ne w1 _ k22
  have harr := arrayAt8 ⟨bh, oh, none⟩ ch
  go_wp2_with fail
  clear harr
  refine (clone_calls _ bs _ (HB.out.below (HB0.out.alloc HB0.out.size _)) (by omega)).mono ?_
  rintro e w2 ⟨v1, rfl, hO1, hB1⟩
  have hz2 : w1.heap.size < w2.heap.size := by have := hB1.size; simp at this; omega
  have h5 : IBlk .u32 w2 w1.heap.size 48 hs := by
    rw [HA.out]
    exact Blk.below (IBlk.new .u32 w1 [x0, x1, x2, x3, x4, x5, x6, x7] 48) hB1 (by simp)
  have hB02 : Below w.heap.size w w2 := (HB0.out.alloc HB0.out.size _).trans (hB1.mono (by simp; omega))
  have hb22 := Blk.below (HB2.out.alloc (.cells #[.int .u32 x0, .int .u32 x1, .int .u32 x2, .int .u32 x3, .int .u32 x4, .int .u32 x5, .int .u32 x6, .int .u32 x7] 48)) hB1 (by simp; omega)
  have hb42 := Blk.below (HB4.out.alloc (.cells #[.int .u32 x0, .int .u32 x1, .int .u32 x2, .int .u32 x3, .int .u32 x4, .int .u32 x5, .int .u32 x6, .int .u32 x7] 48)) hB1 (by simp; omega)
  have hx2 := HX.out.below hB02
  have hO1' : IOwn .u8 w2 (w1.heap.size + 1) 5 v1 bs := by simpa using hO1
  obtain ⟨A1, c1, rfl⟩ := hO1.rd.slice
  have H5 := Lib.hid h5
  have HB02 := Lib.hid hB02
  have HB22 := Lib.hid hb22
  have HB42 := Lib.hid hb42
  have HX2 := Lib.hid hx2
  have HO1 := Lib.hid hO1'
  clear hO1 hB1 h5 hB02 hb22 hb42 hx2 hO1' k20 k21 k22 k21' k22' a0 a1 a2 a3 a4 a5 a6 a7 HB2 HB4 HB0
  go_upto_if 23 with (at_builtin; refine wpList_append_ints .u8 (w1.heap.size + 1) rfl _ _ 23 5 1 rfl Try.underlying23 info_u8 (by omega) (.slice A1 bs.length c1) (.slice X xs.length cx) bs xs rfl rfl HO1.out HX2.out (by omega) (by omega) ?_; intro v2 w3 hO2 hgr hat; obtain ⟨A2, c2, hv2⟩ := hO2.rd.slice; subst hv2; rw [List.length_append] at hO2; have HO2 := Lib.hid hO2; have HGR := Lib.hid hgr; clear hO2 hgr hat)
  have hll : (bs ++ xs).length = bs.length + xs.length := by simp
  have HLL := Lib.hid hll
  have hz3 : w2.heap.size ≤ w3.heap.size := HGR.out.size
  have hrow : ∀ g, (Value.slice A1 bs.length c1).ownBlock = some g → w1.heap.size + 1 ≤ g := fun g hg => (HO1.out.lt g hg).1
  have H53 := Lib.hid (Blk.grown (cs := hs.map (Value.int .u32)) H5.out HGR.out (fun e => by have := hrow _ e.symm; omega))
  have HB23 := Lib.hid (Blk.grown HB22.out HGR.out (fun e => by have := hrow _ e.symm; omega))
  have HB43 := Lib.hid (Blk.grown HB42.out HGR.out (fun e => by have := hrow _ e.symm; omega))
  have HB03 := Lib.hid (HB02.out.grown HGR.out HB02.out.size (fun g hg => by have := hrow g hg; omega))
  clear hll hrow
  clear H5 HB22 HB42 HB02 HGR HO1
  go_cut [6, 7] (fun s6 _s7 wc => IRd .u8 wc s6 ((bs ++ xs).drop (64 * ((bs ++ xs).length / 64))) ∧ IBlk .u32 wc w1.heap.size 48 (foldS (constL PS true) hs (bs ++ xs) ((bs ++ xs).length / 64)) ∧ Below w.heap.size w wc ∧ w1.heap.size < wc.heap.size ∧
    Blk wc w.heap.size 26 [.slice (some ⟨bh, oh, none⟩) 8 ch, .slice B bs.length cb, .int .u64 n] ∧ Blk wc (w.heap.size + 1) 26 [.slice none 0 0, .slice none 0 0, .int .u64 0])
  case first =>
    by_cases h64 : 64 ≤ bs.length + xs.length
    · have hb64 : decide ((64 : Int) ≤ (bs.length : Int) + (xs.length : Int)) = true := decide_eq_true (by omega)
      obtain ⟨g2, c2', hv2, hg2b, hg2l, hg2c⟩ := HO2.out.form (by rw [HLL.out]; omega)
      obtain ⟨hcap, hcap2⟩ := HO2.out.cap
      rw [HLL.out] at hv2 hcap
      simp only [Value.slice.injEq] at hv2
      obtain ⟨rfl, _, rfl⟩ := hv2
      have HG2 := Lib.hid hg2c
      clear hg2c HO2
      go_wp2_with fail
      refine (constants_calls PS HR.out _).mono ?_
      rintro e w4 ⟨rfl, hB4⟩
      have hz4 := hB4.size
      have hkl : (constL PS true).length = 64 := by simp [constL, HR.out.len]
      obtain ⟨WA, hWA⟩ : ∃ l : Array Value, ((constL PS true).map (Value.int .u32)).toArray = l := ⟨_, rfl⟩
      rw [hWA]
      have HB4 := Lib.hid hB4
      have hsz : WA.size = 64 := by rw [← hWA]; simp [hkl]
      have hone : WA.all (·.oneCell') = true := by
        rw [← hWA, ← Array.all_toList]
        simp [Value.oneCell']
      have hinf : (Try.prog.info? 49).map (·.size) = some WA.size := by rw [hsz]; exact info64c
      have HINF := Lib.hid hinf
      have HONE := Lib.hid hone
      have HWA := Lib.hid hWA
      have HSZ := Lib.hid hsz
      have HKL := Lib.hid hkl
      clear hB4 hsz hone hinf hWA hkl
      go_upto_block 0 with ((with_reducible refine wpList_store_row (o := ⟨none, .store 49 _ _, _, _, _, _⟩) rfl _ _ _ rfl w4.heap.size WA rfl rfl _ _ (heap_alloc_new w4 _) HINF.out ?hd HONE.out ?_); (case hd => rw [HSZ.out]; rfl))
      have hK5 : ∀ arr, IBlk .u32 ((w4.alloc (.cells arr 49)).setRow w4.heap.size WA) w4.heap.size 49 (constL PS true) := fun arr => by
        unfold IBlk Blk
        rw [setRow_heap _ _ arr WA 49 (0, 0) (heap_alloc_new w4 _), HWA.out]
      have hB5 : ∀ arr, Below w4.heap.size w4 ((w4.alloc (.cells arr 49)).setRow w4.heap.size WA) := fun arr => below_setRow ((Below.refl _ _).alloc (Nat.le_refl _) _) (Nat.le_refl _) _
      have hz5 : ∀ arr, ((w4.alloc (.cells arr 49)).setRow w4.heap.size WA).heap.size = w4.heap.size + 1 := fun arr => by simp
      refine wp_world (fun w5 => IBlk .u32 w5 w4.heap.size 49 (constL PS true) ∧ Below w4.heap.size w4 w5 ∧ w5.heap.size = w4.heap.size + 1) ⟨hK5 _, hB5 _, hz5 _⟩ ?_
      clear hK5 hB5 hz5
      rintro w5 ⟨hK5, hB5, hz5⟩
      have HK5 := Lib.hid hK5
      have hz5' : w4.heap.size < w5.heap.size := by omega
      have hB35 : Below w3.heap.size w3 w5 := HB4.out.trans (hB5.mono hz4)
      have HB05 := Lib.hid (HB03.out.trans (hB35.mono (by omega)))
      have H55 := Lib.hid (Blk.below H53.out hB35 (by omega))
      have HB25 := Lib.hid (Blk.below HB23.out hB35 (by omega))
      have HB45 := Lib.hid (Blk.below HB43.out hB35 (by omega))
      have hg5 : ∀ j, j < (bs ++ xs).length → w5.cell? ⟨g2, j, none⟩ = some (.int .u8 ((bs ++ xs).getD j 0)) := fun j hj => (hB35.cell (p := ⟨g2, j, none⟩) hg2l).trans (HG2.out j hj)
      have HG5 := Lib.hid hg5
      clear hK5 hB5 hz5 hB35 hg5 HG2 HINF HONE HWA HSZ HB4 HB03 H53 HB23 HB43
      simp only [Act.put]
      go_wp2_with fail
      go_loopw [6] (fun s6 wr => ∃ j : Nat, 64 * j ≤ bs.length + xs.length ∧ ((64 * j < bs.length + xs.length ∧ s6 = .slice (some ⟨g2, 64 * j, none⟩) (bs.length + xs.length - 64 * j) (c2 - 64 * j)) ∨ (64 * j = bs.length + xs.length ∧ ∃ ad cc, s6 = .slice (some ad) 0 cc)) ∧
          IBlk .u32 wr w1.heap.size 48 (foldS (constL PS true) hs (bs ++ xs) j) ∧ w5.grownBy wr (some w1.heap.size))
        (fun s6 _ => lenOf s6)
      case atStart => exact ⟨0, by omega, .inl ⟨by omega, rfl⟩, H55.out, grown_refl _ _⟩
      case round =>
        obtain ⟨j, hj, hs6, hI, hG⟩ := hrel
        have HI := Lib.hid hI
        have HG := Lib.hid hG
        clear hI hG
        rcases hs6 with ⟨hjl, rfl⟩ | ⟨hje, ad, cc, rfl⟩
        · by_cases h64j : 64 ≤ bs.length + xs.length - 64 * j
          · have hb1 : decide ((64 : Int) ≤ ((bs.length + xs.length - 64 * j : Nat) : Int)) = true := decide_eq_true (by omega)
            go_wp2_with fail
            have hbb : ∀ i, i < 64 → wr.cell? ⟨g2, 64 * j + i, none⟩ = some (.int .u8 ((((bs ++ xs).drop (64 * j)).take 64).getD i 0)) := fun i hi => by
              rw [getD_dt _ _ _ hi]
              exact HG.out.cell (a := ⟨g2, 64 * j + i, none⟩) (HG5.out _ (by rw [HLL.out]; omega)) (by simp; omega)
            refine (block_calls w1.heap.size w4.heap.size 48 49 g2 (64 * j) (c2 - 64 * j) _ (constL PS true) (((bs ++ xs).drop (64 * j)).take 64) wr HI.out (Blk.grown HK5.out HG.out (by simp; omega)) (foldS_length _ _ _ HHL.out _) HKL.out (by simp; omega) hbb (fun i => bd_dt _ _ _ HBD.out) (by omega) (by omega)).mono ?_
            rintro e w6 ⟨rfl, hI6, hG6⟩
            have HI6 := Lib.hid (show IBlk .u32 w6 w1.heap.size 48 (foldS (constL PS true) hs (bs ++ xs) (j + 1)) from hI6)
            have HG6 := Lib.hid (HG.out.trans hG6)
            clear hbb hI6 hG6
            by_cases hcc : c2 - 64 * j = 64
            · have hje : bs.length + xs.length - 64 * j = 64 := by omega
              have hje' : 64 * (j + 1) = bs.length + xs.length := by omega
              rw [hcc, hje]
              go_wp2_with fail
              exact ⟨⟨j + 1, by omega, .inr ⟨hje', _, _, rfl⟩, HI6.out, HG6.out⟩, by simp only [lenOf]; omega⟩
            · go_wp2_with fail
              refine ⟨⟨j + 1, by omega, ?_, HI6.out, HG6.out⟩, by simp only [lenOf]; omega⟩
              by_cases hlast : 64 * (j + 1) = bs.length + xs.length
              · refine .inr ⟨hlast, ⟨g2, 64 * j + 64, none⟩, c2 - 64 * j - 64, ?_⟩
                rw [show bs.length + xs.length - 64 * j - 64 = 0 by omega]
              · refine .inl ⟨by omega, ?_⟩
                rw [show bs.length + xs.length - 64 * j - 64 = bs.length + xs.length - 64 * (j + 1) by omega, show c2 - 64 * j - 64 = c2 - 64 * (j + 1) by omega]
                rfl
          · have hb1 : decide ((64 : Int) ≤ ((bs.length + xs.length - 64 * j : Nat) : Int)) = false := decide_eq_false (by omega)
            go_wp2_with fail
            go_meet
            have hq : (bs ++ xs).length / 64 = j := by rw [HLL.out]; omega
            rw [hq]
            refine ⟨?_, HI.out, HB05.out.grown HG.out (by omega) (by simp; omega), by have := HG.out.size; omega, Blk.grown HB25.out HG.out (by simp; omega), Blk.grown HB45.out HG.out (by simp; omega)⟩
            rw [← HLL.out]
            exact drop_rd (bs ++ xs) (64 * j) g2 _ wr (by rw [HLL.out]; omega) (fun i hi => HG.out.cell (a := ⟨g2, i, none⟩) (HG5.out i hi) (by simp; omega))
        · go_wp2_with fail
          go_meet
          have hq : (bs ++ xs).length / 64 = j := by rw [HLL.out]; omega
          rw [hq]
          refine ⟨?_, HI.out, HB05.out.grown HG.out (by omega) (by simp; omega), by have := HG.out.size; omega, Blk.grown HB25.out HG.out (by simp; omega), Blk.grown HB45.out HG.out (by simp; omega)⟩
          rw [List.drop_eq_nil_of_le (by rw [HLL.out]; omega)]
          exact ⟨by simp, .inl ⟨rfl, .inr ⟨ad, cc, rfl⟩⟩⟩
    · have hb64 : decide ((64 : Int) ≤ (bs.length : Int) + (xs.length : Int)) = false := decide_eq_false (by omega)
      have hq : (bs ++ xs).length / 64 = 0 := by rw [HLL.out]; omega
      have HQ := Lib.hid hq
      clear hq
      go_wp2_with fail
      go_meet
      rw [HQ.out, Nat.mul_zero, List.drop_zero]
      exact ⟨HO2.out.rd, H53.out, HB03.out, by omega, HB23.out, HB43.out⟩
  case rest =>
    obtain ⟨hr6, hI6, hB6, hz6, hs6, ht6⟩ := hcut
    obtain ⟨A6, c6, rfl⟩ := hr6.slice
    have HR6 := Lib.hid hr6
    have HI6 := Lib.hid hI6
    have HB6 := Lib.hid hB6
    have HT6 := Lib.hid ht6
    have HS6 := Lib.hid hs6
    have hfl : (foldS (constL PS true) hs (bs ++ xs) ((bs ++ xs).length / 64)).length = 8 := foldS_length _ _ _ HHL.out _
    have hdl : ((bs ++ xs).drop (64 * ((bs ++ xs).length / 64))).length ≤ 1000100 := by simp; omega
    generalize hHF : foldS (constL PS true) hs (bs ++ xs) ((bs ++ xs).length / 64) = HF at HI6 hfl
    generalize hTL : (bs ++ xs).drop (64 * ((bs ++ xs).length / 64)) = TL at HR6 hdl
    have HHF := Lib.hid hHF
    have HTL := Lib.hid hTL
    clear hHF hTL
    have q22 : wc.cell? ⟨w.heap.size, 2, none⟩ = some (.int .u64 n) := Blk.cell HS6.out rfl
    clear hr6 hI6 hB6 hs6 ht6
    go_wp2_with fail
    go_region_law
      (go_must (go_simp; go_at_call 22; refine (clone_calls _ TL wc.drew (show IRd .u8 wc.drew _ _ from HR6.out) (by omega)).mono ?_; rintro e w7 ⟨v7, rfl, hO7, hB7⟩; obtain ⟨A7, c7, rfl⟩ := hO7.rd.slice; have q27 : w7.cell? ⟨w.heap.size, 2, none⟩ = some (.int .u64 n) := Blk.cell (Blk.below (show Blk wc.drew _ _ _ from HS6.out) hB7 (by show _ < wc.heap.size; omega)) rfl; have ht7 := Blk.below (show Blk wc.drew _ _ _ from HT6.out) hB7 (by show _ < wc.heap.size; omega); have f70 := Blk.frozen ht7 0; have f71 := Blk.frozen ht7 1; have f72 := Blk.frozen ht7 2; have c70 := Blk.cell (j := 0) ht7 rfl; have c71 := Blk.cell (j := 1) ht7 rfl; have c72 := Blk.cell (j := 2) ht7 rfl; have ht7 := Lib.hid ht7; have hO7 := Lib.hid hO7; have hB7 := Lib.hid hB7))
    all_goals
      go_wp2_with fail
      have hw : IntKind.u64.wrap (xs.length : Int) = (xs.length : Int) := by
        simp [IntKind.wrap, IntKind.bits, IntKind.signed]; omega
      refine bodyPost_ret (v := .agg #[.slice (some ⟨w1.heap.size, 0, none⟩) 8 8, .slice A7 TL.length c7, .int .u64 (IntKind.u64.wrap (n + IntKind.u64.wrap (xs.length : Int)))]) (results_cell_row rfl _ _ (w.heap.size + 1) _ _ _ _ rfl (Blk.set (Blk.set (Blk.set ht7.out 0 _) 1 _) 2 _) Try.underlying26 rfl infoSha) rfl ⟨_, _, by rw [hw], ?_, ?_, ?_⟩
      all_goals try rw [HHF.out]
      all_goals try rw [HTL.out]
      · have h8 := Blk.below (show Blk wc.drew _ _ _ from HI6.out) hB7.out (by show _ < wc.heap.size; omega)
        refine ⟨by omega, .inr ⟨w1.heap.size, 0, 8, by rw [hfl], fun j hj => ?_⟩⟩
        rw [Nat.zero_add]
        exact IBlk.cell (Blk.set_ne (Blk.set_ne (Blk.set_ne h8 0 _ (by omega)) 1 _ (by omega)) 2 _ (by omega)) hj
      · exact ((hO7.out.grown (row := some (w.heap.size + 1)) (grown_set (grown_set (grown_set (grown_refl _ _) 0 _) 1 _) 2 _) (.inr (fun e => by
          have := (hO7.out.lt _ e).1
          have : wc.heap.size ≤ w.heap.size + 1 := this
          omega)))).rd
      · exact (((below_step (below_drew' HB6.out) (by show _ ≤ wc.heap.size; omega) hB7.out).setCell (by simp) _).setCell (by simp) _).setCell (by simp) _
end Go.Proofs.Ytejmbkmjonmpcaa
