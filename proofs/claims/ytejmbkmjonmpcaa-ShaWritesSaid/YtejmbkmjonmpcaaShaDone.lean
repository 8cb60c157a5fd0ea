/- sha.Done. -/
import Derived.Test.YtejmbkmjonmpcaaShaWrite
set_option linter.unusedVariables false
set_option linter.unusedSimpArgs false
namespace Go.Proofs.Ytejmbkmjonmpcaa
open Go.RowKit

theorem made_list (v : Value) (c : Nat) : (madeCells #[v] c).toList = List.replicate c v := by
  apply List.ext_getElem
  · simp [madeCells]
  · intro i h1 h2
    simp [madeCells, Nat.mod_one]
theorem IOwn.part (w : World) (base e l c : Nat) (hl : 0 < l) (hlc : l ≤ c) (hc : c ≤ maxLen) (hb : base ≤ w.heap.size) :
    IOwn .u8 (w.alloc (.cells ((madeCells #[.int .u8 0] c).setIfInBounds 0 (.int .u8 128)) e)) base e (.slice (some ⟨w.heap.size, 0, none⟩) l c) (128 :: List.replicate (l - 1) 0) := by
  obtain ⟨m, rfl⟩ : ∃ m, l = m + 1 := ⟨l - 1, by omega⟩
  obtain ⟨d, rfl⟩ : ∃ d, c = d + 1 := ⟨c - 1, by omega⟩
  refine ⟨by simp, .inr ⟨w.heap.size, d + 1, _, by simp, hb, heap_alloc_new w _, by simp; omega, hc, by simp [size_madeCells], ?_⟩⟩
  rw [Array.toList_setIfInBounds, made_list]
  simp [List.replicate_succ, List.take_replicate]
  omega

def lenB (n : Int) : Nat → List Int
  | 0 => []
  | k + 1 => lenB n k ++ [IntKind.u64.wrap (n * 8) / 2 ^ (56 - 8 * k) % 256]
theorem lenB_length (n : Int) (k : Nat) : (lenB n k).length = k := by
  induction k with
  | zero => rfl
  | succ k ih => simp [lenB, ih]
def padS (l : Nat) : List Int := 128 :: List.replicate ((119 - l) % 64) 0
def tailS (l : Nat) (n : Int) : List Int := padS l ++ lenB n 8
def outB (hs : List Int) : Nat → List Int
  | 0 => []
  | k + 1 => outB hs k ++ [hs.getD k 0 / 16777216 % 256, hs.getD k 0 / 65536 % 256, hs.getD k 0 / 256 % 256, hs.getD k 0 % 256]
theorem outB_length (hs : List Int) (k : Nat) : (outB hs k).length = 4 * k := by
  induction k with
  | zero => rfl
  | succ k ih => simp [outB, ih]; omega

theorem bytes_getD {l : List Int} (h : ∀ x ∈ l, 0 ≤ x ∧ x ≤ 255) (j : Nat) : 0 ≤ l.getD j 0 ∧ l.getD j 0 ≤ 255 := by
  rw [List.getD_eq_getElem?_getD]
  cases hj : l[j]? with
  | none => simp
  | some x => exact h x (List.mem_of_getElem? hj)
theorem lenB_bytes (n : Int) (k : Nat) : ∀ x ∈ lenB n k, 0 ≤ x ∧ x ≤ 255 := by
  induction k with
  | zero => simp [lenB]
  | succ k ih =>
    intro x hx
    rw [lenB, List.mem_append] at hx
    rcases hx with hx | hx
    · exact ih x hx
    · have : x = IntKind.u64.wrap (n * 8) / 2 ^ (56 - 8 * k) % 256 := by simpa using hx
      omega
theorem padS_bytes (l : Nat) : ∀ x ∈ padS l, 0 ≤ x ∧ x ≤ 255 := by
  intro x hx
  simp [padS] at hx
  omega
theorem tailS_length (l : Nat) (n : Int) : (tailS l n).length = (119 - l) % 64 + 9 := by simp [tailS, padS, lenB_length]

theorem IRd.new4 (w : World) (e : Nat) (a b c d : Int) : IRd .u8 (w.alloc (.cells #[.int .u8 a, .int .u8 b, .int .u8 c, .int .u8 d] e)) (.slice (some ⟨w.heap.size, 0, none⟩) 4 4) [a, b, c, d] := by
  refine ⟨by simp, .inr ⟨w.heap.size, 0, 4, rfl, fun j hj => ?_⟩⟩
  rw [Nat.zero_add]
  exact IBlk.cell (IBlk.new .u8 w [a, b, c, d] e) hj
theorem field_h (A B : Option Addr) (a b c d : Nat) (n : Int) (w : World) : (Instr.field 26 (.agg #[.slice A a b, .slice B c d, .int .u64 n]) 0).run Try.prog w = .ok (.slice A a b) w := by kernel_rfl

set_option maxRecDepth 100000 in
set_option maxHeartbeats 4000000 in
theorem done_no (vh vb : Value) (hs bs : List Int) (n : Int) (w : World) (hh : IRd .u32 w vh hs) (hb : IRd .u8 w vb bs) (hn : 0 ≤ n) (hc : checkS hs.length bs.length n = false) :
    Calls Try.prog 10 #[.agg #[vh, vb, .int .u64 n]] w fun e w' => e = .returned (.slice none 0 0) ∧ Below w.heap.size w w' := by
  obtain ⟨A, ch, rfl⟩ := hh.slice
  obtain ⟨B, cb, rfl⟩ := hb.slice
  have hbl := hb.1
  have HC := Lib.hid hc
  clear hh hc hb
  go_enter Try.func10, Try.ntmps10
  go_wp2_with fail
  refine (check_calls A B hs.length bs.length ch cb n hbl hn _).mono ?_
  rintro e w1 ⟨rfl, hB⟩
  rw [HC.out]
  have hB0 : Below w.heap.size w w1 := Below.trans ((((Below.refl _ _).alloc (Nat.le_refl _) _))) (hB.mono (by simp))
  have HB0 := Lib.hid hB0
  clear hB hB0
  go_wp2_with fail
  go_ret
  exact ⟨rfl, HB0.out⟩

theorem runMakeG (L : Int) (c : Nat) (h1 : 0 ≤ L) (h2 : L ≤ (c : Int)) (h3 : c ≤ 100000) (w : World) : (Instr.makeSlice 23 (.int .i64 L) (.int .i64 (c : Int))).run Try.prog w = .ok (.slice (some ⟨w.heap.size, 0, none⟩) L.toNat c) (w.alloc (.cells (madeCells #[.int .u8 0] c) 5)) := by
  obtain ⟨i, hi, hz, hs, hb⟩ := info_parts info_u8
  have h := run_make (P := Try.prog) w 23 5 i (.int .u8 0) Try.underlying23 hi hz .i64 .i64 L (c : Int) h1 h2 (by rw [hb]; omega) (by omega)
  rw [hs, Int.toNat_natCast, Nat.mul_one] at h
  exact h

set_option maxRecDepth 100000 in
set_option maxHeartbeats 4000000 in
theorem done_yes (PS : List Int) (R : PrimeRow 64 310 PS) (vh vb : Value) (hs bs : List Int) (n : Int) (w : World) (hh : IRd .u32 w vh hs) (hb : IRd .u8 w vb bs) (hn : 0 ≤ n) (hhl : hs.length = 8) (hbl : bs.length < 64)
    (hbd : ∀ x ∈ bs, 0 ≤ x ∧ x ≤ 255) (hc : checkS hs.length bs.length n = true) (D : List Int) (hD : D = outB (foldS (constL PS true) hs (bs ++ tailS bs.length n) ((bs ++ tailS bs.length n).length / 64)) 8) :
    Calls Try.prog 10 #[.agg #[vh, vb, .int .u64 n]] w fun e w' => ∃ v, e = .returned v ∧ IOwn .u8 w' w.heap.size 5 v D ∧ Below w.heap.size w w' := by
  have HD := Lib.hid hD
  clear hD
  obtain ⟨A, ch, rfl⟩ := hh.slice
  obtain ⟨B, cb, rfl⟩ := hb.slice
  have HH := Lib.hid hh
  have HBS := Lib.hid hb
  have HBD := Lib.hid hbd
  have HR := Lib.hid R
  have HC := Lib.hid hc
  have HHL := Lib.hid hhl
  clear hh hc hb hbd R hhl
  go_enter Try.func10, Try.ntmps10
  go_wp2_with fail
  refine (check_calls A B hs.length bs.length ch cb n HBS.out.1 hn _).mono ?_
  rintro e w1 ⟨rfl, hB⟩
  rw [HC.out]
  have hb2 : Blk w1 w.heap.size 26 [.slice A hs.length ch, .slice B bs.length cb, .int .u64 n] :=
    Blk.below (Blk.new w [.slice A hs.length ch, .slice B bs.length cb, .int .u64 n] 26) hB (by simp)
  have hB0 : Below w.heap.size w w1 := Below.trans ((((Below.refl _ _).alloc (Nat.le_refl _) _))) (hB.mono (by simp))
  have hz1 : w.heap.size < w1.heap.size := hb2.lt
  have k0 := Blk.cell (j := 0) hb2 rfl
  have k1 := Blk.cell (j := 1) hb2 rfl
  have k2 := Blk.cell (j := 2) hb2 rfl
  have HB0 := Lib.hid hB0
  have HB2 := Lib.hid hb2
  clear hB hB0 hb2
  have hmk : ∀ W, (Instr.makeSlice 23 (.int .i64 (1 + (119 - (bs.length : Int)) % 64)) (.int .i64 128)).run Try.prog W = .ok (.slice (some ⟨W.heap.size, 0, none⟩) ((119 - bs.length) % 64 + 1) 128) (W.alloc (.cells (madeCells #[.int .u8 0] 128) 5)) := fun W => by
    rw [show ((119 - bs.length) % 64 + 1) = (1 + (119 - (bs.length : Int)) % 64).toNat by omega]
    exact runMakeG _ 128 (by omega) (by omega) (by omega) W
  have hmc : ∀ W : World, (W.alloc (.cells (madeCells #[.int .u8 0] 128) 5)).cell? ⟨W.heap.size, 0, none⟩ = some (.int .u8 0) := fun W => by
    unfold World.cell?
    rw [heap_alloc_new W _]
    simp [madeCells]
  go_upto_region 5 with fail
  clear hmk hmc
  refine wp_world (fun w3 => IOwn .u8 w3 w1.heap.size 5 (.slice (some ⟨w1.heap.size, 0, none⟩) ((119 - bs.length) % 64 + 1) 128) (padS bs.length) ∧ Below w1.heap.size w1 w3 ∧ w1.heap.size < w3.heap.size) ⟨IOwn.part w1 w1.heap.size 5 ((119 - bs.length) % 64 + 1) 128 (by omega) (by omega) (by decide) (Nat.le_refl _), (Below.refl _ _).alloc (Nat.le_refl _) _, by simp⟩ ?_
  rintro w3 ⟨hO3, hB3, hz3⟩
  have HB03 := Lib.hid (below_step HB0.out (by omega) hB3)
  have HB23 := Lib.hid (Blk.below HB2.out hB3 hz1)
  have hpl : (padS bs.length).length = (119 - bs.length) % 64 + 1 := by simp [padS]
  have HPL := Lib.hid hpl
  generalize hT0 : padS bs.length = T0 at hO3 HPL
  have HT0 := Lib.hid hT0
  have HO3 := Lib.hid hO3
  clear hB3 hO3 HB0 HB2 k0 k1 k2 hT0 hpl
  obtain ⟨wo, hwo⟩ : ∃ wo : World, wo = w3 := ⟨_, rfl⟩
  subst hwo
  go_wp2_with fail
  go_loopw [3, 20] (fun s3 s20 wr => ∃ i : Nat, i ≤ 8 ∧ s20 = .int .i64 (i : Int) ∧ IOwn .u8 wr w1.heap.size 5 s3 (T0 ++ lenB n i) ∧ Below w1.heap.size wo wr)
    (fun _ s20 _ => 8 - (intOf s20).toNat)
  case atStart => exact ⟨0, by omega, rfl, by rw [lenB, List.append_nil]; exact HO3.out, Below.refl _ _⟩
  case round =>
    obtain ⟨i, hi, rfl, hO, hB⟩ := hrel
    obtain ⟨A3, c3, rfl⟩ := hO.rd.slice
    have hll : (T0 ++ lenB n i).length = (119 - bs.length) % 64 + 1 + i := by rw [List.length_append, HPL.out, lenB_length]
    have k2 : wr.cell? ⟨w.heap.size, 2, none⟩ = some (.int .u64 n) := Blk.cell (Blk.below HB23.out hB hz1) rfl
    generalize hTI : T0 ++ lenB n i = TI at hO hll
    have HTI := Lib.hid hTI
    have HLL := Lib.hid hll
    have HO := Lib.hid hO
    have HB := Lib.hid hB
    have hzr := hB.size
    have hz13 : w1.heap.size ≤ wr.heap.size := by omega
    clear hll hO hB hTI
    by_cases hi8 : i < 8
    · have hb : decide ((i : Int) < 8) = true := decide_eq_true (by omega)
      go_wp2_with (at_builtin; refine wpList_append_one .u8 w1.heap.size rfl _ _ 23 5 1 rfl Try.underlying23 info_u8 (by omega) (.slice A3 TI.length c3) TI _ rfl rfl HO.out hz13 (by rw [HLL.out]; omega) ?_; intro v1 w3 hown hgr hat; have HOW := Lib.hid hown; have HGR := Lib.hid hgr; clear hown hgr hat)
      go_roundw
      case rel =>
        refine ⟨i + 1, by omega, by go_num, ?_, grown_below HB.out HGR.out hz13 (fun g hg => (HO.out.lt g hg).1)⟩
        rw [lenB, ← List.append_assoc, HTI.out]
        exact HOW.out
      case measure => simp [intOf]; omega
    · obtain rfl : i = 8 := by omega
      have hb : decide (((8 : Nat) : Int) < 8) = false := by decide
      have HTI' := Lib.hid (show TI = tailS bs.length n by rw [← HTI.out, ← HT0.out]; rfl)
      have HB0r := Lib.hid (HB03.out.trans (HB.out.mono (by omega)))
      have hb2r := Blk.below HB23.out HB.out hz1
      have k0 := Blk.cell (j := 0) hb2r rfl
      have k1 := Blk.cell (j := 1) hb2r rfl
      have HTR := Lib.hid HO.out.rd
      have HHR := Lib.hid (HH.out.below HB0r.out)
      have HBR := Lib.hid (HBS.out.below HB0r.out)
      clear hb2r HB03 HB23 HO3 HTI HT0 HPL
      go_wp2_with fail
      have hby : ∀ x ∈ bs ++ TI, 0 ≤ x ∧ x ≤ 255 := by
        intro x hx
        rw [List.mem_append, HTI'.out, tailS, List.mem_append] at hx
        rcases hx with hx | hx | hx
        · exact HBD.out x hx
        · exact padS_bytes _ x hx
        · exact lenB_bytes _ _ x hx
      refine (write_yes PS HR.out _ _ _ hs bs TI n wr HHR.out HBR.out HTR.out hn HHL.out hbl (by rw [HLL.out]; omega) (bytes_getD hby) HC.out).mono ?_
      rintro e w4 ⟨vh', vb', rfl, hF, hbuf, hB4⟩
      obtain ⟨B4, cb4, rfl⟩ := hbuf.slice
      clear hbuf
      have hfl : (foldS (constL PS true) hs (bs ++ TI) ((bs ++ TI).length / 64)).length = 8 := foldS_length _ _ _ HHL.out _
      rw [HTI'.out] at hF hfl
      have HD2 : Hid (D = outB (foldS (constL PS true) hs (bs ++ tailS bs.length n) ((bs ++ tailS bs.length n).length / 64)) 8) := HD
      clear HD
      generalize hF0 : foldS (constL PS true) hs (bs ++ tailS bs.length n) ((bs ++ tailS bs.length n).length / 64) = F at hF hfl HD2
      obtain ⟨_, ⟨rfl, _⟩ | ⟨fb, fo, fc, rfl, hfc⟩⟩ := hF
      · simp at hfl
      rw [hfl] at hfc ⊢
      have HFC := Lib.hid hfc
      have HB04 := Lib.hid (HB0r.out.trans (hB4.mono (by have := HB0r.out.size; omega)))
      have hzw := hB4.size
      have hfbl : fb < w4.heap.size := by
        have := hfc 0 (by omega)
        exact World.block_lt_of_cell? _ _ this
      have HFL := Lib.hid hfl
      clear hfc hB4 hby hfl hF0 HBR HHR HTR k0 k1 k2 HO HB HB0r HTI' HLL
      obtain ⟨wo, hwo⟩ : ∃ wo : World, wo = w4 := ⟨_, rfl⟩
      subst hwo
      generalize ((bs ++ TI).drop (64 * ((bs ++ TI).length / 64))).length = l4
      have hfd := field_h (some ⟨fb, fo, none⟩) B4 8 fc l4 cb4
      go_wp2_with fail
      clear hfd
      go_loopw [5, 40] (fun s5 s40 wr => ∃ i : Nat, i ≤ 8 ∧ s40 = .int .i64 (i : Int) ∧ IOwn .u8 wr wo.heap.size 5 s5 (outB F i) ∧ Below wo.heap.size wo wr)
        (fun _ s40 _ => 8 - (intOf s40).toNat)
      case atStart => exact ⟨0, by omega, rfl, IOwn.nil _ _ _ _, Below.refl _ _⟩
      case round =>
        obtain ⟨i, hi, rfl, hO, hB⟩ := hrel
        obtain ⟨A5, c5, rfl⟩ := hO.rd.slice
        have hol := outB_length F i
        generalize hOI : outB F i = OI at hO hol
        have HOI := Lib.hid hOI
        have HOL := Lib.hid hol
        have HO := Lib.hid hO
        have HB := Lib.hid hB
        have hzr := hB.size
        clear hol hO hB hOI
        by_cases hi8 : i < 8
        · have hb : decide ((i : Int) < 8) = true := decide_eq_true (by omega)
          have kf : wr.cell? ⟨fb, fo + i, none⟩ = some (.int .u32 (F.getD i 0)) := (HB.out.cell (p := ⟨fb, fo + i, none⟩) hfbl).trans (HFC.out i hi8)
          generalize hxf : F.getD i 0 = xf at kf
          have HXF := Lib.hid hxf
          clear hxf
          go_wp2_with (at_builtin; refine wpList_append_ints .u8 wo.heap.size rfl _ _ 23 5 1 rfl Try.underlying23 info_u8 (by omega) (.slice A5 OI.length c5) (.slice (some ⟨wr.heap.size, 0, none⟩) 4 4) OI [xf / 16777216 % 256, xf / 65536 % 256, xf / 256 % 256, xf % 256] rfl rfl (HO.out.alloc _) (IRd.new4 wr _ _ _ _ _) (by simp; omega) (by rw [HOL.out]; simp; omega) ?_; intro v1 w3 hown hgr hat; have HOW := Lib.hid hown; have HGR := Lib.hid hgr; clear hown hgr hat)
          go_roundw
          case rel =>
            refine ⟨i + 1, by omega, by go_num, ?_, grown_below (HB.out.alloc hzr _) HGR.out (by simp; omega) (fun g hg => (HO.out.lt g hg).1)⟩
            rw [outB, HOI.out, HXF.out]
            exact HOW.out
          case measure => simp [intOf]; omega
        · obtain rfl : i = 8 := by omega
          have hb : decide (((8 : Nat) : Int) < 8) = false := by decide
          go_wp2_with fail
          go_ret
          refine ⟨_, rfl, ?_, HB04.out.trans (HB.out.mono (by have := HB04.out.size; omega))⟩
          rw [HD2.out, HOI.out]
          exact HO.out.base_mono HB04.out.size
end Go.Proofs.Ytejmbkmjonmpcaa
