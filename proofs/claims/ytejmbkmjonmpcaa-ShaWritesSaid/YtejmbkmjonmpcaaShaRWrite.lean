/- The reference's Write. -/
import Derived.Test.YtejmbkmjonmpcaaShaRInto
set_option linter.unusedVariables false
set_option linter.unusedSimpArgs false
namespace Go.Proofs.Ytejmbkmjonmpcaa
open Go.RowKit

set_option maxRecDepth 100000 in
set_option maxHeartbeats 4000000 in
theorem rwrite_no (vx vh vb : Value) (hs bs : List Int) (n : Int) (w : World) (hh : IRd .u32 w vh hs) (hb : IRd .u8 w vb bs) (hn : 0 ≤ n) (hc : checkS hs.length bs.length n = false) :
    Calls Try.prog 7 #[.agg #[vh, vb, .int .u64 n], vx] w fun e w' => e = .returned (.agg #[vh, vb, .int .u64 n]) ∧ Below w.heap.size w w' := by
  obtain ⟨A, ch, rfl⟩ := hh.slice
  obtain ⟨B, cb, rfl⟩ := hb.slice
  have hbl := hb.1
  have HC := Lib.hid hc
  clear hh hc hb
  go_enter Try.func7, Try.ntmps7
  go_wp2_with fail
  refine (rcheck_calls A B hs.length bs.length ch cb n hbl hn _).mono ?_
  rintro e w1 ⟨rfl, hB⟩
  rw [HC.out]
  have hB0 : Below w.heap.size w w1 := Below.trans ((((Below.refl _ _).alloc (Nat.le_refl _) _).alloc (by simp) _)) (hB.mono (by simp; omega))
  have hb2 : Blk w1 w.heap.size 26 [.slice A hs.length ch, .slice B bs.length cb, .int .u64 n] :=
    Blk.below ((Blk.new w [.slice A hs.length ch, .slice B bs.length cb, .int .u64 n] 26).alloc _) hB (by simp; omega)
  have hb4 : Blk w1 (w.heap.size + 1) 26 [.slice none 0 0, .slice none 0 0, .int .u64 0] := by
    have := Blk.below (Blk.new (w.alloc (.cells #[.slice A hs.length ch, .slice B bs.length cb, .int .u64 n] 26)) [.slice none 0 0, .slice none 0 0, .int .u64 0] 26) hB (by simp)
    simpa using this
  have k20 := Blk.cell (j := 0) hb2 rfl
  have k21 := Blk.cell (j := 1) hb2 rfl
  have k22 := Blk.cell (j := 2) hb2 rfl
  have k40 := Blk.cell (j := 0) hb4 rfl
  have k41 := Blk.cell (j := 1) hb4 rfl
  have k42 := Blk.cell (j := 2) hb4 rfl
  have f40 := Blk.frozen hb4 0
  have f41 := Blk.frozen hb4 1
  have f42 := Blk.frozen hb4 2
  have HB0 := Lib.hid hB0
  have HB4 := Lib.hid hb4
  clear hB hB0 hb2 hb4
  go_wp2_with fail
  refine bodyPost_ret (v := .agg #[.slice A hs.length ch, .slice B bs.length cb, .int .u64 n]) (results_cell_row rfl _ _ (w.heap.size + 1) _ _ _ _ rfl (Blk.set (Blk.set (Blk.set HB4.out 0 _) 1 _) 2 _) Try.underlying26 rfl infoSha) rfl ⟨rfl, ?_⟩
  exact (((HB0.out.setCell (by simp) _).setCell (by simp) _).setCell (by simp) _)

theorem IRd.keptOut {k : IntKind} {w w' : World} {v : Value} {xs : List Int} {g : Nat} (h : IRd k w v xs) (hne : ∀ i x, w.cell? ⟨g, i, none⟩ ≠ some (.int k x)) (hk : ∀ p : Addr, p.block ≠ g → w'.cell? p = w.cell? p) : IRd k w' v xs := by
  obtain ⟨hl, h | ⟨b, off, c, rfl, hc⟩⟩ := h
  · exact ⟨hl, .inl h⟩
  · refine ⟨hl, .inr ⟨b, off, c, rfl, fun j hj => ?_⟩⟩
    have h1 := hc j hj
    rw [hk ⟨b, off + j, none⟩ (fun e => by
      have e' : b = g := e
      subst e'
      exact hne _ _ h1)]
    exact h1
theorem sha_noU32 {w : World} {g T : Nat} {A B : Option Addr} {a b c d : Nat} {n : Int} (h : Blk w g T [.slice A a b, .slice B c d, .int .u64 n]) : ∀ i x, w.cell? ⟨g, i, none⟩ ≠ some (.int .u32 x) := by
  intro i x e
  unfold Blk at h
  simp only [World.cell?, h] at e
  match i, e with
  | 0, e => simp at e
  | 1, e => simp at e
  | 2, e => simp at e
  | i + 3, e => simp at e
theorem setCell_out (w : World) (g j : Nat) (u : Value) (p : Addr) (h : p.block ≠ g) : (w.setCell ⟨g, j, none⟩ u).cell? p = w.cell? p :=
  World.cell?_of_block (by
    simp only [World.setCell]
    rw [Array.getElem?_modify, if_neg (fun e => h e.symm)])

theorem sumS_wd (hs v : List Int) (h : ∀ x ∈ hs, Wd x) (n : Nat) : ∀ x ∈ sumS hs v n, Wd x := by
  induction n with
  | zero => exact h
  | succ n ih =>
    intro x hx
    rw [sumS] at hx
    rcases List.mem_or_eq_of_mem_set hx with hx | rfl
    · exact ih x hx
    · exact wd_mod _
theorem foldS_wd (ks hs l : List Int) (h : ∀ x ∈ hs, Wd x) (n : Nat) : ∀ x ∈ foldS ks hs l n, Wd x := by
  induction n with
  | zero => exact h
  | succ n ih => exact sumS_wd _ _ ih 8

set_option maxRecDepth 100000 in
set_option maxHeartbeats 8000000 in
theorem rwrite_yes (vx vh vb : Value) (hs bs xs : List Int) (n : Int) (w : World) (hh : IRd .u32 w vh hs) (hb : IRd .u8 w vb bs) (hx : IRd .u8 w vx xs) (hn : 0 ≤ n) (hhl : hs.length = 8) (hbl : bs.length < 64) (hxl : xs.length ≤ 1000000) (hsd : ∀ x ∈ hs, Wd x)
    (hbd : ∀ x ∈ bs ++ xs, 0 ≤ x ∧ x ≤ 255) (hc : checkS hs.length bs.length n = true) :
    Calls Try.prog 7 #[.agg #[vh, vb, .int .u64 n], vx] w fun e w' => ∃ vh' vb', e = .returned (.agg #[vh', vb', .int .u64 (IntKind.u64.wrap (n + (xs.length : Int)))]) ∧
      IRd .u32 w' vh' (foldS ROOTS hs (bs ++ xs) ((bs ++ xs).length / 64)) ∧ IRd .u8 w' vb' ((bs ++ xs).drop (64 * ((bs ++ xs).length / 64))) ∧ Below w.heap.size w w' := by
  obtain ⟨A, ch, rfl⟩ := hh.slice
  obtain ⟨B, cb, rfl⟩ := hb.slice
  obtain ⟨X, cx, rfl⟩ := hx.slice
  rw [hhl] at hh ⊢
  have HH := Lib.hid hh
  have HBS := Lib.hid hb
  have HX := Lib.hid hx
  have HHL := Lib.hid hhl
  have HSD := Lib.hid hsd
  have HBD := Lib.hid hbd
  have HC := Lib.hid hc
  clear hh hb hx hhl hsd hbd hc
  go_enter Try.func7, Try.ntmps7
  go_wp2_with fail
  refine (rcheck_calls A B 8 bs.length ch cb n (by omega) hn _).mono ?_
  rintro e w1 ⟨rfl, hB⟩
  rw [show checkS 8 bs.length n = true from HHL.out ▸ HC.out]
  have hB0 : Below w.heap.size w w1 := Below.trans ((((Below.refl _ _).alloc (Nat.le_refl _) _).alloc (by simp) _)) (hB.mono (by simp; omega))
  have hz : w.heap.size + 1 < w1.heap.size := by have := hB.size; simp at this; omega
  have hb2 : Blk w1 w.heap.size 26 [.slice A 8 ch, .slice B bs.length cb, .int .u64 n] :=
    Blk.below ((Blk.new w [.slice A 8 ch, .slice B bs.length cb, .int .u64 n] 26).alloc _) hB (by simp; omega)
  have hb4 : Blk w1 (w.heap.size + 1) 26 [.slice none 0 0, .slice none 0 0, .int .u64 0] := by
    have := Blk.below (Blk.new (w.alloc (.cells #[.slice A 8 ch, .slice B bs.length cb, .int .u64 n] 26)) [.slice none 0 0, .slice none 0 0, .int .u64 0] 26) hB (by simp)
    simpa using this
  have k20 : (w1.alloc (.cells #[] 47)).cell? ⟨w.heap.size, 0, none⟩ = some (.slice A 8 ch) := Blk.cell (Blk.alloc hb2 _) rfl
  have HB0 := Lib.hid hB0
  have HB2 := Lib.hid hb2
  have HB4 := Lib.hid hb4
  have HH1 := Lib.hid (HH.out.below hB0)
  clear hB hB0 hb2 hb4
  go_upto_region 4 with (at_builtin; refine wpList_append_ints .u32 w1.heap.size rfl _ _ 22 47 4 rfl Try.underlying22 info_u32 (by omega) (.slice (some ⟨w1.heap.size, 0, none⟩) 0 0) (.slice A 8 ch) [] hs rfl rfl (IOwn.made .u32 w1 w1.heap.size 47 #[] 0 (by omega) (by omega) rfl) (HH1.out.alloc _) (by simp) (by rw [HHL.out]; simp) ?_; intro v2 w2 hO2 hG2 hat; rw [List.nil_append] at hO2; have HO2 := Lib.hid hO2; have HG2 := Lib.hid hG2; clear hO2 hG2 hat)
  have hB12 : Below w1.heap.size w1 w2 := grown_below ((Below.refl _ _).alloc (Nat.le_refl _) _) HG2.out (by simp) (fun g hg => by simp [Value.ownBlock] at hg; omega)
  have HB02 := Lib.hid (HB0.out.trans (hB12.mono (by omega)))
  have HB22 := Lib.hid (Blk.below HB2.out hB12 (by omega))
  have HB42 := Lib.hid (Blk.below HB4.out hB12 (by omega))
  have hz2 := hB12.size
  have HBS2 := Lib.hid (HBS.out.below HB02.out)
  have HX2 := Lib.hid (HX.out.below HB02.out)
  have k21 : (w2.alloc (.cells #[] 5)).cell? ⟨w.heap.size, 1, none⟩ = some (.slice B bs.length cb) := Blk.cell (Blk.alloc HB22.out _) rfl
  obtain ⟨A2, c2, rfl⟩ := HO2.out.rd.slice
  rw [HHL.out]
  have HOH := Lib.hid (show IOwn .u32 w2 w1.heap.size 47 (.slice A2 8 c2) hs from HHL.out ▸ HO2.out)
  clear hB12 HG2 HB0 HB2 HB4 HH1 k20 HO2
  go_upto_region 5 with (first
    | (at_builtin; refine wpList_append_ints .u8 w2.heap.size rfl _ _ 23 5 1 rfl Try.underlying23 info_u8 (by omega) (.slice (some ⟨w2.heap.size, 0, none⟩) 0 0) (.slice B bs.length cb) [] bs rfl rfl (IOwn.made .u8 w2 w2.heap.size 5 #[] 0 (by omega) (by omega) rfl) (HBS2.out.alloc _) (by simp) (by simp; omega) ?_; intro v3 w3 hO3 hG3 hat; rw [List.nil_append] at hO3; have HO3 := Lib.hid hO3; have HB23 := Lib.hid (show Below w2.heap.size w2 w3 from grown_below ((Below.refl _ _).alloc (Nat.le_refl _) _) hG3 (by simp) (fun g hg => by simp [Value.ownBlock] at hg; omega)); clear hO3 hG3 hat)
    | (at_builtin; refine wpList_append_ints .u8 w2.heap.size rfl _ _ 23 5 1 rfl Try.underlying23 info_u8 (by omega) v3 (.slice X xs.length cx) bs xs rfl rfl HO3.out (HX2.out.below HB23.out) HB23.out.size (by omega) ?_; intro v4 w4 hO4 hG4 hat; have HO4 := Lib.hid hO4; have HG4 := Lib.hid hG4; clear hO4 hG4 hat))
  have hB24 : Below w2.heap.size w2 w4 := grown_below HB23.out HG4.out HB23.out.size (fun g hg => (HO3.out.lt g hg).1)
  obtain ⟨A4, c4, rfl⟩ := HO4.out.rd.slice
  have hll : (bs ++ xs).length = bs.length + xs.length := by simp
  obtain ⟨L, hL⟩ : ∃ L, L = bs ++ xs := ⟨_, rfl⟩
  rw [← hL] at HO4 HBD hll ⊢
  have HLL := Lib.hid hll
  have HLE := Lib.hid hL
  have HL4 : L.length ≤ 1000100 := by omega
  have HB04 := Lib.hid (HB02.out.trans (hB24.mono (by have := HB02.out.size; omega)))
  have HB24 := Lib.hid (Blk.below HB22.out hB24 (by omega))
  have HB44 := Lib.hid (Blk.below HB42.out hB24 (by omega))
  have HOH4 := Lib.hid (HOH.out.rd.below hB24)
  have hz4 := hB24.size
  clear hB24 HG4 HB22 HB42 HBS2 HX2 k21 HOH HB23 HO3 hll hL HB02
  obtain ⟨wo, hwo⟩ : ∃ wo : World, wo = w4 := ⟨_, rfl⟩
  subst hwo
  go_wp2_with fail
  go_loopw [5, 7] (fun s5 s7 wr => ∃ j : Nat, 64 * j ≤ L.length ∧ s7 = .int .i64 (64 * (j : Int)) ∧ IRd .u32 wr s5 (foldS ROOTS hs L j) ∧ Below wo.heap.size wo wr)
    (fun _ s _ => L.length - (intOf s).toNat)
  case atStart => exact ⟨0, by omega, rfl, HOH4.out, Below.refl _ _⟩
  case round =>
    obtain ⟨j, hj, rfl, hH, hB⟩ := hrel
    have hfl := foldS_length ROOTS hs L HHL.out j
    obtain ⟨A5, c5, rfl⟩ := hH.slice
    rw [hfl] at hH ⊢
    have HH5 := Lib.hid hH
    have HB := Lib.hid hB
    have hzr := hB.size
    clear hH hB
    by_cases h64 : 64 ≤ L.length - 64 * j
    · have hbt : decide ((64 : Int) ≤ (L.length : Int) - 64 * (j : Int)) = true := decide_eq_true (by omega)
      obtain ⟨g4, c4', hv4, hg4b, hg4l, hg4⟩ := HO4.out.form (by omega)
      obtain ⟨hcap, hcap2⟩ := HO4.out.cap
      simp only [Value.slice.injEq, true_and] at hv4
      obtain ⟨rfl, rfl⟩ := hv4
      have hg4r : IRd .u8 wr (.slice (some ⟨g4, 64 * j, none⟩) 64 (c4 - 64 * j)) ((L.drop (64 * j)).take 64) := by
        refine ⟨by simp; omega, .inr ⟨g4, 64 * j, c4 - 64 * j, by simp; omega, fun i hi => ?_⟩⟩
        have hi' : i < 64 := by simp at hi; omega
        rw [getD_dt _ _ _ hi']
        exact (HB.out.cell (p := ⟨g4, 64 * j + i, none⟩) hg4l).trans (hg4 _ (by omega))
      have HG4R := Lib.hid hg4r
      clear hg4r hg4
      go_wp2_with fail
      refine (into_calls _ _ _ _ wr HH5.out HG4R.out hfl (by simp; omega) (foldS_wd _ _ _ HSD.out _) (fun x hx => HBD.out x (List.mem_of_mem_drop (List.mem_of_mem_take hx)))).mono ?_
      rintro e w6 ⟨v6, rfl, hV6, hB6⟩
      have HV6 := Lib.hid (show IRd .u32 w6 v6 (foldS ROOTS hs L (j + 1)) from hV6)
      have HB6 := Lib.hid (HB.out.trans (hB6.mono hzr))
      clear hV6 hB6
      go_wp2_with fail
      exact ⟨⟨j + 1, by omega, by go_num, HV6.out, HB6.out⟩, by simp [intOf]; omega⟩
    · have hbt : decide ((64 : Int) ≤ (L.length : Int) - 64 * (j : Int)) = false := decide_eq_false (by omega)
      have hbr2 := Blk.below HB24.out HB.out (by omega)
      have hbr4 := Blk.below HB44.out HB.out (by omega)
      have hq : L.length / 64 = j := by omega
      have HB2r := Lib.hid hbr2
      have HB4r := Lib.hid hbr4
      have HB0r := Lib.hid (HB04.out.trans (HB.out.mono (by have := HB04.out.size; omega)))
      have q22 : wr.cell? ⟨w.heap.size, 2, none⟩ = some (.int .u64 n) := Blk.cell hbr2 rfl
      have q22a : (wr.alloc (.cells #[] 5)).cell? ⟨w.heap.size, 2, none⟩ = some (.int .u64 n) := Blk.cell (Blk.alloc hbr2 _) rfl
      obtain ⟨TL, hTL⟩ : ∃ TL, TL = L.drop (64 * j) := ⟨_, rfl⟩
      have hdl : TL.length = L.length - 64 * j := by rw [hTL]; simp
      obtain ⟨hcap, hcap2⟩ := HO4.out.cap
      have hLt : L.length = 64 * j → TL = [] := fun h => by rw [hTL, List.drop_eq_nil_of_le (by omega)]
      have hcells : ∀ g4, A4 = some ⟨g4, 0, none⟩ → ∀ i, i < L.length → wr.cell? ⟨g4, i, none⟩ = some (.int .u8 (L.getD i 0)) := by
        rintro g4 rfl i hi
        obtain ⟨_, ⟨h0, _⟩ | ⟨b, off, c', he, hc⟩⟩ := HO4.out.rd
        · rw [h0] at hi; simp at hi
        · injection he with he _ _
          injection he with he
          injection he with h1 h2 _
          subst h1 h2
          have := hc i hi
          rw [Nat.zero_add] at this
          exact (HB.out.cell (p := ⟨g4, i, none⟩) (World.block_lt_of_cell? _ _ this)).trans this
      clear hbr2 hbr4
      have HTL := Lib.hid hTL
      have fin : ∃ A9 c9, IRd .u8 wr (.slice A9 TL.length c9) TL ∧ ((A4 = none ∧ c4 = 0 ∧ j = 0 ∧ A9 = none ∧ c9 = 0) ∨ (∃ g4, A4 = some ⟨g4, 0, none⟩ ∧ c4 = 64 * j ∧ A9 = A4 ∧ c9 = 0) ∨ (∃ g4, A4 = some ⟨g4, 0, none⟩ ∧ c4 ≠ 64 * j ∧ A9 = some ⟨g4, 64 * j, none⟩ ∧ c9 = c4 - 64 * j)) := by
        rcases HO4.out.2 with ⟨hnil, h0⟩ | ⟨g4, cap, cur, hv, _⟩
        · injection hnil with e1 e2 e3
          refine ⟨none, 0, ?_, .inl ⟨e1, e3, by omega, rfl, rfl⟩⟩
          rw [hLt (by omega)]
          exact ⟨by simp, .inl ⟨rfl, .inl rfl⟩⟩
        · injection hv with e1 e2 e3
          by_cases hcj : c4 = 64 * j
          · refine ⟨A4, 0, ?_, .inr (.inl ⟨g4, e1, hcj, rfl, rfl⟩)⟩
            rw [hLt (by omega), e1]
            exact ⟨by simp, .inl ⟨rfl, .inr ⟨_, _, rfl⟩⟩⟩
          · refine ⟨some ⟨g4, 64 * j, none⟩, c4 - 64 * j, ?_, .inr (.inr ⟨g4, e1, hcj, rfl, rfl⟩)⟩
            rw [hdl, HTL.out]
            exact drop_rd L (64 * j) g4 _ wr (by omega) (hcells g4 e1)
      obtain ⟨A9, c9, hr9, hcs⟩ := fin
      have HR9 := Lib.hid hr9
      clear hr9 hcells hTL
      have hls : TL.length = L.length - 64 * j := hdl
      have HLS := Lib.hid hls
      rcases hcs with ⟨rfl, rfl, rfl, rfl, rfl⟩ | ⟨g4, rfl, rfl, rfl, rfl⟩ | ⟨g4, rfl, hcj, rfl, rfl⟩
      · have hL0 : L.length = 0 := by omega
        have HL0 := Lib.hid hL0
        obtain rfl : TL = [] := List.eq_nil_of_length_eq_zero (by omega)
        have HR0 := Lib.hid (show IRd .u8 wr (.slice none 0 0) [] from HR9.out)
        clear hdl hls
        go_wp2_with fail
        go_region_law (first | (go_must (refine step_append_any .u8 wr.heap.size (by rfl) _ _ 23 5 1 (by rfl) Try.underlying23 info_u8 (by omega) (.slice (some ⟨wr.heap.size, 0, none⟩) 0 0) (.slice none 0 0) [] [] (by rfl) (by rfl) (IOwn.made .u8 wr.drew wr.heap.size 5 #[] 0 (by simp) (by omega) rfl) (IRd.alloc (show IRd .u8 wr.drew _ _ from HR0.out) _) (by simp) (by rw [HLS.out]; simp; omega) ?_; intro A7 c7 w7 hown hgr hat; simp only [List.nil_append, List.length_nil, Nat.zero_add, Nat.add_zero] at hown; have hB7 : Below wr.drew.heap.size wr.drew w7 := grown_below ((Below.refl _ _).alloc (Nat.le_refl _) _) hgr (by simp) (fun g hg => by simp [Value.ownBlock] at hg; show wr.heap.size ≤ g; omega); have q27 : w7.cell? ⟨w.heap.size, 2, none⟩ = some (.int .u64 n) := Blk.cell (Blk.below (show Blk wr.drew _ _ _ from HB2r.out) hB7 (by show _ < wr.heap.size; omega)) rfl; have ht7 := Blk.below (show Blk wr.drew _ _ _ from HB4r.out) hB7 (by show _ < wr.heap.size; omega); have f70 := Blk.frozen ht7 0; have f71 := Blk.frozen ht7 1; have f72 := Blk.frozen ht7 2; have c70 := Blk.cell (j := 0) ht7 rfl; have c71 := Blk.cell (j := 1) ht7 rfl; have c72 := Blk.cell (j := 2) ht7 rfl; have HT7 := Lib.hid ht7; have HB7 := Lib.hid hB7; have HO7 := Lib.hid hown; clear ht7 hB7 hown hgr hat)))
        all_goals
          go_wp2_with fail
          have hw : IntKind.u64.wrap (xs.length : Int) = (xs.length : Int) := by
            simp [IntKind.wrap, IntKind.bits, IntKind.signed]; omega
          refine bodyPost_ret (v := .agg #[.slice A5 8 c5, .slice A7 0 c7, .int .u64 (IntKind.u64.wrap (n + IntKind.u64.wrap (xs.length : Int)))]) (results_cell_row rfl _ _ (w.heap.size + 1) _ _ _ _ rfl (Blk.set (Blk.set (Blk.set HT7.out 0 _) 1 _) 2 _) Try.underlying26 rfl infoSha) rfl ⟨_, _, by rw [hw], ?_, ?_, ?_⟩
          · rw [← HLE.out, hq]
            refine IRd.keptOut (IRd.below (show IRd .u32 wr.drew _ _ from HH5.out) HB7.out) (sha_noU32 HT7.out) (fun p hp => ?_)
            rw [setCell_out _ _ _ _ _ hp, setCell_out _ _ _ _ _ hp, setCell_out _ _ _ _ _ hp]
          · rw [← HLE.out, hq, ← HTL.out]
            exact ((HO7.out.grown (row := some (w.heap.size + 1)) (grown_set (grown_set (grown_set (grown_refl _ _) 0 _) 1 _) 2 _) (.inr (fun e => by
              have := (HO7.out.lt _ e).1
              omega)))).rd
          · exact (((below_step (below_drew' HB0r.out) HB0r.out.size HB7.out).setCell (by simp) _).setCell (by simp) _).setCell (by simp) _
      · have p0 : 0 ≤ 64 * (j : Int) := by omega
        have p1 : 64 * (j : Int) ≤ (L.length : Int) := by omega
        have p2 : (64 * (j : Int)).toNat = 64 * j := by omega
        obtain rfl : TL = [] := List.eq_nil_of_length_eq_zero (by omega)
        have HR0 := Lib.hid (show IRd .u8 wr (.slice (some ⟨g4, 0, none⟩) 0 0) [] from HR9.out)
        clear hdl hls
        go_wp2_with fail
        go_region_law (first | (go_must (refine step_append_any .u8 wr.heap.size (by rfl) _ _ 23 5 1 (by rfl) Try.underlying23 info_u8 (by omega) (.slice (some ⟨wr.heap.size, 0, none⟩) 0 0) (.slice (some ⟨g4, 0, none⟩) 0 0) [] [] (by rfl) (by rfl) (IOwn.made .u8 wr.drew wr.heap.size 5 #[] 0 (by simp) (by omega) rfl) (IRd.alloc (show IRd .u8 wr.drew _ _ from HR0.out) _) (by simp) (by rw [HLS.out]; simp; omega) ?_; intro A7 c7 w7 hown hgr hat; simp only [List.nil_append, List.length_nil, Nat.zero_add, Nat.add_zero] at hown; have hB7 : Below wr.drew.heap.size wr.drew w7 := grown_below ((Below.refl _ _).alloc (Nat.le_refl _) _) hgr (by simp) (fun g hg => by simp [Value.ownBlock] at hg; show wr.heap.size ≤ g; omega); have q27 : w7.cell? ⟨w.heap.size, 2, none⟩ = some (.int .u64 n) := Blk.cell (Blk.below (show Blk wr.drew _ _ _ from HB2r.out) hB7 (by show _ < wr.heap.size; omega)) rfl; have ht7 := Blk.below (show Blk wr.drew _ _ _ from HB4r.out) hB7 (by show _ < wr.heap.size; omega); have f70 := Blk.frozen ht7 0; have f71 := Blk.frozen ht7 1; have f72 := Blk.frozen ht7 2; have c70 := Blk.cell (j := 0) ht7 rfl; have c71 := Blk.cell (j := 1) ht7 rfl; have c72 := Blk.cell (j := 2) ht7 rfl; have HT7 := Lib.hid ht7; have HB7 := Lib.hid hB7; have HO7 := Lib.hid hown; clear ht7 hB7 hown hgr hat)))
        all_goals
          go_wp2_with fail
          have hw : IntKind.u64.wrap (xs.length : Int) = (xs.length : Int) := by
            simp [IntKind.wrap, IntKind.bits, IntKind.signed]; omega
          refine bodyPost_ret (v := .agg #[.slice A5 8 c5, .slice A7 0 c7, .int .u64 (IntKind.u64.wrap (n + IntKind.u64.wrap (xs.length : Int)))]) (results_cell_row rfl _ _ (w.heap.size + 1) _ _ _ _ rfl (Blk.set (Blk.set (Blk.set HT7.out 0 _) 1 _) 2 _) Try.underlying26 rfl infoSha) rfl ⟨_, _, by rw [hw], ?_, ?_, ?_⟩
          · rw [← HLE.out, hq]
            refine IRd.keptOut (IRd.below (show IRd .u32 wr.drew _ _ from HH5.out) HB7.out) (sha_noU32 HT7.out) (fun p hp => ?_)
            rw [setCell_out _ _ _ _ _ hp, setCell_out _ _ _ _ _ hp, setCell_out _ _ _ _ _ hp]
          · rw [← HLE.out, hq, ← HTL.out]
            exact ((HO7.out.grown (row := some (w.heap.size + 1)) (grown_set (grown_set (grown_set (grown_refl _ _) 0 _) 1 _) 2 _) (.inr (fun e => by
              have := (HO7.out.lt _ e).1
              omega)))).rd
          · exact (((below_step (below_drew' HB0r.out) HB0r.out.size HB7.out).setCell (by simp) _).setCell (by simp) _).setCell (by simp) _
      · have p0 : 0 ≤ 64 * (j : Int) := by omega
        have p1 : 64 * (j : Int) ≤ (L.length : Int) := by omega
        have p2 : (64 * (j : Int)).toNat = 64 * j := by omega
        clear hdl hls
        go_wp2_with fail
        go_region_law (first | (go_must (refine step_append_any .u8 wr.heap.size (by rfl) _ _ 23 5 1 (by rfl) Try.underlying23 info_u8 (by omega) (.slice (some ⟨wr.heap.size, 0, none⟩) 0 0) (.slice (some ⟨g4, 64 * j, none⟩) (L.length - 64 * j) (c4 - 64 * j)) [] TL (by rfl) (by rfl) (IOwn.made .u8 wr.drew wr.heap.size 5 #[] 0 (by simp) (by omega) rfl) (IRd.alloc (show IRd .u8 wr.drew _ _ from HLS.out ▸ HR9.out) _) (by simp) (by rw [HLS.out]; simp; omega) ?_; intro A7 c7 w7 hown hgr hat; simp only [List.nil_append, List.length_nil, Nat.zero_add] at hown; have hB7 : Below wr.drew.heap.size wr.drew w7 := grown_below ((Below.refl _ _).alloc (Nat.le_refl _) _) hgr (by simp) (fun g hg => by simp [Value.ownBlock] at hg; show wr.heap.size ≤ g; omega); have q27 : w7.cell? ⟨w.heap.size, 2, none⟩ = some (.int .u64 n) := Blk.cell (Blk.below (show Blk wr.drew _ _ _ from HB2r.out) hB7 (by show _ < wr.heap.size; omega)) rfl; have ht7 := Blk.below (show Blk wr.drew _ _ _ from HB4r.out) hB7 (by show _ < wr.heap.size; omega); have f70 := Blk.frozen ht7 0; have f71 := Blk.frozen ht7 1; have f72 := Blk.frozen ht7 2; have c70 := Blk.cell (j := 0) ht7 rfl; have c71 := Blk.cell (j := 1) ht7 rfl; have c72 := Blk.cell (j := 2) ht7 rfl; have HT7 := Lib.hid ht7; have HB7 := Lib.hid hB7; have HO7 := Lib.hid hown; clear ht7 hB7 hown hgr hat)))
        all_goals
          go_wp2_with fail
          have hw : IntKind.u64.wrap (xs.length : Int) = (xs.length : Int) := by
            simp [IntKind.wrap, IntKind.bits, IntKind.signed]; omega
          refine bodyPost_ret (v := .agg #[.slice A5 8 c5, .slice A7 TL.length c7, .int .u64 (IntKind.u64.wrap (n + IntKind.u64.wrap (xs.length : Int)))]) (results_cell_row rfl _ _ (w.heap.size + 1) _ _ _ _ rfl (Blk.set (Blk.set (Blk.set HT7.out 0 _) 1 _) 2 _) Try.underlying26 rfl infoSha) rfl ⟨_, _, by rw [hw], ?_, ?_, ?_⟩
          · rw [← HLE.out, hq]
            refine IRd.keptOut (IRd.below (show IRd .u32 wr.drew _ _ from HH5.out) HB7.out) (sha_noU32 HT7.out) (fun p hp => ?_)
            rw [setCell_out _ _ _ _ _ hp, setCell_out _ _ _ _ _ hp, setCell_out _ _ _ _ _ hp]
          · rw [← HLE.out, hq, ← HTL.out]
            exact ((HO7.out.grown (row := some (w.heap.size + 1)) (grown_set (grown_set (grown_set (grown_refl _ _) 0 _) 1 _) 2 _) (.inr (fun e => by
              have := (HO7.out.lt _ e).1
              omega)))).rd
          · exact (((below_step (below_drew' HB0r.out) HB0r.out.size HB7.out).setCell (by simp) _).setCell (by simp) _).setCell (by simp) _
end Go.Proofs.Ytejmbkmjonmpcaa
