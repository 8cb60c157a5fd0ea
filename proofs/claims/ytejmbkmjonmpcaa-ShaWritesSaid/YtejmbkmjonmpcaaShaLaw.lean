/- The law ShaWrites, walked. -/
import Derived.Test.YtejmbkmjonmpcaaShaHeads
import Derived.Test.YtejmbkmjonmpcaaFresh
import Derived.Test.YtejmbkmjonmpcaaRG
set_option linter.unusedVariables false
set_option linter.unusedSimpArgs false
namespace Go.Proofs.Ytejmbkmjonmpcaa
open Go.RowKit

/-- What a store over three cells of another block leaves. -/
theorem IRd.stored3 {k : IntKind} {w : World} {v : Value} {xs : List Int} {g T : Nat} {A B : Option Addr} {a b c d : Nat} {n : Int} (h : IRd k w v xs) (hk : k = .u32 ∨ k = .u8) (hb : Blk w g T [.slice A a b, .slice B c d, .int .u64 n]) (x y z : Value) :
    IRd k (((w.setCell ⟨g, 0, none⟩ x).setCell ⟨g, 1, none⟩ y).setCell ⟨g, 2, none⟩ z) v xs := by
  refine IRd.keptOut (g := g) h ?_ (fun p hp => by rw [setCell_out _ _ _ _ _ hp, setCell_out _ _ _ _ _ hp, setCell_out _ _ _ _ _ hp])
  intro i u e
  unfold Blk at hb
  simp only [World.cell?, hb] at e
  match i, e with
  | 0, e => simp at e
  | 1, e => simp at e
  | 2, e =>
    simp at e
    rcases hk with rfl | rfl <;> simp at e
  | i + 3, e => simp at e
theorem bcell {W w1 : World} (hb : Below W.heap.size W w1) : (∀ b o, b < W.heap.size → w1.cell? ⟨b, o, none⟩ = W.cell? ⟨b, o, none⟩) ∧ (∀ b o, b < W.heap.size → w1.frozen? ⟨b, o, none⟩ = W.frozen? ⟨b, o, none⟩) :=
  ⟨fun b o h => hb.cell (p := ⟨b, o, none⟩) h, fun b o h => hb.frozen (p := ⟨b, o, none⟩) h⟩
theorem Blk.new1 (w : World) (o : Obj) (cs : List Value) (T : Nat) : Blk ((w.alloc o).alloc (.cells cs.toArray T)) (w.heap.size + 1) T cs := by
  have := Blk.new (w.alloc o) cs T
  simpa using this
theorem Blk.new2 (w : World) (o o' : Obj) (cs : List Value) (T : Nat) : Blk (((w.alloc o).alloc o').alloc (.cells cs.toArray T)) (w.heap.size + 2) T cs := by
  have := Blk.new ((w.alloc o).alloc o') cs T
  simpa using this
theorem below_al1 (w : World) (o : Obj) : Below w.heap.size w (w.alloc o).drew := below_drew' ((Below.refl _ _).alloc (Nat.le_refl _) _)
theorem below_al2 (w : World) (o o' : Obj) : Below w.heap.size w ((w.alloc o).alloc o').drew := below_drew' (((Below.refl _ _).alloc (Nat.le_refl _) _).alloc (by simp) _)
theorem below_al3 (w : World) (o o' o'' : Obj) : Below w.heap.size w (((w.alloc o).alloc o').alloc o'').drew := below_drew' ((((Below.refl _ _).alloc (Nat.le_refl _) _).alloc (by simp) _).alloc (by simp; omega) _)
theorem Blk.cells3 {w : World} {g T : Nat} {a b c : Value} (h : Blk w g T [a, b, c]) : w.cell? ⟨g, 0, none⟩ = some a ∧ w.cell? ⟨g, 1, none⟩ = some b ∧ w.cell? ⟨g, 2, none⟩ = some c := ⟨Blk.cell h rfl, Blk.cell h rfl, Blk.cell h rfl⟩
theorem Blk.set3 {w : World} {g T : Nat} {a b c : Value} (h : Blk w g T [a, b, c]) (x y z : Value) : Blk (((w.setCell ⟨g, 0, none⟩ x).setCell ⟨g, 1, none⟩ y).setCell ⟨g, 2, none⟩ z) g T [x, y, z] :=
  Blk.set (Blk.set (Blk.set h 0 x) 1 y) 2 z
theorem Blk.stored3 {w : World} {g T g' : Nat} {cs : List Value} (h : Blk w g T cs) (hne : g' ≠ g) (x y z : Value) : Blk (((w.setCell ⟨g', 0, none⟩ x).setCell ⟨g', 1, none⟩ y).setCell ⟨g', 2, none⟩ z) g T cs :=
  Blk.set_ne (Blk.set_ne (Blk.set_ne h 0 x hne) 1 y hne) 2 z hne

/-- A digest's value, written out. -/
def ShaF (w : World) (v : Value) (hs bs : List Int) (n : Int) : Prop := ∃ A c B d, v = .agg #[.slice A hs.length c, .slice B bs.length d, .int .u64 n] ∧ IRd .u32 w (.slice A hs.length c) hs ∧ IRd .u8 w (.slice B bs.length d) bs
theorem ShaF.of {w : World} {v : Value} {hs bs : List Int} {n : Int} (h : ShaV w v hs bs n) : ShaF w v hs bs n := by
  obtain ⟨vh, vb, rfl, h1, h2⟩ := h
  obtain ⟨A, c, rfl⟩ := h1.slice
  obtain ⟨B, d, rfl⟩ := h2.slice
  exact ⟨A, c, B, d, rfl, h1, h2⟩
theorem ShaF.to {w : World} {v : Value} {hs bs : List Int} {n : Int} (h : ShaF w v hs bs n) : ShaV w v hs bs n := by
  obtain ⟨A, c, B, d, rfl, h1, h2⟩ := h
  exact ⟨_, _, rfl, h1, h2⟩
theorem ShaF.below {w w' : World} {v : Value} {hs bs : List Int} {n : Int} (h : ShaF w v hs bs n) (hb : Below w.heap.size w w') : ShaF w' v hs bs n := ShaF.of (h.to.below hb)
def MonoSp (s : Sp) : Prop := ∀ lo hi v W W', s lo hi v W → Ext W W' → s lo hi v W'
def MonoL : List Sp → Prop
  | [] => True
  | s :: l => MonoSp s ∧ MonoL l
theorem mono_getD : ∀ (l : List Sp), MonoL l → ∀ i lo hi v W W', (l.getD i fun _ _ _ _ => True) lo hi v W → Ext W W' → (l.getD i fun _ _ _ _ => True) lo hi v W'
  | [], _, _, _, _, _, _, _, _, _ => by simp
  | s :: l, h, 0, lo, hi, v, W, W', hs, he => h.1 lo hi v W W' hs he
  | s :: l, h, i + 1, lo, hi, v, W, W', hs, he => mono_getD l h.2 i lo hi v W W' hs he
def SEq (c : Value) : Sp := fun _ _ v _ => v = c
theorem SEq.mono (c : Value) : MonoSp (SEq c) := fun _ _ _ _ _ h _ => h
def SSha (hs bs : List Int) (n : Int) : Sp := fun _ _ v W => ShaF W v hs bs n
theorem SSha.mono (hs bs : List Int) (n : Int) : MonoSp (SSha hs bs n) := fun _ _ _ _ _ h hb => ShaF.below h hb
def SPtr (base T : Nat) (cs : List Value) : Sp := fun lo hi v W => v = .pointer (some ⟨lo, 0, none⟩) ∧ Blk W lo T cs ∧ lo < hi ∧ base ≤ lo
def SBytes (D : List Int) : Sp := fun _ _ v W => IRd .u8 W v D
theorem SBytes.mono (D : List Int) : MonoSp (SBytes D) := fun _ _ _ _ _ h hb => h.below hb
theorem SPtr.mono (base T : Nat) (cs : List Value) : MonoSp (SPtr base T cs) := fun _ _ _ _ _ h hb => ⟨h.1, h.2.1.below hb h.2.1.lt, h.2.2⟩
/-- What is known behind 'own := ..'. -/
def Own3 (w wo : World) (hs bs : List Int) (n : Int) (A : Option Addr) (ch : Nat) (B : Option Addr) (cb : Nat) (s5 : Value) (wc : World) : Prop :=
  ∃ (g5 : Nat) (A5 : Option Addr) (c5 : Nat) (B5 : Option Addr) (d5 : Nat), s5 = .pointer (some ⟨g5, 0, none⟩) ∧ Blk wc g5 26 [.slice A5 hs.length c5, .slice B5 bs.length d5, .int .u64 n] ∧ w.heap.size < g5 ∧
      IRd .u32 wc (.slice A5 hs.length c5) hs ∧ IRd .u8 wc (.slice B5 bs.length d5) bs ∧ Blk wc w.heap.size 26 [.slice A hs.length ch, .slice B bs.length cb, .int .u64 n] ∧ Below wo.heap.size wo wc
theorem below_set3 {B : Nat} {w w1 : World} {g : Nat} (h : Below B w w1) (hg : B ≤ g) (x y z : Value) : Below B w (((w1.setCell ⟨g, 0, none⟩ x).setCell ⟨g, 1, none⟩ y).setCell ⟨g, 2, none⟩ z) :=
  ((h.setCell (p := ⟨g, 0, none⟩) hg _).setCell (p := ⟨g, 1, none⟩) hg _).setCell (p := ⟨g, 2, none⟩) hg _
theorem Own3.made {w wo wb : World} {hs bs : List Int} {n : Int} {A B Aa Ab : Option Addr} {ch cb ca cb1 : Nat} (h1 : IRd .u32 wb (.slice Aa hs.length ca) hs) (h2 : IRd .u8 wb (.slice Ab bs.length cb1) bs)
    (h3 : Blk wb w.heap.size 26 [.slice A hs.length ch, .slice B bs.length cb, .int .u64 n]) (h4 : Below wo.heap.size wo wb) (h5 : w.heap.size < wo.heap.size ∧ w.heap.size < wb.heap.size) :
    Own3 w wo hs bs n A ch B cb (.pointer (some ⟨wb.heap.size, 0, none⟩)) (wb.alloc (.cells #[.slice Aa hs.length ca, .slice Ab bs.length cb1, .int .u64 n] 26)) :=
  ⟨wb.heap.size, Aa, ca, Ab, cb1, rfl, Blk.new _ _ _, h5.2, IRd.alloc h1 _, IRd.alloc h2 _, Blk.alloc h3 _, Below.alloc h4 h4.size _⟩
theorem Own3.stored {w wo wb : World} {hs bs : List Int} {n : Int} {A B Aa Ab : Option Addr} {ch cb ca cb1 g : Nat} (h1 : IRd .u32 wb (.slice Aa hs.length ca) hs) (h2 : IRd .u8 wb (.slice Ab bs.length cb1) bs)
    (h3 : Blk wb w.heap.size 26 [.slice A hs.length ch, .slice B bs.length cb, .int .u64 n]) (h4 : Below wo.heap.size wo wb) (h6 : Blk wb g 26 [.slice none 0 0, .slice none 0 0, .int .u64 0]) (h5 : w.heap.size < wo.heap.size) (h7 : wo.heap.size ≤ g) :
    Own3 w wo hs bs n A ch B cb (.pointer (some ⟨g, 0, none⟩)) (((wb.setCell ⟨g, 0, none⟩ (.slice Aa hs.length ca)).setCell ⟨g, 1, none⟩ (.slice Ab bs.length cb1)).setCell ⟨g, 2, none⟩ (.int .u64 n)) :=
  ⟨_, Aa, ca, Ab, cb1, rfl, Blk.set3 h6 _ _ _, by omega, IRd.stored3 h1 (.inl rfl) h6 _ _ _, IRd.stored3 h2 (.inr rfl) h6 _ _ _, Blk.stored3 h3 (by omega) _ _ _, below_set3 h4 h7 _ _ _⟩

set_option maxRecDepth 100000 in
set_option maxHeartbeats 8000000 in
theorem law4_calls (vh vb vx : Value) (hs bs xs : List Int) (n : Int) (w : World) (hh : IRd .u32 w vh hs) (hb : IRd .u8 w vb bs) (hx : IRd .u8 w vx xs) (hn : 0 ≤ n) (hr1 : hs.length * 4 ≤ 140737488351232) (hr2 : bs.length ≤ 140737488351232) (hsd : ∀ x ∈ hs, Wd x)
    (hbd : ∀ x ∈ bs, 0 ≤ x ∧ x ≤ 255) (hxd : ∀ x ∈ xs, 0 ≤ x ∧ x ≤ 255) :
    Calls Try.prog 3 #[.agg #[vh, vb, .int .u64 n], vx] w fun e w' => e = .returned (.bool true) ∧ Below w.heap.size w w' := by
  obtain ⟨A, ch, rfl⟩ := hh.slice
  obtain ⟨B, cb, rfl⟩ := hb.slice
  obtain ⟨X, cx, rfl⟩ := hx.slice
  have HH := Lib.hid hh
  have HBS := Lib.hid hb
  have HX := Lib.hid hx
  have HSD := Lib.hid hsd
  have HBD := Lib.hid hbd
  have HXD := Lib.hid hxd
  have hxl := hx.1
  clear hh hb hx hsd hbd hxd
  by_cases hlen : xs.length > 2000
  · have hb1 : decide ((xs.length : Int) > 2000) = true := decide_eq_true (by omega)
    go_enter Try.func3, Try.ntmps3
    go_wp2_with fail
    refine (heads4_calls _).mono ?_
    rintro e w1 ⟨rfl, hB⟩
    go_wp2_with fail
    go_ret
    exact ⟨rfl, ((Below.refl _ _).alloc (Nat.le_refl _) _).trans (hB.mono (by simp))⟩
  · have hb1 : decide ((xs.length : Int) > 2000) = false := decide_eq_false (by omega)
    go_enter Try.func3, Try.ntmps3
    go_upto_region 3 with fail
    refine wp_world (fun wo => Blk wo w.heap.size 26 [.slice A hs.length ch, .slice B bs.length cb, .int .u64 n] ∧ Below w.heap.size w wo ∧ wo.heap.size = w.heap.size + 1) ⟨Blk.new w _ _, (Below.refl _ _).alloc (Nat.le_refl _) _, by simp⟩ ?_
    rintro wo ⟨hb0, hB0, hz0⟩
    have hz0' : w.heap.size < wo.heap.size := by omega
    have HB0 := Lib.hid hb0
    have HBo := Lib.hid hB0
    have HHo := Lib.hid (HH.out.below hB0)
    have HBSo := Lib.hid (HBS.out.below hB0)
    clear hb0 hB0 hz0
    go_cut [5] (fun s5 wc => Own3 w wo hs bs n A ch B cb s5 wc)
    case first =>
      have k0 := Blk.cell (j := 0) HB0.out rfl
      have k1 := Blk.cell (j := 1) HB0.out rfl
      have k2 := Blk.cell (j := 2) HB0.out rfl
      go_region_held3 (fun w' => w'.cell? ⟨w.heap.size, 0, none⟩ = some (.slice A hs.length ch) ∧ w'.cell? ⟨w.heap.size, 1, none⟩ = some (.slice B bs.length cb) ∧ w'.cell? ⟨w.heap.size, 2, none⟩ = some (.int .u64 n)) (first | (with_reducible exact ⟨k0, k1, k2⟩) | (with_reducible exact kS) | with_reducible exact Blk.cells3 (Blk.drew (HB0.out)) | with_reducible exact Blk.cells3 (Blk.drew (Blk.alloc (HB0.out) _)) | with_reducible exact Blk.cells3 (Blk.drew (Blk.alloc (Blk.alloc (HB0.out) _) _)) | with_reducible exact Blk.cells3 (Blk.drew (Blk.alloc (Blk.alloc (Blk.alloc (HB0.out) _) _) _)) | with_reducible exact Blk.cells3 (Blk.alloc (Kb.out) _) | with_reducible exact Blk.cells3 (Blk.alloc (Blk.alloc (Kb.out) _) _) | with_reducible exact Blk.cells3 (Blk.stored3 (Kb.out) (by omega) _ _ _) | with_reducible exact Blk.cells3 (Blk.stored3 (Blk.alloc (Kb.out) _) (by omega) _ _ _) | with_reducible exact Blk.cells3 (Blk.alloc (Ka.out) _) | with_reducible exact Blk.cells3 (Blk.alloc (Blk.alloc (Ka.out) _) _))
        (first
          | ((refine step_append_fresh .u32 (by rfl) _ _ 22 47 4 (by rfl) Try.underlying22 info_u32 (by omega) (.slice A hs.length ch) hs (by rfl) (by rfl) ?_ (by omega) ?_); (next => (first | with_reducible exact IRd.drew (IRd.alloc (HHo.out) _) | with_reducible exact IRd.drew (IRd.alloc (IRd.alloc (HHo.out) _) _) | with_reducible exact IRd.drew (IRd.alloc (IRd.alloc (IRd.alloc (HHo.out) _) _) _))); intro Aa ca wa hra hBa; have hza := hBa.size; have Ka := Lib.hid (Blk.below (show Blk _ w.heap.size 26 [.slice A hs.length ch, .slice B bs.length cb, .int .u64 n] by (first | with_reducible exact Blk.drew (Blk.alloc (HB0.out) _) | with_reducible exact Blk.drew (Blk.alloc (Blk.alloc (HB0.out) _) _) | with_reducible exact Blk.drew (Blk.alloc (Blk.alloc (Blk.alloc (HB0.out) _) _) _))) hBa (by first | omega | (simp; done) | (simp; omega))); have kS := Blk.cells3 Ka.out; have Rb0 := Lib.hid (IRd.below (show IRd .u8 _ _ _ by (first | with_reducible exact IRd.drew (IRd.alloc (HBSo.out) _) | with_reducible exact IRd.drew (IRd.alloc (IRd.alloc (HBSo.out) _) _) | with_reducible exact IRd.drew (IRd.alloc (IRd.alloc (IRd.alloc (HBSo.out) _) _) _))) hBa); (first | (have Z5 := Lib.hid (show Blk wa wo.heap.size 26 [.slice none 0 0, .slice none 0 0, .int .u64 0] from Blk.below (by first | with_reducible exact Blk.drew (Blk.alloc (Blk.new wo [.slice none 0 0, .slice none 0 0, .int .u64 0] 26) _) | with_reducible exact Blk.drew (Blk.alloc (Blk.alloc (Blk.new wo [.slice none 0 0, .slice none 0 0, .int .u64 0] 26) _) _)) hBa (by first | omega | (simp; done) | (simp; omega)))) | (have Z5 := Lib.hid (show Blk wa (wo.heap.size + 1) 26 [.slice none 0 0, .slice none 0 0, .int .u64 0] from Blk.below (by first | with_reducible exact Blk.drew (Blk.new1 wo _ [.slice none 0 0, .slice none 0 0, .int .u64 0] 26) | with_reducible exact Blk.drew (Blk.alloc (Blk.new1 wo _ [.slice none 0 0, .slice none 0 0, .int .u64 0] 26) _)) hBa (by first | omega | (simp; done) | (simp; omega)))) | (have Z5 := Lib.hid (show Blk wa (wo.heap.size + 2) 26 [.slice none 0 0, .slice none 0 0, .int .u64 0] from Blk.below (by with_reducible exact Blk.drew (Blk.new2 wo _ _ [.slice none 0 0, .slice none 0 0, .int .u64 0] 26)) hBa (by first | omega | (simp; done) | (simp; omega)))) | skip); have Na := Lib.hid (show Below wo.heap.size wo wa from Below.trans (by (first | with_reducible exact below_al1 wo _ | with_reducible exact below_al2 wo _ _ | with_reducible exact below_al3 wo _ _ _)) (Below.mono hBa (by first | omega | (simp; done) | (simp; omega)))); obtain ⟨hca, hfa⟩ := bcell hBa; have Ra := Lib.hid hra; have Ba := Lib.hid hBa; (try simp at hza); clear hra hBa)
          | ((refine step_append_fresh .u8 (by rfl) _ _ 23 5 1 (by rfl) Try.underlying23 info_u8 (by omega) (.slice B bs.length cb) bs (by rfl) (by rfl) ?_ (by omega) ?_); (next => (first | with_reducible exact Rb0.out | with_reducible exact IRd.alloc (Rb0.out) _ | with_reducible exact IRd.alloc (IRd.alloc (Rb0.out) _) _)); intro Ab cb1 wb hrb hBb; have hzb := hBb.size; have Kb := Lib.hid (Blk.below (show Blk _ w.heap.size 26 [.slice A hs.length ch, .slice B bs.length cb, .int .u64 n] by (first | with_reducible exact Ka.out | with_reducible exact Blk.alloc (Ka.out) _ | with_reducible exact Blk.alloc (Blk.alloc (Ka.out) _) _)) hBb (by first | omega | (simp; done) | (simp; omega))); clear kS; have kS := Blk.cells3 Kb.out; (first | ((with_reducible have Z6 := Lib.hid (Blk.below (Z5.out) hBb (by first | omega | (simp; done) | (simp; omega)))); have z0 := Blk.cell (j := 0) Z6.out rfl; have z1 := Blk.cell (j := 1) Z6.out rfl; have z2 := Blk.cell (j := 2) Z6.out rfl; have y0 := Blk.frozen Z6.out 0; have y1 := Blk.frozen Z6.out 1; have y2 := Blk.frozen Z6.out 2) | ((with_reducible have Z6 := Lib.hid (Blk.below (Blk.alloc Z5.out _) hBb (by first | omega | (simp; done) | (simp; omega)))); have z0 := Blk.cell (j := 0) Z6.out rfl; have z1 := Blk.cell (j := 1) Z6.out rfl; have z2 := Blk.cell (j := 2) Z6.out rfl; have y0 := Blk.frozen Z6.out 0; have y1 := Blk.frozen Z6.out 1; have y2 := Blk.frozen Z6.out 2) | ((with_reducible have Z6 := Lib.hid (Blk.below (Blk.new wa [.slice none 0 0, .slice none 0 0, .int .u64 0] 26) hBb (by first | omega | (simp; done) | (simp; omega)))); have z0 := Blk.cell (j := 0) Z6.out rfl; have z1 := Blk.cell (j := 1) Z6.out rfl; have z2 := Blk.cell (j := 2) Z6.out rfl; have y0 := Blk.frozen Z6.out 0; have y1 := Blk.frozen Z6.out 1; have y2 := Blk.frozen Z6.out 2) | ((with_reducible have Z6 := Lib.hid (Blk.below (Blk.alloc (Blk.new wa [.slice none 0 0, .slice none 0 0, .int .u64 0] 26) _) hBb (by first | omega | (simp; done) | (simp; omega)))); have z0 := Blk.cell (j := 0) Z6.out rfl; have z1 := Blk.cell (j := 1) Z6.out rfl; have z2 := Blk.cell (j := 2) Z6.out rfl; have y0 := Blk.frozen Z6.out 0; have y1 := Blk.frozen Z6.out 1; have y2 := Blk.frozen Z6.out 2) | ((with_reducible have Z6 := Lib.hid (Blk.below (Blk.new1 wa _ [.slice none 0 0, .slice none 0 0, .int .u64 0] 26) hBb (by first | omega | (simp; done) | (simp; omega)))); have z0 := Blk.cell (j := 0) Z6.out rfl; have z1 := Blk.cell (j := 1) Z6.out rfl; have z2 := Blk.cell (j := 2) Z6.out rfl; have y0 := Blk.frozen Z6.out 0; have y1 := Blk.frozen Z6.out 1; have y2 := Blk.frozen Z6.out 2) | skip); have Nb := Lib.hid (show Below wo.heap.size wo wb from Below.trans (by (first | with_reducible exact Na.out | with_reducible exact Below.alloc Na.out (by first | omega | (simp; done) | (simp; omega)) _ | with_reducible exact Below.alloc (Below.alloc Na.out (by first | omega | (simp; done) | (simp; omega)) _) (by first | omega | (simp; done) | (simp; omega)) _)) (Below.mono hBb (by first | omega | (simp; done) | (simp; omega)))); have Rab := Lib.hid (IRd.below (show IRd .u32 _ (.slice Aa hs.length ca) hs by (first | with_reducible exact Ra.out | with_reducible exact IRd.alloc Ra.out _ | with_reducible exact IRd.alloc (IRd.alloc Ra.out _) _)) hBb); obtain ⟨hcb, hfb⟩ := bcell hBb; have Rb := Lib.hid hrb; have Bb := Lib.hid hBb; (try simp at hzb); clear hrb hBb))
      all_goals
        clear hca hfa hcb hfb
        go_wp2_with fail
        go_meet
        first
          | with_reducible exact Own3.made Rab.out Rb.out Kb.out Nb.out (by omega)
          | with_reducible exact Own3.stored Rab.out Rb.out Kb.out Nb.out Z6.out (by omega) (by omega)
    case rest =>
      obtain ⟨g5, A5, c5, B5, d5, rfl, hb5, hg5, hr5, hs5, hb2, hBc⟩ := hcut
      have HB5 := Lib.hid hb5
      have HB2 := Lib.hid hb2
      have HR5 := Lib.hid hr5
      have HS5 := Lib.hid hs5
      have HBc := Lib.hid hBc
      have HHc := Lib.hid (HHo.out.below hBc)
      have HBSc := Lib.hid (HBSo.out.below hBc)
      have HXc := Lib.hid ((HX.out.below HBo.out).below hBc)
      clear hb5 hr5 hs5 hb2 hBc HHo HBSo HB0
      obtain ⟨XH, hXH⟩ : ∃ l, l = writeH hs bs n xs := ⟨_, rfl⟩
      obtain ⟨XB, hXB⟩ : ∃ l, l = writeB hs bs n xs := ⟨_, rfl⟩
      obtain ⟨XN, hXN⟩ : ∃ l, l = writeN hs bs n xs := ⟨_, rfl⟩
      have HXH := Lib.hid hXH
      have HXB := Lib.hid hXB
      have HXN := Lib.hid hXN
      clear hXH hXB hXN
      go_wp2_with fail
      refine wp_region_rg 8 [some 23, some 24, some 25, some 26, some 27, some 28, some 6, some 7] [SEq (.agg #[.slice A5 hs.length c5, .slice B5 bs.length d5, .int .u64 n]), SEq (.slice X xs.length cx), SSha XH XB XN, SEq (.agg #[.slice A hs.length ch, .slice B bs.length cb, .int .u64 n]), SEq (.slice X xs.length cx), SSha XH XB XN, SPtr wc.heap.size 26 [.slice none 0 0, .slice none 0 0, .int .u64 0], SPtr wc.heap.size 26 [.slice none 0 0, .slice none 0 0, .int .u64 0]]
        rfl (by kernel_rfl) ext_grows (mono_getD _ ⟨SEq.mono _, SEq.mono _, SSha.mono _ _ _, SEq.mono _, SEq.mono _, SSha.mono _ _ _, SPtr.mono _ _ _, SPtr.mono _ _ _, trivial⟩) (by kernel_rfl) (by rfl) (by kernel_rfl) (by kernel_rfl) ⟨?_, ?_, ?_, ?_, ?_, ?_, ?_, ?_, trivial⟩ ?_
      · intro vs lo hi W hE hF
        obtain ⟨q0, q1, q2⟩ := Blk.cells3 (Blk.below HB5.out hE HB5.out.lt)
        clear hF hE
        simp only [putAll]
        go_wp2_with fail
        exact ⟨rfl, ext_grows.refl _, rfl⟩
      · intro vs lo hi W hE hF
        clear hF hE
        simp only [putAll]
        go_wp2_with fail
        exact ⟨rfl, ext_grows.refl _, rfl⟩
      · intro vs lo hi W hE hF
        have f0 : vs 0 = .agg #[.slice A5 hs.length c5, .slice B5 bs.length d5, .int .u64 n] := hF ⟨0, .data⟩ (by simp) rfl
        have f1 : vs 1 = .slice X xs.length cx := hF ⟨1, .data⟩ (by simp) rfl
        have HE := Lib.hid hE
        clear hF hE
        simp only [putAll]
        go_wp2_with fail
        refine (write_calls _ _ hs bs xs n W ⟨_, _, rfl, HR5.out.below HE.out, HS5.out.below HE.out⟩ (HXc.out.below HE.out) hn (by omega) HBD.out HXD.out).mono ?_
        rintro e w' ⟨v', rfl, hV, hB⟩
        rw [← HXH.out, ← HXB.out, ← HXN.out] at hV
        have HV := Lib.hid hV
        have HB := Lib.hid hB
        clear hV hB
        go_wp2_with fail
        exact ⟨rfl, HB.out, ShaF.of HV.out⟩
      · intro vs lo hi W hE hF
        obtain ⟨q0, q1, q2⟩ := Blk.cells3 (Blk.below HB2.out hE HB2.out.lt)
        clear hF hE
        simp only [putAll]
        go_wp2_with fail
        exact ⟨rfl, ext_grows.refl _, rfl⟩
      · intro vs lo hi W hE hF
        clear hF hE
        simp only [putAll]
        go_wp2_with fail
        exact ⟨rfl, ext_grows.refl _, rfl⟩
      · intro vs lo hi W hE hF
        have f0 : vs 3 = .agg #[.slice A hs.length ch, .slice B bs.length cb, .int .u64 n] := hF ⟨3, .data⟩ (by simp) rfl
        have f1 : vs 4 = .slice X xs.length cx := hF ⟨4, .data⟩ (by simp) rfl
        have HE := Lib.hid hE
        clear hF hE
        simp only [putAll]
        go_wp2_with fail
        refine (rwrite_calls _ _ hs bs xs n W ⟨_, _, rfl, HHc.out.below HE.out, HBSc.out.below HE.out⟩ (HXc.out.below HE.out) hn (by omega) HSD.out HBD.out HXD.out).mono ?_
        rintro e w' ⟨v', rfl, hV, hB⟩
        rw [← HXH.out, ← HXB.out, ← HXN.out] at hV
        have HV := Lib.hid hV
        have HB := Lib.hid hB
        clear hV hB
        go_wp2_with fail
        exact ⟨rfl, HB.out, ShaF.of HV.out⟩
      · intro vs lo hi W hE hF
        have hz := ext_grows.size _ _ hE
        clear hF hE
        simp only [putAll]
        go_wp2_with fail
        exact ⟨rfl, (Below.refl _ _).alloc (Nat.le_refl _) _, rfl, Blk.new _ _ _, by simp, hz⟩
      · intro vs lo hi W hE hF
        have hz := ext_grows.size _ _ hE
        clear hF hE
        simp only [putAll]
        go_wp2_with fail
        exact ⟨rfl, (Below.refl _ _).alloc (Nat.le_refl _) _, rfl, Blk.new _ _ _, by simp, hz⟩
      · intro vs lo hi W hE hS hdis hsz
        have f2 : ShaF W (vs 2) XH XB XN := hS 2 (by omega)
        have f5 : ShaF W (vs 5) XH XB XN := hS 5 (by omega)
        have f6 : vs 6 = .pointer (some ⟨lo 6, 0, none⟩) ∧ Blk W (lo 6) 26 [.slice none 0 0, .slice none 0 0, .int .u64 0] ∧ lo 6 < hi 6 ∧ wc.heap.size ≤ lo 6 := hS 6 (by omega)
        have f7 : vs 7 = .pointer (some ⟨lo 7, 0, none⟩) ∧ Blk W (lo 7) 26 [.slice none 0 0, .slice none 0 0, .int .u64 0] ∧ lo 7 < hi 7 ∧ wc.heap.size ≤ lo 7 := hS 7 (by omega)
        have hd := hdis 6 7 (by omega) (by omega) (by omega)
        clear hS hdis hsz
        obtain ⟨A6, c6, B6, d6, e2, hu6, hv6⟩ := f2
        obtain ⟨A7, c7, B7, d7, e5, hu7, hv7⟩ := f5
        obtain ⟨e6, hb6, hl6, hw6⟩ := f6
        obtain ⟨e7, hb7, hl7, hw7⟩ := f7
        have hE' : Below wc.heap.size wc W := hE
        generalize lo 6 = g6 at *
        generalize lo 7 = g7 at *
        generalize hi 6 = h6 at *
        generalize hi 7 = h7 at *
        have hlt5 : g5 < wc.heap.size := HB5.out.lt
        have hlt2 : w.heap.size < wc.heap.size := HB2.out.lt
        have hne67 : g6 ≠ g7 := by omega
        have hw65 : g6 ≠ g5 := by omega
        have hw75 : g7 ≠ g5 := by omega
        have hw62 : g6 ≠ w.heap.size := by omega
        have hw72 : g7 ≠ w.heap.size := by omega
        have P6 := Lib.hid hb6
        have P7 := Lib.hid hb7
        have U6 := Lib.hid hu6
        have V6 := Lib.hid hv6
        have U7 := Lib.hid hu7
        have V7 := Lib.hid hv7
        have P5 := Lib.hid (Blk.below HB5.out hE' hlt5)
        have P2 := Lib.hid (Blk.below HB2.out hE' hlt2)
        have U5 := Lib.hid (HR5.out.below hE')
        have V5 := Lib.hid (HS5.out.below hE')
        have U2 := Lib.hid (HHc.out.below hE')
        have V2 := Lib.hid (HBSc.out.below hE')
        have BW := Lib.hid ((HBo.out.trans (HBc.out.mono (by omega))).trans (hE'.mono (by omega)))
        obtain ⟨k60, k61, k62⟩ := Blk.cells3 hb6
        obtain ⟨k70, k71, k72⟩ := Blk.cells3 hb7
        have m60 := Blk.frozen hb6 0
        have m61 := Blk.frozen hb6 1
        have m62 := Blk.frozen hb6 2
        have m70 := Blk.frozen hb7 0
        have m71 := Blk.frozen hb7 1
        have m72 := Blk.frozen hb7 2
        clear hb6 hb7 hu6 hv6 hu7 hv7 hE hE' HB5 HB2 HR5 HS5 HHc HBSc HBc HBo hd
        simp only [putAll]
        go_wp2_with fail
        refine wp_world (fun wz => Blk wz g6 26 [.slice A6 XH.length c6, .slice B6 XB.length d6, .int .u64 XN] ∧ Blk wz g7 26 [.slice A7 XH.length c7, .slice B7 XB.length d7, .int .u64 XN] ∧ Blk wz g5 26 [.slice A5 hs.length c5, .slice B5 bs.length d5, .int .u64 n] ∧ Blk wz w.heap.size 26 [.slice A hs.length ch, .slice B bs.length cb, .int .u64 n] ∧
          IRd .u32 wz (.slice A6 XH.length c6) XH ∧ IRd .u8 wz (.slice B6 XB.length d6) XB ∧ IRd .u32 wz (.slice A7 XH.length c7) XH ∧ IRd .u8 wz (.slice B7 XB.length d7) XB ∧
          IRd .u32 wz (.slice A5 hs.length c5) hs ∧ IRd .u8 wz (.slice B5 bs.length d5) bs ∧ IRd .u32 wz (.slice A hs.length ch) hs ∧ IRd .u8 wz (.slice B bs.length cb) bs ∧ Below w.heap.size w wz)
          ⟨Blk.stored3 (Blk.set3 P6.out _ _ _) hne67.symm _ _ _, Blk.set3 (Blk.stored3 P7.out hne67 _ _ _) _ _ _, Blk.stored3 (Blk.stored3 P5.out hw65 _ _ _) hw75 _ _ _, Blk.stored3 (Blk.stored3 P2.out hw62 _ _ _) hw72 _ _ _,
            IRd.stored3 (IRd.stored3 U6.out (.inl rfl) P6.out _ _ _) (.inl rfl) (Blk.stored3 P7.out hne67 _ _ _) _ _ _, IRd.stored3 (IRd.stored3 V6.out (.inr rfl) P6.out _ _ _) (.inr rfl) (Blk.stored3 P7.out hne67 _ _ _) _ _ _,
            IRd.stored3 (IRd.stored3 U7.out (.inl rfl) P6.out _ _ _) (.inl rfl) (Blk.stored3 P7.out hne67 _ _ _) _ _ _, IRd.stored3 (IRd.stored3 V7.out (.inr rfl) P6.out _ _ _) (.inr rfl) (Blk.stored3 P7.out hne67 _ _ _) _ _ _,
            IRd.stored3 (IRd.stored3 U5.out (.inl rfl) P6.out _ _ _) (.inl rfl) (Blk.stored3 P7.out hne67 _ _ _) _ _ _, IRd.stored3 (IRd.stored3 V5.out (.inr rfl) P6.out _ _ _) (.inr rfl) (Blk.stored3 P7.out hne67 _ _ _) _ _ _,
            IRd.stored3 (IRd.stored3 U2.out (.inl rfl) P6.out _ _ _) (.inl rfl) (Blk.stored3 P7.out hne67 _ _ _) _ _ _, IRd.stored3 (IRd.stored3 V2.out (.inr rfl) P6.out _ _ _) (.inr rfl) (Blk.stored3 P7.out hne67 _ _ _) _ _ _,
            below_set3 (below_set3 BW.out (by omega) _ _ _) (by omega) _ _ _⟩ ?_
        rintro wz ⟨p6, p7, p5, p2, u6, v6, u7, v7, u5, v5, u2, v2, bz⟩
        clear P6 P7 U6 V6 U7 V7 P5 P2 U5 V5 U2 V2 BW
        have P6 := Lib.hid p6
        have P7 := Lib.hid p7
        have P5 := Lib.hid p5
        have P2 := Lib.hid p2
        have U6 := Lib.hid u6
        have V6 := Lib.hid v6
        have U7 := Lib.hid u7
        have V7 := Lib.hid v7
        have U5 := Lib.hid u5
        have V5 := Lib.hid v5
        have U2 := Lib.hid u2
        have V2 := Lib.hid v2
        have BZ := Lib.hid bz
        clear p6 p7 p5 p2 u6 v6 u7 v7 u5 v5 u2 v2 bz
        obtain ⟨D, hD⟩ : ∃ l, l = doneS hs bs n := ⟨_, rfl⟩
        have HD := Lib.hid hD
        clear hD
        obtain ⟨C, hC⟩ : ∃ b, b = checkS hs.length bs.length n := ⟨_, rfl⟩
        have HC := Lib.hid hC
        clear hC
        refine wp_region_rg 30 [some 29, some 30, some 31, some 32, some 33, some 34, some 35, some 36, some 37, some 38, some 39, some 40, some 41, some 42, some 43, some 44, some 45, some 46, some 47, some 48, some 49, some 50, some 51, some 52, some 53, some 54, some 55, some 56, some 57, some 58] [SEq (.agg #[.slice A6 XH.length c6, .slice B6 XB.length d6, .int .u64 XN]), SEq (.agg #[.slice A7 XH.length c7, .slice B7 XB.length d7, .int .u64 XN]), SEq (.bool true), SEq (.bool true), SEq (.agg #[.slice A5 hs.length c5, .slice B5 bs.length d5, .int .u64 n]), SBytes D, SEq (.agg #[.slice A hs.length ch, .slice B bs.length cb, .int .u64 n]), SBytes D, SEq (.bool true), SEq (.bool true), SEq (.bool true), SEq (.agg #[.slice A hs.length ch, .slice B bs.length cb, .int .u64 n]), SEq (.bool C), SEq (.agg #[.slice A hs.length ch, .slice B bs.length cb, .int .u64 n]), SEq (.bool C), SEq (.bool true), SEq (.bool true), SEq (.bool true), SSha H0 [] 0, SSha H0 [] 0, SEq (.bool true), SEq (.bool true), SEq (.bool true), SEq (.agg #[.slice A5 hs.length c5, .slice B5 bs.length d5, .int .u64 n]), SEq (.agg #[.slice A hs.length ch, .slice B bs.length cb, .int .u64 n]), SEq (.bool true), SEq (.bool true), SEq (.bool true), SEq (.bool true), SEq (.bool true)]
          rfl (by kernel_rfl) ext_grows (mono_getD _ ⟨SEq.mono _, SEq.mono _, SEq.mono _, SEq.mono _, SEq.mono _, SBytes.mono _, SEq.mono _, SBytes.mono _, SEq.mono _, SEq.mono _, SEq.mono _, SEq.mono _, SEq.mono _, SEq.mono _, SEq.mono _, SEq.mono _, SEq.mono _, SEq.mono _, SSha.mono _ _ _, SSha.mono _ _ _, SEq.mono _, SEq.mono _, SEq.mono _, SEq.mono _, SEq.mono _, SEq.mono _, SEq.mono _, SEq.mono _, SEq.mono _, SEq.mono _, trivial⟩) (by kernel_rfl) (by rfl) (by kernel_rfl) (by kernel_rfl) ⟨?_, ?_, ?_, ?_, ?_, ?_, ?_, ?_, ?_, ?_, ?_, ?_, ?_, ?_, ?_, ?_, ?_, ?_, ?_, ?_, ?_, ?_, ?_, ?_, ?_, ?_, ?_, ?_, ?_, ?_, trivial⟩ ?_
        · intro vs lo hi W hE hF
          have hb := Blk.below P6.out hE P6.out.lt
          have q0 := Blk.cell (j := 0) hb rfl
          have q1 := Blk.cell (j := 1) hb rfl
          have q2 := Blk.cell (j := 2) hb rfl
          clear hb
          clear hF hE
          simp only [putAll]
          go_wp2_with fail
          exact ⟨rfl, ext_grows.refl _, rfl⟩
        · intro vs lo hi W hE hF
          have hb := Blk.below P7.out hE P7.out.lt
          have q0 := Blk.cell (j := 0) hb rfl
          have q1 := Blk.cell (j := 1) hb rfl
          have q2 := Blk.cell (j := 2) hb rfl
          clear hb
          clear hF hE
          simp only [putAll]
          go_wp2_with fail
          exact ⟨rfl, ext_grows.refl _, rfl⟩
        · intro vs lo hi W hE hF
          have f0 : vs 0 = .agg #[.slice A6 XH.length c6, .slice B6 XB.length d6, .int .u64 XN] := hF ⟨0, .data⟩ (by simp) rfl
          have f1 : vs 1 = .agg #[.slice A7 XH.length c7, .slice B7 XB.length d7, .int .u64 XN] := hF ⟨1, .data⟩ (by simp) rfl
          have HE := Lib.hid hE
          clear hF hE
          simp only [putAll]
          go_wp2_with fail
          refine (same4_calls _ _ XH XB XN W ⟨_, _, rfl, U6.out.below HE.out, V6.out.below HE.out⟩ ⟨_, _, rfl, U7.out.below HE.out, V7.out.below HE.out⟩).mono ?_
          rintro e w' ⟨rfl, hB⟩
          have HB := Lib.hid hB
          clear hB
          go_wp2_with fail
          exact ⟨rfl, HB.out, rfl⟩
        · intro vs lo hi W hE hF
          have f2 : vs 2 = .bool true := hF ⟨2, .data⟩ (by simp) rfl
          clear hF hE
          simp only [putAll]
          go_wp2_with fail
          exact ⟨rfl, ext_grows.refl _, rfl⟩
        · intro vs lo hi W hE hF
          have f3 : vs 3 = .bool true := hF ⟨3, .guard⟩ (by simp) rfl
          have hb := Blk.below P5.out hE P5.out.lt
          have q0 := Blk.cell (j := 0) hb rfl
          have q1 := Blk.cell (j := 1) hb rfl
          have q2 := Blk.cell (j := 2) hb rfl
          clear hb
          clear hF hE
          simp only [putAll]
          go_wp2_with fail
          exact ⟨rfl, ext_grows.refl _, rfl⟩
        · intro vs lo hi W hE hF
          have f4 : vs 4 = .agg #[.slice A5 hs.length c5, .slice B5 bs.length d5, .int .u64 n] := hF ⟨4, .data⟩ (by simp) rfl
          have f3 : vs 3 = .bool true := hF ⟨3, .guard⟩ (by simp) rfl
          have HE := Lib.hid hE
          clear hF hE
          simp only [putAll]
          go_wp2_with fail
          refine (done_calls _ hs bs n W ⟨_, _, rfl, U5.out.below HE.out, V5.out.below HE.out⟩ hn HBD.out).mono ?_
          rintro e w' ⟨v', rfl, hV, hB⟩
          rw [← HD.out] at hV
          have HV := Lib.hid hV
          have HB := Lib.hid hB
          clear hV hB
          go_wp2_with fail
          exact ⟨rfl, HB.out, HV.out⟩
        · intro vs lo hi W hE hF
          have f3 : vs 3 = .bool true := hF ⟨3, .guard⟩ (by simp) rfl
          have hb := Blk.below P2.out hE P2.out.lt
          have q0 := Blk.cell (j := 0) hb rfl
          have q1 := Blk.cell (j := 1) hb rfl
          have q2 := Blk.cell (j := 2) hb rfl
          clear hb
          clear hF hE
          simp only [putAll]
          go_wp2_with fail
          exact ⟨rfl, ext_grows.refl _, rfl⟩
        · intro vs lo hi W hE hF
          have f6 : vs 6 = .agg #[.slice A hs.length ch, .slice B bs.length cb, .int .u64 n] := hF ⟨6, .data⟩ (by simp) rfl
          have f3 : vs 3 = .bool true := hF ⟨3, .guard⟩ (by simp) rfl
          have HE := Lib.hid hE
          clear hF hE
          simp only [putAll]
          go_wp2_with fail
          refine (rdone_calls _ hs bs n W ⟨_, _, rfl, U2.out.below HE.out, V2.out.below HE.out⟩ hn HSD.out HBD.out).mono ?_
          rintro e w' ⟨v', rfl, hV, hB⟩
          rw [← HD.out] at hV
          have HV := Lib.hid hV
          have HB := Lib.hid hB
          clear hV hB
          go_wp2_with fail
          exact ⟨rfl, HB.out, HV.out⟩
        · intro vs lo hi W hE hF
          have f5 : IRd .u8 W (vs 5) D := hF ⟨5, .data⟩ (by simp) rfl
          have f7 : IRd .u8 W (vs 7) D := hF ⟨7, .data⟩ (by simp) rfl
          have f3 : vs 3 = .bool true := hF ⟨3, .guard⟩ (by simp) rfl
          have F5 := Lib.hid f5
          have F7 := Lib.hid f7
          clear f5 f7
          have HE := Lib.hid hE
          clear hF hE
          simp only [putAll]
          go_wp2_with fail
          refine (same2_calls _ _ D W F5.out F7.out).mono ?_
          rintro e w' ⟨rfl, hB⟩
          have HB := Lib.hid hB
          clear hB
          go_wp2_with fail
          exact ⟨rfl, HB.out, rfl⟩
        · intro vs lo hi W hE hF
          have f3 : vs 3 = .bool true := hF ⟨3, .data⟩ (by simp) rfl
          have f8 : vs 8 = .bool true := hF ⟨8, .data⟩ (by simp) rfl
          clear hF hE
          simp only [putAll]
          go_wp2_with fail
          exact ⟨rfl, ext_grows.refl _, rfl⟩
        · intro vs lo hi W hE hF
          have f9 : vs 9 = .bool true := hF ⟨9, .data⟩ (by simp) rfl
          clear hF hE
          simp only [putAll]
          go_wp2_with fail
          exact ⟨rfl, ext_grows.refl _, rfl⟩
        · intro vs lo hi W hE hF
          have f10 : vs 10 = .bool true := hF ⟨10, .guard⟩ (by simp) rfl
          have hb := Blk.below P2.out hE P2.out.lt
          have q0 := Blk.cell (j := 0) hb rfl
          have q1 := Blk.cell (j := 1) hb rfl
          have q2 := Blk.cell (j := 2) hb rfl
          clear hb
          clear hF hE
          simp only [putAll]
          go_wp2_with fail
          exact ⟨rfl, ext_grows.refl _, rfl⟩
        · intro vs lo hi W hE hF
          have f11 : vs 11 = .agg #[.slice A hs.length ch, .slice B bs.length cb, .int .u64 n] := hF ⟨11, .data⟩ (by simp) rfl
          have f10 : vs 10 = .bool true := hF ⟨10, .guard⟩ (by simp) rfl
          have HE := Lib.hid hE
          clear hF hE
          simp only [putAll]
          go_wp2_with fail
          refine (check_val _ hs bs n W ⟨_, _, rfl, U2.out.below HE.out, V2.out.below HE.out⟩ hn).mono ?_
          rw [← HC.out]
          rintro e w' ⟨rfl, hB⟩
          have HB := Lib.hid hB
          clear hB
          go_wp2_with fail
          exact ⟨rfl, HB.out, rfl⟩
        · intro vs lo hi W hE hF
          have f10 : vs 10 = .bool true := hF ⟨10, .guard⟩ (by simp) rfl
          have hb := Blk.below P2.out hE P2.out.lt
          have q0 := Blk.cell (j := 0) hb rfl
          have q1 := Blk.cell (j := 1) hb rfl
          have q2 := Blk.cell (j := 2) hb rfl
          clear hb
          clear hF hE
          simp only [putAll]
          go_wp2_with fail
          exact ⟨rfl, ext_grows.refl _, rfl⟩
        · intro vs lo hi W hE hF
          have f13 : vs 13 = .agg #[.slice A hs.length ch, .slice B bs.length cb, .int .u64 n] := hF ⟨13, .data⟩ (by simp) rfl
          have f10 : vs 10 = .bool true := hF ⟨10, .guard⟩ (by simp) rfl
          have HE := Lib.hid hE
          clear hF hE
          simp only [putAll]
          go_wp2_with fail
          refine (rcheck_val _ hs bs n W ⟨_, _, rfl, U2.out.below HE.out, V2.out.below HE.out⟩ hn).mono ?_
          rw [← HC.out]
          rintro e w' ⟨rfl, hB⟩
          have HB := Lib.hid hB
          clear hB
          go_wp2_with fail
          exact ⟨rfl, HB.out, rfl⟩
        · intro vs lo hi W hE hF
          have f12 : vs 12 = .bool C := hF ⟨12, .data⟩ (by simp) rfl
          have f14 : vs 14 = .bool C := hF ⟨14, .data⟩ (by simp) rfl
          have f10 : vs 10 = .bool true := hF ⟨10, .guard⟩ (by simp) rfl
          clear hF hE
          simp only [putAll]
          go_wp2_with fail
          exact ⟨rfl, ext_grows.refl _, rfl⟩
        · intro vs lo hi W hE hF
          have f10 : vs 10 = .bool true := hF ⟨10, .data⟩ (by simp) rfl
          have f15 : vs 15 = .bool true := hF ⟨15, .data⟩ (by simp) rfl
          clear hF hE
          simp only [putAll]
          go_wp2_with fail
          exact ⟨rfl, ext_grows.refl _, rfl⟩
        · intro vs lo hi W hE hF
          have f16 : vs 16 = .bool true := hF ⟨16, .data⟩ (by simp) rfl
          clear hF hE
          simp only [putAll]
          go_wp2_with fail
          exact ⟨rfl, ext_grows.refl _, rfl⟩
        · intro vs lo hi W hE hF
          have f17 : vs 17 = .bool true := hF ⟨17, .guard⟩ (by simp) rfl
          have HE := Lib.hid hE
          clear hF hE
          simp only [putAll]
          go_wp2_with fail
          refine (new_val W).mono ?_
          rintro e w' ⟨v', rfl, hV, hB⟩
          have HV := Lib.hid hV
          have HB := Lib.hid hB
          clear hV hB
          go_wp2_with fail
          exact ⟨rfl, HB.out, ShaF.of HV.out⟩
        · intro vs lo hi W hE hF
          have f17 : vs 17 = .bool true := hF ⟨17, .guard⟩ (by simp) rfl
          have HE := Lib.hid hE
          clear hF hE
          simp only [putAll]
          go_wp2_with fail
          refine (rnew_val W).mono ?_
          rintro e w' ⟨v', rfl, hV, hB⟩
          have HV := Lib.hid hV
          have HB := Lib.hid hB
          clear hV hB
          go_wp2_with fail
          exact ⟨rfl, HB.out, ShaF.of HV.out⟩
        · intro vs lo hi W hE hF
          have f18 : ShaF W (vs 18) H0 [] 0 := hF ⟨18, .data⟩ (by simp) rfl
          have f19 : ShaF W (vs 19) H0 [] 0 := hF ⟨19, .data⟩ (by simp) rfl
          have f17 : vs 17 = .bool true := hF ⟨17, .guard⟩ (by simp) rfl
          have F5 := Lib.hid f18
          have F7 := Lib.hid f19
          clear f18 f19
          have HE := Lib.hid hE
          clear hF hE
          simp only [putAll]
          go_wp2_with fail
          refine (same4_calls _ _ H0 [] 0 W F5.out.to F7.out.to).mono ?_
          rintro e w' ⟨rfl, hB⟩
          have HB := Lib.hid hB
          clear hB
          go_wp2_with fail
          exact ⟨rfl, HB.out, rfl⟩
        · intro vs lo hi W hE hF
          have f17 : vs 17 = .bool true := hF ⟨17, .data⟩ (by simp) rfl
          have f20 : vs 20 = .bool true := hF ⟨20, .data⟩ (by simp) rfl
          clear hF hE
          simp only [putAll]
          go_wp2_with fail
          exact ⟨rfl, ext_grows.refl _, rfl⟩
        · intro vs lo hi W hE hF
          have f21 : vs 21 = .bool true := hF ⟨21, .data⟩ (by simp) rfl
          clear hF hE
          simp only [putAll]
          go_wp2_with fail
          exact ⟨rfl, ext_grows.refl _, rfl⟩
        · intro vs lo hi W hE hF
          have f22 : vs 22 = .bool true := hF ⟨22, .guard⟩ (by simp) rfl
          have hb := Blk.below P5.out hE P5.out.lt
          have q0 := Blk.cell (j := 0) hb rfl
          have q1 := Blk.cell (j := 1) hb rfl
          have q2 := Blk.cell (j := 2) hb rfl
          clear hb
          clear hF hE
          simp only [putAll]
          go_wp2_with fail
          exact ⟨rfl, ext_grows.refl _, rfl⟩
        · intro vs lo hi W hE hF
          have f22 : vs 22 = .bool true := hF ⟨22, .guard⟩ (by simp) rfl
          have hb := Blk.below P2.out hE P2.out.lt
          have q0 := Blk.cell (j := 0) hb rfl
          have q1 := Blk.cell (j := 1) hb rfl
          have q2 := Blk.cell (j := 2) hb rfl
          clear hb
          clear hF hE
          simp only [putAll]
          go_wp2_with fail
          exact ⟨rfl, ext_grows.refl _, rfl⟩
        · intro vs lo hi W hE hF
          have f23 : vs 23 = .agg #[.slice A5 hs.length c5, .slice B5 bs.length d5, .int .u64 n] := hF ⟨23, .data⟩ (by simp) rfl
          have f24 : vs 24 = .agg #[.slice A hs.length ch, .slice B bs.length cb, .int .u64 n] := hF ⟨24, .data⟩ (by simp) rfl
          have f22 : vs 22 = .bool true := hF ⟨22, .guard⟩ (by simp) rfl
          have HE := Lib.hid hE
          clear hF hE
          simp only [putAll]
          go_wp2_with fail
          refine (same4_calls _ _ hs bs n W ⟨_, _, rfl, U5.out.below HE.out, V5.out.below HE.out⟩ ⟨_, _, rfl, U2.out.below HE.out, V2.out.below HE.out⟩).mono ?_
          rintro e w' ⟨rfl, hB⟩
          have HB := Lib.hid hB
          clear hB
          go_wp2_with fail
          exact ⟨rfl, HB.out, rfl⟩
        · intro vs lo hi W hE hF
          have f22 : vs 22 = .bool true := hF ⟨22, .data⟩ (by simp) rfl
          have f25 : vs 25 = .bool true := hF ⟨25, .data⟩ (by simp) rfl
          clear hF hE
          simp only [putAll]
          go_wp2_with fail
          exact ⟨rfl, ext_grows.refl _, rfl⟩
        · intro vs lo hi W hE hF
          have f26 : vs 26 = .bool true := hF ⟨26, .data⟩ (by simp) rfl
          clear hF hE
          simp only [putAll]
          go_wp2_with fail
          exact ⟨rfl, ext_grows.refl _, rfl⟩
        · intro vs lo hi W hE hF
          have f27 : vs 27 = .bool true := hF ⟨27, .guard⟩ (by simp) rfl
          have HE := Lib.hid hE
          clear hF hE
          simp only [putAll]
          go_wp2_with fail
          refine (heads4_calls W).mono ?_
          rintro e w' ⟨rfl, hB⟩
          have HB := Lib.hid hB
          clear hB
          go_wp2_with fail
          exact ⟨rfl, HB.out, rfl⟩
        · intro vs lo hi W hE hF
          have f27 : vs 27 = .bool true := hF ⟨27, .data⟩ (by simp) rfl
          have f28 : vs 28 = .bool true := hF ⟨28, .data⟩ (by simp) rfl
          clear hF hE
          simp only [putAll]
          go_wp2_with fail
          exact ⟨rfl, ext_grows.refl _, rfl⟩
        · intro vs lo hi W hE hS hdis hsz
          have f29 : vs 29 = .bool true := hS 29 (by omega)
          have HE := Lib.hid (show Below wz.heap.size wz W from hE)
          clear hS hdis hsz hE
          simp only [putAll]
          go_wp2_with fail
          go_ret
          exact ⟨rfl, BZ.out.trans (HE.out.mono BZ.out.size)⟩
end Go.Proofs.Ytejmbkmjonmpcaa
