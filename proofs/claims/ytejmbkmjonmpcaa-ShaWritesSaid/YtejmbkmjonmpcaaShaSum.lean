/- sha's contracts in one form; Sum. -/
import Derived.Test.YtejmbkmjonmpcaaShaNums
set_option linter.unusedVariables false
set_option linter.unusedSimpArgs false
namespace Go.Proofs.Ytejmbkmjonmpcaa
open Go.RowKit

/-- A digest's value. -/
def ShaV (w : World) (v : Value) (hs bs : List Int) (n : Int) : Prop := ∃ vh vb, v = .agg #[vh, vb, .int .u64 n] ∧ IRd .u32 w vh hs ∧ IRd .u8 w vb bs
theorem ShaV.below {w w' : World} {v : Value} {hs bs : List Int} {n : Int} (h : ShaV w v hs bs n) (hb : Below w.heap.size w w') : ShaV w' v hs bs n := by
  obtain ⟨vh, vb, rfl, h1, h2⟩ := h
  exact ⟨vh, vb, rfl, h1.below hb, h2.below hb⟩

def writeH (hs bs : List Int) (n : Int) (xs : List Int) : List Int := if checkS hs.length bs.length n then foldS ROOTS hs (bs ++ xs) ((bs ++ xs).length / 64) else hs
def writeB (hs bs : List Int) (n : Int) (xs : List Int) : List Int := if checkS hs.length bs.length n then (bs ++ xs).drop (64 * ((bs ++ xs).length / 64)) else bs
def writeN (hs bs : List Int) (n : Int) (xs : List Int) : Int := if checkS hs.length bs.length n then IntKind.u64.wrap (n + (xs.length : Int)) else n
def doneS (hs bs : List Int) (n : Int) : List Int := if checkS hs.length bs.length n then outB (foldS ROOTS hs (bs ++ tailS bs.length n) ((bs ++ tailS bs.length n).length / 64)) 8 else []

theorem checkS_yes {h b : Nat} {n : Int} (hc : checkS h b n = true) : h = 8 ∧ b < 64 ∧ (b : Int) = n % 64 := by
  simp [checkS] at hc
  omega

theorem write_calls (v vx : Value) (hs bs xs : List Int) (n : Int) (w : World) (hv : ShaV w v hs bs n) (hx : IRd .u8 w vx xs) (hn : 0 ≤ n) (hxl : xs.length ≤ 1000000)
    (hbd : ∀ x ∈ bs, 0 ≤ x ∧ x ≤ 255) (hxd : ∀ x ∈ xs, 0 ≤ x ∧ x ≤ 255) :
    Calls Try.prog 6 #[v, vx] w fun e w' => ∃ v', e = .returned v' ∧ ShaV w' v' (writeH hs bs n xs) (writeB hs bs n xs) (writeN hs bs n xs) ∧ Below w.heap.size w w' := by
  obtain ⟨vh, vb, rfl, h1, h2⟩ := hv
  unfold writeH writeB writeN
  cases hc : checkS hs.length bs.length n with
  | false =>
    refine (write_no vx vh vb hs bs n w h1 h2 hn hc).mono ?_
    rintro e w' ⟨rfl, hB⟩
    exact ⟨_, rfl, ⟨_, _, rfl, h1.below hB, h2.below hB⟩, hB⟩
  | true =>
    obtain ⟨c1, c2, c3⟩ := checkS_yes hc
    refine (write_yes P64 primes64 vx vh vb hs bs xs n w h1 h2 hx hn c1 c2 hxl (bytes_getD fun x hx' => (List.mem_append.1 hx').elim (hbd x) (hxd x)) hc).mono ?_
    rintro e w' ⟨vh', vb', rfl, r1, r2, hB⟩
    rw [const64] at r1
    exact ⟨_, rfl, ⟨_, _, rfl, r1, r2⟩, hB⟩

theorem done_calls (v : Value) (hs bs : List Int) (n : Int) (w : World) (hv : ShaV w v hs bs n) (hn : 0 ≤ n) (hbd : ∀ x ∈ bs, 0 ≤ x ∧ x ≤ 255) :
    Calls Try.prog 10 #[v] w fun e w' => ∃ v', e = .returned v' ∧ IRd .u8 w' v' (doneS hs bs n) ∧ Below w.heap.size w w' := by
  obtain ⟨vh, vb, rfl, h1, h2⟩ := hv
  unfold doneS
  cases hc : checkS hs.length bs.length n with
  | false =>
    refine (done_no vh vb hs bs n w h1 h2 hn hc).mono ?_
    rintro e w' ⟨rfl, hB⟩
    exact ⟨_, rfl, ⟨by simp, .inl ⟨rfl, .inl rfl⟩⟩, hB⟩
  | true =>
    obtain ⟨c1, c2, c3⟩ := checkS_yes hc
    refine (done_yes P64 primes64 vh vb hs bs n w h1 h2 hn c1 c2 hbd hc _ rfl).mono ?_
    rintro e w' ⟨v', rfl, r1, hB⟩
    rw [const64] at r1
    exact ⟨_, rfl, r1.rd, hB⟩

theorem new_val (w : World) : Calls Try.prog 14 #[] w fun e w' => ∃ v', e = .returned v' ∧ ShaV w' v' H0 [] 0 ∧ Below w.heap.size w w' := by
  refine (new_calls P8 primes8 w).mono ?_
  rintro e w' ⟨v, rfl, hO, hB⟩
  rw [const8] at hO
  exact ⟨_, rfl, ⟨_, _, rfl, hO.rd, ⟨by simp, .inl ⟨rfl, .inl rfl⟩⟩⟩, hB⟩

theorem check_val (v : Value) (hs bs : List Int) (n : Int) (w : World) (hv : ShaV w v hs bs n) (hn : 0 ≤ n) :
    Calls Try.prog 12 #[v] w fun e w' => e = .returned (.bool (checkS hs.length bs.length n)) ∧ Below w.heap.size w w' := by
  obtain ⟨vh, vb, rfl, h1, h2⟩ := hv
  obtain ⟨A, ch, rfl⟩ := h1.slice
  obtain ⟨B, cb, rfl⟩ := h2.slice
  exact check_calls A B _ _ ch cb n h2.1 hn w

theorem drop_bytes {l : List Int} (h : ∀ x ∈ l, 0 ≤ x ∧ x ≤ 255) (k : Nat) : ∀ x ∈ l.drop k, 0 ≤ x ∧ x ≤ 255 := fun x hx => h x (List.mem_of_mem_drop hx)
theorem writeB_bytes {hs bs xs : List Int} {n : Int} (hbd : ∀ x ∈ bs, 0 ≤ x ∧ x ≤ 255) (hxd : ∀ x ∈ xs, 0 ≤ x ∧ x ≤ 255) : ∀ x ∈ writeB hs bs n xs, 0 ≤ x ∧ x ≤ 255 := by
  unfold writeB
  split
  · exact drop_bytes (fun x hx => (List.mem_append.1 hx).elim (hbd x) (hxd x)) _
  · exact hbd
theorem writeN_pos {hs bs xs : List Int} {n : Int} (hn : 0 ≤ n) : 0 ≤ writeN hs bs n xs := by
  unfold writeN
  split
  · simp only [IntKind.wrap, IntKind.bits, IntKind.signed]
    simp
    omega
  · exact hn

set_option maxRecDepth 100000 in
theorem sum_calls (vx : Value) (xs : List Int) (w : World) (hx : IRd .u8 w vx xs) (hxl : xs.length ≤ 1000000) (hxd : ∀ x ∈ xs, 0 ≤ x ∧ x ≤ 255) (D : List Int)
    (hD : D = doneS (writeH H0 [] 0 xs) (writeB H0 [] 0 xs) (writeN H0 [] 0 xs)) :
    Calls Try.prog 21 #[vx] w fun e w' => ∃ v', e = .returned v' ∧ IRd .u8 w' v' D ∧ Below w.heap.size w w' := by
  have HX := Lib.hid hx
  have HXD := Lib.hid hxd
  have HD := Lib.hid hD
  clear hx hxd hD
  go_enter Try.func21, Try.ntmps21
  go_wp2_with fail
  refine (new_val _).mono ?_
  rintro e w1 ⟨v1, rfl, hV1, hB1⟩
  have HV1 := Lib.hid hV1
  have HB1 := Lib.hid hB1
  clear hV1 hB1
  go_wp2_with fail
  refine (write_calls _ _ H0 [] xs 0 w1 HV1.out (HX.out.below HB1.out) (by omega) hxl (by simp) HXD.out).mono ?_
  rintro e w2 ⟨v2, rfl, hV2, hB2⟩
  have HV2 := Lib.hid hV2
  have HB2 := Lib.hid (below_step HB1.out HB1.out.size hB2)
  clear hV2 hB2
  go_wp2_with fail
  refine (done_calls _ _ _ _ w2 HV2.out (writeN_pos (by omega)) (writeB_bytes (by simp) HXD.out)).mono ?_
  rintro e w3 ⟨v3, rfl, hV3, hB3⟩
  have HB3 := Lib.hid (below_step HB2.out HB2.out.size hB3)
  rw [← HD.out] at hV3
  have HV3 := Lib.hid hV3
  clear hV3 hB3
  go_wp2_with fail
  go_ret
  exact ⟨_, rfl, HV3.out, HB3.out⟩
end Go.Proofs.Ytejmbkmjonmpcaa
