/- bytes.Clone; sha.Check. -/
import Derived.Test.YtejmbkmjonmpcaaProg
import Derived.Test.YtejmbkmjonmpcaaRow
import Derived.Deep.QuietTactic
import Derived.BigQuiet
import Derived.WalkLawsBesides
import Derived.WalkSpells
import Derived.Outline
import Derived.Lib.Hide
set_option linter.unusedVariables false
set_option linter.unusedSimpArgs false
namespace Go.Proofs.Ytejmbkmjonmpcaa
open Go.RowKit

theorem info_u8 : (Try.prog.info? 5).map (fun i => (i.zero, i.size, i.bytes)) = some (some (.int .u8 0), 1, 1) := by kernel_rfl

theorem IOwn.made (k : IntKind) (w : World) (base e : Nat) (cur : Array Value) (cap : Nat) (hb : base ≤ w.heap.size) (hm : cap ≤ maxLen) (hs : cur.size = cap) :
    IOwn k (w.alloc (.cells cur e)) base e (.slice (some ⟨w.heap.size, 0, none⟩) 0 cap) [] :=
  World.ownsRow_made w cur cap hb hm (by omega)

set_option maxRecDepth 100000 in
set_option maxHeartbeats 800000 in
theorem clone_calls (v : Value) (bs : List Int) (w : World) (hv : IRd .u8 w v bs) (hlen : bs.length ≤ 140737488355328) :
    Calls Try.prog 22 #[v] w fun e w' => ∃ v', e = .returned v' ∧ IOwn .u8 w' w.heap.size 5 v' bs ∧ Below w.heap.size w w' := by
  have HV := Lib.hid hv
  have arm : ∀ (ad : Addr) (n c : Nat), n = bs.length → v = .slice (some ad) n c → Calls Try.prog 22 #[v] w fun e w' => ∃ v', e = .returned v' ∧ IOwn .u8 w' w.heap.size 5 v' bs ∧ Below w.heap.size w w' := by
    intro ad n c hn hvv
    have HV' := Lib.hid (show IRd .u8 w (.slice (some ad) n c) bs from hvv ▸ HV.out)
    subst hvv
    have HN := Lib.hid hn
    clear hn hv HV
    have hnil := Lib.run_eql_slice_nil (P := Try.prog) w 23 5 (some ad) n c 0 0 Try.underlying23
    go_enter Try.func22, Try.ntmps22
    go_wp2_with (at_builtin; refine wpList_append_ints .u8 w.heap.size rfl _ _ 23 5 1 rfl Try.underlying23 info_u8 (by omega) (.slice (some ⟨w.heap.size, 0, none⟩) 0 0) (.slice (some ad) n c) [] bs rfl rfl (IOwn.made .u8 w _ _ #[] 0 (Nat.le_refl _) (by unfold maxLen; omega) rfl) (HV'.out.alloc _) (by simp) (by simp; omega) ?_; intro v1 w1 hown hgr hat)
    go_ret
    refine ⟨v1, rfl, by simpa using hown, ?_⟩
    exact ((Below.refl _ _).alloc (Nat.le_refl _) _).grown hgr (by simp) (by simp [Value.ownBlock])
  obtain ⟨hl, ⟨rfl, rfl | ⟨ad, c, rfl⟩⟩ | ⟨b, off, c, rfl, hc⟩⟩ := hv
  · have hnil := Lib.run_eql_slice_nil (P := Try.prog) w 23 5 none 0 0 0 0 Try.underlying23
    go_enter Try.func22, Try.ntmps22
    go_wp2_with fail
    go_ret
    exact ⟨_, rfl, IOwn.nil _ _ _ _, Below.refl _ _⟩
  · exact arm ad 0 c rfl rfl
  · exact arm _ _ c rfl rfl

/-- May a digest with this many words, bytes, and this count be? -/
def checkS (h b : Nat) (n : Int) : Bool := h == 8 && (decide (b < 64) && (b : Int) == n % 64)

set_option maxRecDepth 100000 in
set_option maxHeartbeats 1600000 in
theorem check_calls (A B : Option Addr) (h b ch cb : Nat) (n : Int) (hb : b ≤ 9223372036854775807) (hn : 0 ≤ n) (w : World) :
    Calls Try.prog 12 #[.agg #[.slice A h ch, .slice B b cb, .int .u64 n]] w fun e w' => e = .returned (.bool (checkS h b n)) ∧ Below w.heap.size w w' := by
  by_cases h1 : h = 8
  · have c1 : ((h : Int) == 8) = true := by simp; omega
    by_cases h2 : b < 64
    · have c2 : decide ((b : Int) < 64) = true := by simp; omega
      go_enter Try.func12, Try.ntmps12
      go_wp2_with fail
      go_ret
      refine ⟨?_, (Below.refl _ _).alloc (Nat.le_refl _) _⟩
      simp [checkS, h1, h2]
    · have c2 : decide ((b : Int) < 64) = false := by simp; omega
      go_enter Try.func12, Try.ntmps12
      go_wp2_with fail
      go_ret
      refine ⟨?_, (Below.refl _ _).alloc (Nat.le_refl _) _⟩
      simp [checkS, h2]
  · have c1 : ((h : Int) == 8) = false := by simp; omega
    go_enter Try.func12, Try.ntmps12
    go_wp2_with fail
    go_ret
    refine ⟨?_, (Below.refl _ _).alloc (Nat.le_refl _) _⟩
    simp [checkS, h1]
end Go.Proofs.Ytejmbkmjonmpcaa
