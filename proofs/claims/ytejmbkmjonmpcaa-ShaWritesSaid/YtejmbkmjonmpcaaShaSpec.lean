/- SHA-256 in plain Lean: the block function as the Go text reckons it. -/
import Derived.Laws.BitsAllLaws
import Derived.Laws.Bits64
namespace Go.Proofs.Ytejmbkmjonmpcaa

def rotl (x k : Int) : Int := Go.bits .or .u32 ((x * 2 ^ (k % 32).toNat) % 4294967296) (x / 2 ^ (32 - (k % 32)).toNat)
def turnS (x a b c : Int) (shift : Bool) : Int :=
  Go.bits .xor .u32 (Go.bits .xor .u32 (rotl x (-a)) (rotl x (-b))) (if shift then x / 2 ^ c.toNat else rotl x (-c))

def w4 (bs : List Int) (i : Nat) : Int :=
  Go.bits .or .u32 (Go.bits .or .u32 (Go.bits .or .u32 (bs.getD (4 * i) 0 * 16777216) (bs.getD (4 * i + 1) 0 * 65536)) (bs.getD (4 * i + 2) 0 * 256)) (bs.getD (4 * i + 3) 0)
def next16 (ws : List Int) (i : Nat) : Int :=
  (ws.getD (i - 16) 0 + ws.getD (i - 7) 0 + turnS (ws.getD (i - 15) 0) 7 18 3 true + turnS (ws.getD (i - 2) 0) 17 19 10 true) % 4294967296
def nextW (bs ws : List Int) (i : Nat) : Int := if i < 16 then w4 bs i else next16 ws i
theorem nextW_lo (bs ws : List Int) {i : Nat} (h : i < 16) : nextW bs ws i = Go.bits .or .u32 (Go.bits .or .u32 (Go.bits .or .u32 (bs.getD (4 * i) 0 * 16777216) (bs.getD (4 * i + 1) 0 * 65536)) (bs.getD (4 * i + 2) 0 * 256)) (bs.getD (4 * i + 3) 0) := by
  unfold nextW w4; rw [if_pos h]
theorem nextW_hi (bs ws : List Int) {i : Nat} (h : ¬ i < 16) : nextW bs ws i = (ws.getD (i - 16) 0 + ws.getD (i - 7) 0 + turnS (ws.getD (i - 15) 0) 7 18 3 true + turnS (ws.getD (i - 2) 0) 17 19 10 true) % 4294967296 := by
  unfold nextW next16; rw [if_neg h]
def schedL (bs : List Int) : Nat → List Int
  | 0 => []
  | n + 1 => schedL bs n ++ [nextW bs (schedL bs n) n]
theorem schedL_length (bs : List Int) (n : Nat) : (schedL bs n).length = n := by
  induction n with
  | zero => rfl
  | succ n ih => simp [schedL, ih]

def tS (v : List Int) (k x : Int) : Int :=
  v.getD 7 0 + turnS (v.getD 4 0) 6 11 25 false + Go.bits .or .u32 (Go.bits .and .u32 (v.getD 4 0) (v.getD 5 0)) (Go.bits .andNot .u32 (v.getD 6 0) (v.getD 4 0)) + k + x
def uS (v : List Int) : Int :=
  turnS (v.getD 0 0) 2 13 22 false + Go.bits .or .u32 (Go.bits .or .u32 (Go.bits .and .u32 (v.getD 0 0) (v.getD 1 0)) (Go.bits .and .u32 (v.getD 0 0) (v.getD 2 0))) (Go.bits .and .u32 (v.getD 1 0) (v.getD 2 0))
def roundS (v : List Int) (k x : Int) : List Int :=
  [(tS v k x + uS v) % 4294967296, v.getD 0 0, v.getD 1 0, v.getD 2 0, (v.getD 3 0 + tS v k x) % 4294967296, v.getD 4 0, v.getD 5 0, v.getD 6 0]
def roundsS (ks ws hs : List Int) : Nat → List Int
  | 0 => hs
  | n + 1 => roundS (roundsS ks ws hs n) (ks.getD n 0) (ws.getD n 0)
theorem roundsS_succ (ks ws hs : List Int) (n : Nat) : roundsS ks ws hs (n + 1) = roundS (roundsS ks ws hs n) (ks.getD n 0) (ws.getD n 0) := rfl
theorem roundsS_length (ks ws hs : List Int) (n : Nat) (h : hs.length = 8) : (roundsS ks ws hs n).length = 8 := by
  cases n with
  | zero => exact h
  | succ n => rfl
def sumS (hs v : List Int) : Nat → List Int
  | 0 => hs
  | n + 1 => (sumS hs v n).set n (((sumS hs v n).getD n 0 + v.getD n 0) % 4294967296)
theorem sumS_length (hs v : List Int) (n : Nat) : (sumS hs v n).length = hs.length := by
  induction n with
  | zero => rfl
  | succ n ih => simp [sumS, ih]
theorem intoS_length (ks hs bs : List Int) (h : hs.length = 8) : (sumS hs (roundsS ks (schedL bs 64) hs 64) 8).length = 8 := by rw [sumS_length, h]
def intoS (ks hs bs : List Int) : List Int := sumS hs (roundsS ks (schedL bs 64) hs 64) 8
end Go.Proofs.Ytejmbkmjonmpcaa
