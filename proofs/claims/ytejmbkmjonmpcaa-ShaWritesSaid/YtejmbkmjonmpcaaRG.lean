/- A region that draws its order, one obligation an operation: each says what it hands back in any world that extends the first one, by what is known of those that it waits for alone; then a tail in one forced order. -/
import Derived.StillTail
import Derived.Below
set_option linter.unusedVariables false
namespace Go.Proofs.Ytejmbkmjonmpcaa
open Go.RowKit

/-- How worlds may go on inside a region. -/
structure Grows (E : World → World → Prop) : Prop where
  refl : ∀ w, E w w
  trans : ∀ a b c, E a b → E b c → E a c
  draw : ∀ w : World, E w { w with drawn := w.drawn + 1 }
  size : ∀ a b, E a b → a.heap.size ≤ b.heap.size

/-- What is known of an operation's value: the heap's size before and behind it, the value, a world. -/
abbrev Sp := Nat → Nat → Value → World → Prop

/-- The value in a temporary. -/
def tmpOf (d : Option Tmp) (a : Act) : Value := match d with
  | some i => a.tmps.getD i undef
  | none => undef
def QV (d : Option Tmp) (df : List Deferred) (R : Value → World → Prop) : Exit → Act → World → Prop
  | .normal, a, w => a.defers = df ∧ R (tmpOf d a) w
  | _, _, _ => False

def putAll : List (Option Tmp) → Nat → (Nat → Value) → Act → Act
  | [], _, _, a => a
  | d :: ds, i, vs, a => putAll ds (i + 1) vs (a.put d (vs i))

def upd (vs : Nat → Value) (j : Nat) (v : Value) : Nat → Value := fun i => if i = j then v else vs i
def updN (f : Nat → Nat) (j n : Nat) : Nat → Nat := fun i => if i = j then n else f i

theorem put_put (a : Act) (d : Option Tmp) (u v : Value) : (a.put d u).put d v = a.put d v := by
  cases d with
  | none => rfl
  | some d => simp [Act.put]
theorem putAll_put {ds : List (Option Tmp)} : ∀ (k : Nat) (vs : Nat → Value) (a : Act) (d : Option Tmp) (v : Value), (∀ x, d = some x → some x ∉ ds) → (putAll ds k vs a).put d v = putAll ds k vs (a.put d v) := by
  induction ds with
  | nil => intros; rfl
  | cons e ds ih =>
    intro k vs a d v h
    rw [putAll, putAll, ih (k + 1) vs _ d v (fun x hx hm => h x hx (List.mem_cons_of_mem _ hm)), Act.put_comm]
    intro x hx he
    exact h x he (by rw [hx]; exact List.mem_cons_self)
theorem putAll_ext {ds : List (Option Tmp)} : ∀ (k : Nat) (vs us : Nat → Value) (a : Act), (∀ i, k ≤ i → i < k + ds.length → vs i = us i) → putAll ds k vs a = putAll ds k us a := by
  induction ds with
  | nil => intros; rfl
  | cons e ds ih =>
    intro k vs us a h
    rw [putAll, putAll, h k (Nat.le_refl _) (by simp), ih (k + 1) vs us _ (fun i h1 h2 => h i (by omega) (by simp; omega))]
/-- Each temporary once. -/
def onceB : List (Option Tmp) → Bool
  | [] => true
  | none :: ds => onceB ds
  | some d :: ds => !ds.contains (some d) && onceB ds
theorem putAll_upd {ds : List (Option Tmp)} : ∀ (k j : Nat) (vs : Nat → Value) (a : Act) (d : Option Tmp) (v : Value), onceB ds = true → ds[j]? = some d → (putAll ds k vs a).put d v = putAll ds k (upd vs (k + j) v) a := by
  induction ds with
  | nil => intro k j vs a d v _ h; simp at h
  | cons e ds ih =>
    intro k j vs a d v ho h
    rw [putAll, putAll]
    cases j with
    | zero =>
      simp only [List.getElem?_cons_zero, Option.some.injEq] at h
      subst h
      rw [putAll_put, put_put]
      · have e1 : upd vs (k + 0) v k = v := by simp [upd]
        rw [e1]
        refine putAll_ext _ _ _ _ fun i h1 h2 => ?_
        unfold upd
        rw [if_neg (by omega)]
      · intro x hx hm
        subst hx
        simp only [onceB, Bool.and_eq_true, Bool.not_eq_true', List.contains_eq_mem, decide_eq_false_iff_not] at ho
        exact ho.1 hm
    | succ j =>
      simp only [List.getElem?_cons_succ] at h
      have ho' : onceB ds = true := by
        cases e with
        | none => exact ho
        | some e => simp only [onceB, Bool.and_eq_true] at ho; exact ho.2
      rw [ih (k + 1) j vs _ d v ho' h, show k + 1 + j = k + (j + 1) by omega]
      have e1 : upd vs (k + (j + 1)) v k = vs k := by unfold upd; rw [if_neg (by omega)]
      rw [e1]

/-- The temporaries' own values. -/
def ownAll : List (Option Tmp) → Act → Nat → Value := fun ds a i => tmpOf (ds.getD i none) a
def inB : List (Option Tmp) → Nat → Bool
  | [], _ => true
  | none :: ds, n => inB ds n
  | some d :: ds, n => decide (d < n) && inB ds n
theorem put_own (a : Act) (d : Option Tmp) (h : ∀ x, d = some x → x < a.tmps.size) : a.put d (tmpOf d a) = a := by
  cases d with
  | none => rfl
  | some d =>
    have := h d rfl
    cases a with
    | mk t df =>
      simp only [Act.put, tmpOf] at *
      congr 1
      apply Array.ext
      · simp
      · intro i h1 h2
        by_cases e : d = i
        · subst e; simp [h2]
        · rw [Array.getElem_setIfInBounds_ne (by simpa using h2) e]
theorem putAll_own {ds : List (Option Tmp)} : ∀ (k : Nat) (vs : Nat → Value) (a : Act), inB ds a.tmps.size = true → (∀ i, i < ds.length → vs (k + i) = tmpOf (ds.getD i none) a) → putAll ds k vs a = a := by
  induction ds with
  | nil => intros; rfl
  | cons e ds ih =>
    intro k vs a hi h
    have h0 := h 0 (by simp)
    simp only [Nat.add_zero, List.getD_cons_zero] at h0
    rw [putAll, h0, put_own]
    · refine ih (k + 1) vs a ?_ fun i hl => ?_
      · cases e with
        | none => exact hi
        | some e => simp only [inB, Bool.and_eq_true] at hi; exact hi.2
      · have := h (i + 1) (by simp; omega)
        rw [show k + 1 + i = k + (i + 1) by omega, this]
        simp
    · intro x hx
      subst hx
      simp only [inB, Bool.and_eq_true, decide_eq_true_eq] at hi
      exact hi.1

theorem tmpOf_put (a : Act) (d : Option Tmp) (v : Value) (h : ∀ x, d = some x → x < a.tmps.size) (hd : d ≠ none) : tmpOf d (a.put d v) = v := by
  cases d with
  | none => exact absurd rfl hd
  | some d => simp [tmpOf, Act.put, h d rfl]
theorem putAll_size {ds : List (Option Tmp)} : ∀ (k : Nat) (vs : Nat → Value) (a : Act), (putAll ds k vs a).tmps.size = a.tmps.size := by
  induction ds with
  | nil => intros; rfl
  | cons e ds ih =>
    intro k vs a
    rw [putAll, ih]
    cases e <;> simp [Act.put]

/-- From an operation walked alone to its place in the region. -/
theorem wpOp_of_alone {P : Program} {ops : Array Oper} {Q' : Exit → Act → World → Prop} {K : Act → World → Prop} {i : Nat} {o : Oper} {a : Act} {w : World} {R : Value → World → Prop} (ho : ops[i]? = some o) (hd : o.dst ≠ none)
    (hin : ∀ x, o.dst = some x → x < a.tmps.size)
    (h : wpList P ops (QV o.dst a.defers R) [o] a w) (hK : ∀ v w', R v w' → K (a.put o.dst v) w') : wpOp P ops Q' i K a w := by
  unfold wpOp
  simp only [ho]
  unfold wpList at h
  split
  · rename_i hw
    rw [if_pos hw] at h
    rcases h with h | ⟨_, _, _, hl⟩
    · refine .inl ?_
      unfold Oper.wp at *
      generalize hr : (execOp a.eval o).run P w = r at *
      have step : ∀ v w', wpList P ops (QV o.dst a.defers R) [] (a.put o.dst v) w' → K (a.put o.dst v) w' := fun v w' hh => hK v w' (by
        have : R (tmpOf o.dst (a.put o.dst v)) w' := hh.2
        rwa [tmpOf_put a o.dst v hin hd] at this)
      cases r with
      | ok n w' =>
        cases n <;> simp only [Oper.upon] at h ⊢
        case value u => exact step u w' h
        case skip => exact step undef w' h
        case defer d =>
          have h1 : (({ a with defers := d :: a.defers } : Act).put o.dst undef).defers = a.defers := h.1
          have h2 : (({ a with defers := d :: a.defers } : Act).put o.dst undef).defers = d :: a.defers := by cases o.dst <;> rfl
          rw [h2] at h1
          exact absurd (congrArg List.length h1) (by simp)
        case enter f args =>
          refine Calls.mono h fun e w'' he => ?_
          cases e with
          | returned u => exact step u w'' he
          | panicked c => exact (he : False).elim
          | outgrown => obtain ⟨_, _, hl⟩ := he; exact (hl : False).elim
        case row row args => exact Rows.mono h fun u w'' he => step u w'' he
      | halt x w' =>
        cases x <;> simp only [Oper.upon] at h ⊢
        case panic u => exact (h : False).elim
    · exact (hl : False).elim
  · rename_i hw
    rw [if_neg hw] at h
    refine hK undef w ?_
    have : R (tmpOf o.dst (a.put o.dst undef)) w := h.2
    rwa [tmpOf_put a o.dst undef hin hd] at this

/-- The obligation of operation j of the head. -/
def Obl (P : Program) (ops : Array Oper) (E : World → World → Prop) (ds : List (Option Tmp)) (S : Nat → Sp) (a0 : Act) (w0 : World) (j : Nat) : Prop :=
  ∀ (o : Oper), ops[j]? = some o → ∀ (vs : Nat → Value) (lo hi : Nat → Nat) (W : World), E w0 W → (∀ e ∈ o.after, Region.binds .any e = true → S e.on (lo e.on) (hi e.on) (vs e.on) W) →
    wpList P ops (QV o.dst a0.defers fun v W' => E W W' ∧ S j W.heap.size W'.heap.size v W') [o] (putAll ds 0 vs a0) W

/-- Edges lead back. -/
def backB (ops : Array Oper) (n : Nat) : Bool :=
  (List.range n).all fun i => match ops[i]? with
    | some o => o.dst != none && o.after.all fun e => !Region.binds .any e || decide (e.on < i)
    | none => false

structure HeadState (E : World → World → Prop) (S : Nat → Sp) (ds : List (Option Tmp)) (n : Nat) (a0 : Act) (w0 : World) (listed : Array Bool) (a : Act) (w : World) : Prop where
  ext : E w0 w
  val : ∃ (vs : Nat → Value) (lo hi : Nat → Nat), a = putAll ds 0 vs a0 ∧ (∀ i, i < n → listed.getD i false = true → S i (lo i) (hi i) (vs i) w ∧ lo i ≤ hi i ∧ hi i ≤ w.heap.size) ∧
    ∀ i j, i < n → j < n → listed.getD i false = true → listed.getD j false = true → i ≠ j → hi i ≤ lo j ∨ hi j ≤ lo i

theorem putAll_defers {ds : List (Option Tmp)} : ∀ (k : Nat) (vs : Nat → Value) (a : Act), (putAll ds k vs a).defers = a.defers := by
  induction ds with
  | nil => intros; rfl
  | cons e ds ih =>
    intro k vs a
    rw [putAll, ih]
    cases e <;> rfl

section
variable {P : Program} {ops : Array Oper} {E : World → World → Prop} {S : Nat → Sp} {ds : List (Option Tmp)} {n g : Nat} {a0 : Act} {w0 : World} {Q' : Exit → Act → World → Prop} {tail : List Oper}

theorem getD_set_same {l : Array Bool} {i : Nat} (h : i < l.size) : (l.setIfInBounds i true).getD i false = true := by simp [h]

theorem HeadState.step (G : Grows E) (hmono : ∀ i lo hi v W W', S i lo hi v W → E W W' → S i lo hi v W') (hds : ∀ i, i < n → ds[i]? = (ops[i]?).map (·.dst)) (hon : onceB ds = true) (hin : inB ds a0.tmps.size = true) (hback : backB ops n = true)
    (hob : ∀ j, j < n → Obl P ops E ds S a0 w0 j) {listed : Array Bool} {a : Act} {w : World} (hsz : listed.size = ops.size) {j : Nat} (hjn : j < n) (hj : j ∈ Region.ready .any ops listed)
    (st : HeadState E S ds n a0 w0 listed a w) {K : Act → World → Prop} (hK : ∀ a' w', HeadState E S ds n a0 w0 (listed.setIfInBounds j true) a' w' → K a' w') : wpOp P ops Q' j K a w := by
  obtain ⟨hext, vs, lo, hi, rfl, hS, hdis⟩ := st
  obtain ⟨hun, o, ho, hall⟩ := mem_ready.1 hj
  have hun' := getD_both hun
  have hjs : j < ops.size := (Array.getElem?_eq_some_iff.1 ho).1
  have hb := List.all_eq_true.1 hback j (List.mem_range.2 hjn)
  simp only [ho, Bool.and_eq_true, bne_iff_ne, ne_eq] at hb
  obtain ⟨hd, hb⟩ := hb
  have hbe : ∀ e ∈ o.after, Region.binds .any e = true → e.on < j := fun e he hbi => by
    have := Array.all_eq_true'.1 hb e he
    simp only [hbi, Bool.not_true, Bool.false_or, decide_eq_true_eq] at this
    exact this
  have hdj : ds[j]? = some o.dst := by rw [hds j hjn, ho]; rfl
  have hob' := hob j hjn o ho vs lo hi w hext (fun e he hbi => (hS e.on (by have := hbe e he hbi; omega) (hall e he hbi)).1)
  have hinj : ∀ x, o.dst = some x → x < (putAll ds 0 vs a0).tmps.size := by
    intro x hx
    rw [putAll_size]
    have : ∀ (l : List (Option Tmp)) (i : Nat), inB l a0.tmps.size = true → l[i]? = some (some x) → x < a0.tmps.size := by
      intro l
      induction l with
      | nil => intro i _ h; simp at h
      | cons e l ih =>
        intro i hl h
        cases i with
        | zero =>
          simp only [List.getElem?_cons_zero, Option.some.injEq] at h
          subst h
          simp only [inB, Bool.and_eq_true, decide_eq_true_eq] at hl
          exact hl.1
        | succ i =>
          simp only [List.getElem?_cons_succ] at h
          refine ih i ?_ h
          cases e with
          | none => exact hl
          | some e => simp only [inB, Bool.and_eq_true] at hl; exact hl.2
    exact this ds j hin (by rw [hdj, hx])
  refine wpOp_of_alone ho hd hinj (by rw [putAll_defers]; exact hob') fun v w' hR => hK _ _ ?_
  obtain ⟨hE, hSj⟩ := hR
  have hsize := G.size _ _ hE
  refine ⟨G.trans _ _ _ hext hE, upd vs j v, updN lo j w.heap.size, updN hi j w'.heap.size, ?_, ?_, ?_⟩
  · rw [putAll_upd 0 j vs a0 o.dst v hon hdj, Nat.zero_add]
  · intro i hi1 hl
    unfold upd updN
    by_cases e : i = j
    · subst e
      simp only [if_true]
      exact ⟨hSj, hsize, Nat.le_refl _⟩
    · simp only [if_neg e]
      rw [getD_set_ne false (Ne.symm e)] at hl
      obtain ⟨h1, h2, h3⟩ := hS i hi1 hl
      exact ⟨hmono _ _ _ _ _ _ h1 hE, h2, by omega⟩
  · intro i k hi1 hk1 hl1 hl2 hne
    unfold updN
    by_cases e : i = j
    · subst e
      rw [getD_set_ne false hne] at hl2
      simp only [if_true, if_neg (Ne.symm hne)]
      right
      exact (hS k hk1 hl2).2.2
    · rw [getD_set_ne false (Ne.symm e)] at hl1
      simp only [if_neg e]
      by_cases e' : k = j
      · subst e'
        simp only [if_true]
        left
        exact (hS i hi1 hl1).2.2
      · rw [getD_set_ne false (Ne.symm e')] at hl2
        simp only [if_neg e']
        exact hdis i k hi1 hk1 hl1 hl2 hne

theorem replicate_getD_false (m j : Nat) : (Array.replicate m false).getD j true = false ∨ m ≤ j := by
  rcases Nat.lt_or_ge j m with h | h
  · left; simp [h]
  · exact .inr h

/-- How many of the head are still to come. -/
def left (n : Nat) (listed : Array Bool) : Nat := ((List.range n).filter fun i => !listed.getD i true).length
theorem left_set {n j : Nat} {listed : Array Bool} (hj : j < n) (hs : j < listed.size) (h : listed.getD j true = false) : left n listed = left n (listed.setIfInBounds j true) + 1 := by
  have key : ∀ (l : List Nat), l.Nodup → j ∈ l → (l.filter fun i => !listed.getD i true).length = (l.filter fun i => !(listed.setIfInBounds j true).getD i true).length + 1 := by
    intro l
    induction l with
    | nil => intro _ h; cases h
    | cons x l ih =>
      intro hn hm
      rw [List.nodup_cons] at hn
      by_cases e : x = j
      · subst e
        have e1 : (l.filter fun i => !listed.getD i true) = l.filter fun i => !(listed.setIfInBounds x true).getD i true := by
          refine List.filter_congr fun i hi => ?_
          rw [getD_set_ne true (fun e => hn.1 (by rw [e]; exact hi))]
        have h2 : (listed.setIfInBounds x true).getD x true = true := by simp [hs]
        rw [List.filter_cons_of_pos (by simp [h]), List.filter_cons_of_neg (by simp [h2]), e1]
        rfl
      · have hm' : j ∈ l := by
          rcases List.mem_cons.1 hm with h | h
          · exact absurd h.symm e
          · exact h
        have ih' := ih hn.2 hm'
        have h2 : (listed.setIfInBounds j true).getD x true = listed.getD x true := getD_set_ne true (Ne.symm e)
        by_cases hx : listed.getD x true = true
        · rw [List.filter_cons_of_neg (by simp [hx]), List.filter_cons_of_neg (by simp [h2, hx])]
          exact ih'
        · rw [List.filter_cons_of_pos (by simpa using hx), List.filter_cons_of_pos (by rw [h2]; simpa using hx)]
          simp only [List.length_cons]
          omega
  exact key _ List.nodup_range (List.mem_range.2 hj)

theorem wpAny_rg (G : Grows E) (hmono : ∀ i lo hi v W W', S i lo hi v W → E W W' → S i lo hi v W') (hds : ∀ i, i < n → ds[i]? = (ops[i]?).map (·.dst)) (hon : onceB ds = true) (hin : inB ds a0.tmps.size = true) (hback : backB ops n = true)
    (hs : Region.sinkB .any ops n = true) (hc : Region.chainB .any ops n = true) (hn : n < ops.size) (hseq : Region.seqB .any ops tail.length n (Array.replicate n true ++ Array.replicate (ops.size - n) false) = true)
    (htl : ∀ j, tail[j]? = ops[n + j]?) (hob : ∀ j, j < n → Obl P ops E ds S a0 w0 j)
    (hfin : ∀ (vs : Nat → Value) (lo hi : Nat → Nat) (W : World), E w0 W → (∀ i, i < n → S i (lo i) (hi i) (vs i) W) → (∀ i j, i < n → j < n → i ≠ j → hi i ≤ lo j ∨ hi j ≤ lo i) → (∀ i, i < n → lo i ≤ hi i ∧ hi i ≤ W.heap.size) → wpList P ops Q' tail (putAll ds 0 vs a0) W) :
    ∀ (f : Nat) (listed : Array Bool) (a : Act) (w : World), left n listed = f → HeadInv .any ops n listed → HeadState E S ds n a0 w0 listed a w → wpAny P .any ops Q' (f + tail.length) listed a w := by
  intro f
  induction f with
  | zero =>
    intro listed a w hf inv st
    have hall : ∀ i, i < n → listed.getD i true = true := by
      intro i hi
      have h0 : ((List.range n).filter fun i => !listed.getD i true) = [] := List.eq_nil_of_length_eq_zero hf
      have := List.filter_eq_nil_iff.1 h0 i (List.mem_range.2 hi)
      simpa using this
    have hl : listed = Array.replicate n true ++ Array.replicate (ops.size - n) false := by
      apply Array.ext
      · rw [inv.size]; simp; omega
      · intro i h1 h2
        have hi : i < ops.size := by rw [← inv.size]; exact h1
        by_cases hin : i < n
        · rw [Array.getElem_append_left (by simpa using hin)]
          have := hall i hin
          simp only [Array.getD_eq_getD_getElem?, Array.getElem?_eq_getElem h1, Option.getD_some] at this
          rw [this]; simp
        · rw [Array.getElem_append_right (by simp; omega)]
          have := inv.tail i (by omega) hi
          simp only [Array.getD_eq_getD_getElem?, Array.getElem?_eq_getElem h1, Option.getD_some] at this
          rw [this]; simp
    obtain ⟨hext, vs, lo, hi, rfl, hS, hdis⟩ := st
    have hlf : ∀ i, i < n → listed.getD i false = true := by
      intro i hi1
      have h1 := hall i hi1
      have h2 : i < listed.size := by rw [inv.size]; omega
      simp only [Array.getD_eq_getD_getElem?, Array.getElem?_eq_getElem h2, Option.getD_some] at h1 ⊢
      exact h1
    rw [Nat.zero_add]
    refine wpAny_of_seq tail n listed _ w htl (by rw [hl]; exact hseq) ?_
    exact hfin vs lo hi w hext (fun i h => (hS i h (hlf i h)).1) (fun i j h1 h2 h3 => hdis i j h1 h2 (hlf i h1) (hlf j h2) h3) (fun i h => (hS i h (hlf i h)).2)
  | succ f ih =>
    intro listed a w hf inv st
    rw [show f + 1 + tail.length = (f + tail.length) + 1 by omega]
    -- some operation of the head is still to come; the first one of them is ready
    have hex : ∃ i, i < n ∧ listed.getD i true = false := by
      have hne : ((List.range n).filter fun i => !listed.getD i true) ≠ [] := by
        intro h0
        unfold left at hf
        rw [h0] at hf
        simp at hf
      obtain ⟨i, hi⟩ := List.exists_mem_of_ne_nil _ hne
      obtain ⟨h1, h2⟩ := List.mem_filter.1 hi
      exact ⟨i, List.mem_range.1 h1, by simpa using h2⟩
    obtain ⟨i0, hi0, hu0⟩ := hex
    refine ⟨fun h0 => ?_, fun j hj => ?_⟩
    · exfalso
      have hfirst : ∀ m i, i < n → i ≤ m → listed.getD i true = false → ∃ k, k < n ∧ k ∈ Region.ready .any ops listed := by
        intro m
        induction m with
        | zero =>
          intro i hin him hu
          have h00 : i = 0 := by omega
          subst h00
          obtain ⟨o, ho⟩ : ∃ o, ops[0]? = some o := ⟨_, Array.getElem?_eq_getElem (by omega)⟩
          refine ⟨0, hin, mem_ready.2 ⟨hu, o, ho, fun e he hb => ?_⟩⟩
          have h1 := List.all_eq_true.1 hback 0 (List.mem_range.2 hin)
          simp only [ho, Bool.and_eq_true] at h1
          have h2 := Array.all_eq_true'.1 h1.2 e he
          simp [hb] at h2
        | succ m ihm =>
          intro i hin him hu
          obtain ⟨o, ho⟩ : ∃ o, ops[i]? = some o := ⟨_, Array.getElem?_eq_getElem (by omega)⟩
          by_cases hr : ∀ e ∈ o.after, Region.binds .any e = true → listed.getD e.on false = true
          · exact ⟨i, hin, mem_ready.2 ⟨hu, o, ho, hr⟩⟩
          · have hr' : ∃ e, e ∈ o.after ∧ Region.binds .any e = true ∧ listed.getD e.on false ≠ true := by
              refine Classical.byContradiction fun hno => hr fun e he hb => Classical.byContradiction fun hn => hno ⟨e, he, hb, hn⟩
            obtain ⟨e, he, hb, hne⟩ := hr'
            have h1 := List.all_eq_true.1 hback i (List.mem_range.2 hin)
            simp only [ho, Bool.and_eq_true] at h1
            have h2 := Array.all_eq_true'.1 h1.2 e he
            simp only [hb, Bool.not_true, Bool.false_or, decide_eq_true_eq] at h2
            refine ihm e.on (by omega) (by omega) (getD_in (by rw [inv.size]; omega) (by simpa using hne))
      obtain ⟨k, _, hk⟩ := hfirst i0 i0 hi0 (Nat.le_refl _) hu0
      rw [h0] at hk
      cases hk
    · have hjn : j < n := by
        rcases Nat.lt_or_ge j n with h | h
        · exact h
        · exact absurd hj (tail_waits hs hc hn inv _ i0 rfl hi0 hu0 j h)
      refine HeadState.step G hmono hds hon hin hback hob inv.size hjn hj st fun a' w' st' => ?_
      have hu := (mem_ready.1 hj).1
      have hjs : j < listed.size := by rw [inv.size]; omega
      exact ih _ a' w' (by have := left_set hjn hjs hu; omega) (inv.set hj hjn) st'

/-- The obligations of the head's operations, one by one. -/
def OblAll (P : Program) (ops : Array Oper) (E : World → World → Prop) (ds : List (Option Tmp)) (S : Nat → Sp) (a0 : Act) (w : World) : List Oper → Nat → Prop
  | [], _ => True
  | o :: l, k => (∀ (vs : Nat → Value) (lo hi : Nat → Nat) (W : World), E w W → (∀ e ∈ o.after, Region.binds .any e = true → S e.on (lo e.on) (hi e.on) (vs e.on) W) →
      wpList P ops (QV o.dst a0.defers fun v W' => E W W' ∧ S k W.heap.size W'.heap.size v W') [o] (putAll ds 0 vs a0) W) ∧ OblAll P ops E ds S a0 w l (k + 1)
theorem OblAll.get : ∀ {l : List Oper} {k : Nat} {w : World}, E w w0 → (∀ a b c, E a b → E b c → E a c) → OblAll P ops E ds S a0 w l k → (∀ i, i < l.length → l[i]? = ops[k + i]?) → ∀ i, i < l.length → Obl P ops E ds S a0 w0 (k + i)
  | [], _, _, _, _, _, _, i, hi => by simp at hi
  | o :: l, k, w, hw, ht, h, hl, 0, hi => by
    intro o' ho' vs lo hi' W hE hF
    have h0 := hl 0 hi
    simp only [List.getElem?_cons_zero, Nat.add_zero] at h0
    rw [Nat.add_zero, ← h0] at ho'
    cases ho'
    rw [Nat.add_zero]
    exact h.1 vs lo hi' W (ht _ _ _ hw hE) hF
  | o :: l, k, w, hw, ht, h, hl, i + 1, hi => by
    rw [show k + (i + 1) = k + 1 + i by omega]
    exact OblAll.get hw ht h.2 (fun i hi' => by have := hl (i + 1) (by simp; omega); rw [show k + 1 + i = k + (i + 1) by omega, ← this]; simp) i (by simpa using hi)

/-- THE RULE. -/
theorem wp_region_rg {id : Nat} {l : List Oper} {a : Act} {w : World} (n : Nat) (ds : List (Option Tmp)) (S : List Sp) (hdst : (l.take n).map (·.dst) = ds) (hm : P.follows .mixedOrders = true) (G : Grows E)
    (hmono : ∀ i lo hi v W W', (S.getD i fun _ _ _ _ => True) lo hi v W → E W W' → (S.getD i fun _ _ _ _ => True) lo hi v W')
    (hon : onceB ds = true) (hin : inB ds a.tmps.size = true) (hback : backB l.toArray n = true)
    (hB : (Region.sinkB .any l.toArray n && Region.chainB .any l.toArray n && decide (n < l.length) && Region.seqB .any l.toArray (l.drop n).length n (Array.replicate n true ++ Array.replicate (l.toArray.size - n) false)) = true)
    (hob : OblAll P l.toArray E ds (fun i => S.getD i fun _ _ _ _ => True) a w (l.take n) 0)
    (hfin : ∀ (vs : Nat → Value) (lo hi : Nat → Nat) (W : World), E w W → (∀ i, i < n → (S.getD i fun _ _ _ _ => True) (lo i) (hi i) (vs i) W) → (∀ i j, i < n → j < n → i ≠ j → hi i ≤ lo j ∨ hi j ≤ lo i) → (∀ i, i < n → lo i ≤ hi i ∧ hi i ≤ W.heap.size) →
      wpList P l.toArray Q' (l.drop n) (putAll ds 0 vs a) W) : (Code.region id l.toArray true).wp P Q' a w := by
  subst hdst
  simp only [Bool.and_eq_true, decide_eq_true_eq] at hB
  obtain ⟨⟨⟨hs, hc⟩, hn⟩, hseq⟩ := hB
  refine wp_region_any hm ?_
  have hlen : (Array.replicate l.toArray.size false).size = l.toArray.size := by simp
  have inv0 : HeadInv .any l.toArray n (Array.replicate l.toArray.size false) :=
    ⟨hlen, fun j oj _ hl => (by rw [getD_replicate_false] at hl; cases hl), fun t _ ht => getD_in (by simpa using ht) (getD_replicate_false _ _)⟩
  have hleft : left n (Array.replicate l.toArray.size false) = n := by
    unfold left
    have : ((List.range n).filter fun i => !(Array.replicate l.toArray.size false).getD i true) = List.range n := by
      refine List.filter_eq_self.2 fun i hi => ?_
      have h1 := List.mem_range.1 hi
      rcases replicate_getD_false l.toArray.size i with h | h
      · simp only [h, Bool.not_false]
      · simp at h; omega
    rw [this, List.length_range]
  have st0 : HeadState E (fun i => S.getD i fun _ _ _ _ => True) ((l.take n).map (·.dst)) n a { w with drawn := w.drawn + 1 } (Array.replicate l.toArray.size false) a { w with drawn := w.drawn + 1 } := by
    refine ⟨G.refl _, ownAll ((l.take n).map (·.dst)) a, fun _ => 0, fun _ => 0, (putAll_own 0 _ a hin (fun i _ => by rw [Nat.zero_add]; rfl)).symm, fun i _ h => ?_, fun i j _ _ h => ?_⟩
    · rw [getD_replicate_false] at h; cases h
    · rw [getD_replicate_false] at h; cases h
  have H := wpAny_rg (P := P) (ops := l.toArray) (Q' := Q') (tail := l.drop n) G hmono (fun i hi => by simp [List.getElem?_take, hi]) hon hin hback hs hc (by simpa using hn) hseq (fun j => by simp [List.getElem?_drop])
    (fun j hj => by
      have := OblAll.get (G.draw w) G.trans hob (fun i hi => by simp only [List.length_take] at hi; simp [List.getElem?_take]; omega) j (by simp; omega)
      rwa [Nat.zero_add] at this)
    (fun vs lo hi W h1 h2 h3 h4 => hfin vs lo hi W (G.trans _ _ _ (G.draw w) h1) h2 h3 h4) n _ a _ hleft inv0 st0
  rw [List.length_drop, show n + (l.length - n) = l.toArray.size by simp; omega] at H
  exact H
end

/-- An operation whose guard is met goes as without it. -/
theorem wpList_unguard {P : Program} {ops : Array Oper} {Q : Exit → Act → World → Prop} {d : Option Tmp} {op : Op} {ty : TypeId} {pos : String} {after : Array Edge} {gd : Option (Nat × Bool)} {a : Act} {w : World}
    (h : Region.wanted ⟨d, op, ty, pos, after, gd⟩ (yielded ops a.tmps) = true) (k : wpList P ops Q [⟨d, op, ty, pos, after, none⟩] a w) : wpList P ops Q [⟨d, op, ty, pos, after, gd⟩] a w := by
  unfold wpList at *
  rw [if_pos h]
  rw [if_pos (by simp [Region.wanted])] at k
  exact k
/-- All that lay stays as it lay. -/
def Ext (w w' : World) : Prop := Below w.heap.size w w'
theorem ext_grows : Grows Ext where
  refl := fun w => Below.refl _ _
  trans := fun a b c h k => Below.trans h (Below.mono k h.size)
  draw := fun w => ⟨rfl, rfl, rfl, Nat.le_refl _, fun _ _ => rfl⟩
  size := fun a b h => h.size
end Go.Proofs.Ytejmbkmjonmpcaa
