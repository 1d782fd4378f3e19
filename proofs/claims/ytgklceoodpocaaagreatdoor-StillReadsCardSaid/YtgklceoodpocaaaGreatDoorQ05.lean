/- Keys that can be put in a row: numbers, and texts as the model compares them. Lists of what has a key, by rising keys: plain laws, no program in sight. Layer 5, plain: nodes in rows, and who stands below whom. Layer 5, plain: what keeps nodes a tree, and loose ones. From the form's reading of a slice to its elements. -/
import Derived.Test.YtgklceoodpocaaaGreatDoorQ04
set_option linter.all false
namespace Go.Proofs.YtgklceoodpocaaaGreatDoor
variable {df : List Deferred}
open Go.RowKit
class Lin (κ : Type) where
 dec : DecidableEq κ
 lt : κ → κ → Bool
 irr : ∀ a, lt a a = false
 tr : ∀ {a b c}, lt a b = true → lt b c = true → lt a c = true
 tri : ∀ {a b}, lt a b = false → lt b a = false → a = b
instance linDec {κ : Type} [Lin κ] : DecidableEq κ := Lin.dec
instance linInt : Lin Int := ⟨inferInstance, fun a b => decide (a < b), fun a => by simp, fun h k => by simp at *; omega, fun h k => by simp at *; omega⟩
theorem less_irr : ∀ a : List UInt8, Op.bytesLess a a = false
 | [] => rfl
 | x :: a => by simp [Op.bytesLess, less_irr a]
theorem less_tr : ∀ {a b c : List UInt8}, Op.bytesLess a b = true → Op.bytesLess b c = true → Op.bytesLess a c = true
 | _, [], _, h, _ => by cases h' : ‹List UInt8› <;> simp [Op.bytesLess] at h
 | _, _ :: _, [], _, h => by simp [Op.bytesLess] at h
 | [], _ :: _, _ :: _, _, _ => rfl
 | x :: a, y :: b, z :: c, h, k => by
  simp only [Op.bytesLess, Bool.or_eq_true, Bool.and_eq_true, decide_eq_true_eq, beq_iff_eq] at h k ⊢
  rcases h with h | ⟨rfl, h⟩
  ·rcases k with k | ⟨rfl, _⟩
   ·exact .inl (UInt8.lt_trans h k)
   ·exact .inl h
  ·rcases k with k | ⟨rfl, k⟩
   ·exact .inl k
   ·exact .inr ⟨rfl, less_tr h k⟩
theorem less_tri : ∀ {a b : List UInt8}, Op.bytesLess a b = false → Op.bytesLess b a = false → a = b
 | [], [], _, _ => rfl
 | [], _ :: _, h, _ => by simp [Op.bytesLess] at h
 | _ :: _, [], _, h => by simp [Op.bytesLess] at h
 | x :: a, y :: b, h, k => by
  simp only [Op.bytesLess, Bool.or_eq_false_iff, Bool.and_eq_false_iff, decide_eq_false_iff_not, beq_eq_false_iff_ne] at h k
  have e : x = y := UInt8.le_antisymm (UInt8.not_lt.1 k.1) (UInt8.not_lt.1 h.1)
  subst e
  rw [less_tri (a := a) (b := b) (by simpa using h.2) (by simpa using k.2)]
theorem toList_inj {s t : ByteArray} (h : s.toList = t.toList) : s = t := by
 have := toList_beq s t
 rw [h, beq_self_eq_true] at this
 exact of_decide_eq_true this.symm
instance linStr : Lin ByteArray := ⟨inferInstance, fun a b => Op.bytesLess a.toList b.toList, fun a => less_irr _, fun h k => less_tr h k, fun h k => toList_inj (less_tri h k)⟩
def cmpS : BinOp → ByteArray → ByteArray → Option Bool
 | .lss, p, q => some (Lin.lt p q)
 | .gtr, p, q => some (Lin.lt q p)
 | .leq, p, q => some (!Lin.lt q p)
 | .geq, p, q => some (!Lin.lt p q)
 | _, _, _ => none
theorem less_eq (p q : ByteArray) : (Op.bytesLess p.toList q.toList || p.toList == q.toList) = !Lin.lt q p := by
 rw [toList_beq]
 change (Lin.lt p q || decide (p = q)) = _
 cases h : Lin.lt p q with
 | true =>
  have : Lin.lt q p = false := by
   cases h2 : Lin.lt q p with
   | false => rfl
   | true => have := Lin.tr h h2;rw [Lin.irr] at this;cases this
  rw [this];rfl
 | false =>
  cases h2 : Lin.lt q p with
  | true =>
   have : p ≠ q := fun e => by subst e;rw [Lin.irr] at h2;cases h2
   simp [this]
  | false => simp [Lin.tri h h2]
section
variable {P : Program} {a : Act} {w : World} {n : Nat} {l : List (Nat × Value)}
 {dst : Option Nat} {R : Value → World → Prop} {ty : TypeId} {pos : String} {af : Array Edge} {g : Option (Nat × Bool)}
theorem g_cmpS {x y : Operand} {t t' : TypeId} {op : BinOp} {p q : ByteArray} {b : Bool} (hk : Kn df n a l) (h : R (.bool b) w)
  (hx : ev l x = some (.string p) := by rfl) (hy : ev l y = some (.string q) := by rfl) (ho : cmpS op p q = some b := by rfl) : Gives P ⟨dst, .binOp op t x y t', ty, pos, af, g⟩ a w R := by
 have e := less_eq p q
 refine givesv (v := .bool b) ?_ h
 cases op <;> simp only [cmpS, reduceCtorEq, Option.some.injEq] at ho <;> subst ho
 ·simp [execOp, hk.eval hx, hk.eval hy, eqGuard, binOp_string_lss];rfl
 ·simp [execOp, hk.eval hx, hk.eval hy, eqGuard, binOp, Op.stringOp, e]
 ·simp [execOp, hk.eval hx, hk.eval hy, eqGuard, binOp, Op.stringOp, e]
 ·simp [execOp, hk.eval hx, hk.eval hy, eqGuard, binOp, Op.stringOp];rfl
end
end Go.Proofs.YtgklceoodpocaaaGreatDoor
namespace Go.Proofs.YtgklceoodpocaaaGreatDoor
section
variable {α κ : Type} [Lin κ] (key : α → κ)
theorem Lin.asym {a b : κ} (h : Lin.lt a b = true) : Lin.lt b a = false := by
 cases h2 : Lin.lt b a with
 | false => rfl
 | true => have := Lin.tr h h2;rw [Lin.irr] at this;cases this
theorem Lin.ne {a b : κ} (h : Lin.lt a b = true) : a ≠ b := fun e => by subst e; rw [Lin.irr] at h; cases h
theorem Lin.gt {a b : κ} (h : Lin.lt a b = false) (hn : a ≠ b) : Lin.lt b a = true := by
 cases h2 : Lin.lt b a with
 | true => rfl
 | false => exact absurd (Lin.tri h h2) hn
def cmpF (a b : κ) : Int := if Lin.lt a b = true then -1 else if Lin.lt b a = true then 1 else 0
theorem cmp_lt {a b : κ} (h : Lin.lt a b = true) : cmpF a b = -1 := if_pos h
theorem cmp_ge {a b : κ} (h : Lin.lt a b = false) : ¬ cmpF a b < 0 := by
 unfold cmpF
 rw [if_neg (by rw [h];decide)]
 split <;> decide
theorem cmp_eq {a b : κ} : cmpF a b = 0 ↔ a = b := by
 unfold cmpF
 constructor
 ·intro h
  split at h
  ·cases h
  ·split at h
   ·cases h
   ·exact Lin.tri (by simpa using ‹¬ Lin.lt a b = true›) (by simpa using ‹¬ Lin.lt b a = true›)
 ·intro h
  subst h
  rw [if_neg (by rw [Lin.irr];decide), if_neg (by rw [Lin.irr];decide)]
def putF : List α → α → List α
 | [], e => [e]
 | x :: r, e => if Lin.lt (key e) (key x) = true then e :: x :: r else if key e = key x then e :: r else x :: putF r e
def snapF (l : List α) : List α := l.foldl (putF key) []
def lastF (l : List α) (k : κ) : Option α := l.reverse.find? (fun e => decide (key e = k))
def Rises (s : List α) : Prop := s.Pairwise (fun x y => Lin.lt (key x) (key y) = true)
theorem snap_snoc (l : List α) (e : α) : snapF key (l ++ [e]) = putF key (snapF key l) e := by simp [snapF]
theorem last_snoc (l : List α) (e : α) (k : κ) : lastF key (l ++ [e]) k = if key e = k then some e else lastF key l k := by
 simp only [lastF, List.reverse_append, List.reverse_cons, List.reverse_nil, List.nil_append, List.cons_append, List.find?_cons]
 by_cases h : key e = k <;> simp [h]
theorem last_key {l : List α} {k : κ} {e : α} (h : lastF key l k = some e) : key e = k := by
 have := List.find?_some h
 simpa using this
theorem last_mem {l : List α} {k : κ} {e : α} (h : lastF key l k = some e) : e ∈ l := by
 have := List.mem_of_find?_eq_some h
 simpa using this
theorem last_of_mem {l : List α} {e : α} (h : e ∈ l) : ∃ x, lastF key l (key e) = some x := by
 have : ((l.reverse.find? (fun x => decide (key x = key e))).isSome) = true := by
  rw [List.find?_isSome]
  exact ⟨e, by simpa using h, by simp⟩
 exact Option.isSome_iff_exists.1 this
theorem last_at {l : List α} {k : κ} {i : Nat} (h : i < l.length) (hk : key l[i] = k) (hn : ∀ j (hj : j < l.length), i < j → key l[j] ≠ k) : lastF key l k = some l[i] := by
 unfold lastF
 rw [List.find?_eq_some_iff_append]
 refine ⟨by simpa using hk, (l.drop (i + 1)).reverse, (l.take i).reverse, ?_, fun a ha => ?_⟩
 ·have e : l = l.take i ++ l[i] :: l.drop (i + 1) := by rw [List.getElem_cons_drop, List.take_append_drop]
  have e2 := congrArg List.reverse e
  rw [List.reverse_append, List.reverse_cons, List.append_assoc] at e2
  exact e2
 ·have ha' : a ∈ l.drop (i + 1) := by simpa using ha
  obtain ⟨j, hj, rfl⟩ := List.getElem_of_mem ha'
  rw [List.getElem_drop]
  have := hn (i + 1 + j) (by rw [List.length_drop] at hj;omega) (by omega)
  simpa using this
theorem put_mem : ∀ {s : List α} {e x : α}, Rises key s → (x ∈ putF key s e ↔ x = e ∨ (x ∈ s ∧ key x ≠ key e))
 | [], e, x, _ => by simp [putF]
 | y :: r, e, x, h => by
  have h1 := (List.pairwise_cons.1 h).1
  have h2 := (List.pairwise_cons.1 h).2
  unfold putF
  by_cases hlt : Lin.lt (key e) (key y) = true
  ·rw [if_pos hlt]
   have hy : key y ≠ key e := fun h => Lin.ne hlt h.symm
   have hr : ∀ z ∈ r, key z ≠ key e := fun z hz h => Lin.ne (Lin.tr hlt (h1 z hz)) h.symm
   simp only [List.mem_cons]
   constructor
   ·rintro (h | h | h)
    ·exact .inl h
    ·exact .inr ⟨.inl h, by rw [h];exact hy⟩
    ·exact .inr ⟨.inr h, hr x h⟩
   ·rintro (h | ⟨h | h, _⟩)
    ·exact .inl h
    ·exact .inr (.inl h)
    ·exact .inr (.inr h)
  ·rw [if_neg hlt]
   have hf : Lin.lt (key e) (key y) = false := by simpa using hlt
   by_cases he : key e = key y
   ·rw [if_pos he]
    have hr : ∀ z ∈ r, key z ≠ key e := fun z hz h => Lin.ne (h1 z hz) (by rw [h, he])
    simp only [List.mem_cons]
    constructor
    ·rintro (h | h)
     ·exact .inl h
     ·exact .inr ⟨.inr h, hr x h⟩
    ·rintro (h | ⟨h | h, hn⟩)
     ·exact .inl h
     ·exact absurd (by rw [h, he]) hn
     ·exact .inr h
   ·rw [if_neg he]
    have ih := put_mem (e := e) (x := x) h2
    have hy : key y ≠ key e := fun h => he h.symm
    simp only [List.mem_cons, ih]
    constructor
    ·rintro (h | h | ⟨h, hn⟩)
     ·exact .inr ⟨.inl h, by rw [h];exact hy⟩
     ·exact .inl h
     ·exact .inr ⟨.inr h, hn⟩
    ·rintro (h | ⟨h | h, hn⟩)
     ·exact .inr (.inl h)
     ·exact .inl h
     ·exact .inr (.inr ⟨h, hn⟩)
theorem put_rises : ∀ {s : List α} {e : α}, Rises key s → Rises key (putF key s e)
 | [], e, _ => by simp [putF, Rises]
 | y :: r, e, h => by
  have h1 := (List.pairwise_cons.1 h).1
  have h2 := (List.pairwise_cons.1 h).2
  unfold putF
  by_cases hlt : Lin.lt (key e) (key y) = true
  ·rw [if_pos hlt]
   exact List.pairwise_cons.2 ⟨fun z hz => by
    rcases List.mem_cons.1 hz with h | h
    ·rw [h];exact hlt
    ·exact Lin.tr hlt (h1 z h), h⟩
  ·rw [if_neg hlt]
   have hf : Lin.lt (key e) (key y) = false := by simpa using hlt
   by_cases he : key e = key y
   ·rw [if_pos he]
    exact List.pairwise_cons.2 ⟨fun z hz => by rw [he];exact h1 z hz, h2⟩
   ·rw [if_neg he]
    refine List.pairwise_cons.2 ⟨fun z hz => ?_, put_rises h2⟩
    rcases (put_mem key h2).1 hz with h | ⟨h, _⟩
    ·rw [h];exact Lin.gt hf he
    ·exact h1 z h
theorem snap_rises (l : List α) : Rises key (snapF key l) := by
 have : ∀ (l s : List α), Rises key s → Rises key (l.foldl (putF key) s) := by
  intro l
  induction l with
  | nil => exact fun _ h => h
  | cons x l ih => exact fun s h => ih _ (put_rises key h)
 exact this l [] List.Pairwise.nil
theorem snap_last {l : List α} : ∀ {x : α}, x ∈ snapF key l ↔ lastF key l (key x) = some x := by
 have : ∀ (r : List α) (x : α), x ∈ snapF key r.reverse ↔ lastF key r.reverse (key x) = some x := by
  intro r
  induction r with
  | nil => intro x;simp [snapF, lastF]
  | cons e r ih =>
   intro x
   rw [List.reverse_cons, snap_snoc, last_snoc, put_mem key (snap_rises key _)]
   by_cases h : key e = key x
   ·rw [if_pos h]
    constructor
    ·rintro (h1 | ⟨_, h2⟩)
     ·rw [h1]
     ·exact absurd h.symm h2
    ·intro h1;injection h1 with h1;exact .inl h1.symm
   ·rw [if_neg h, ← ih]
    constructor
    ·rintro (h1 | ⟨h1, _⟩)
     ·exact absurd (by rw [h1]) h
     ·exact h1
    ·exact fun h1 => .inr ⟨h1, fun h2 => h h2.symm⟩
 have h := this l.reverse
 simpa using h
theorem rises_ext : ∀ {s t : List α}, Rises key s → Rises key t → (∀ x, x ∈ s ↔ x ∈ t) → s = t
 | [], [], _, _, _ => rfl
 | [], y :: t, _, _, h => absurd ((h y).2 (by simp)) (by simp)
 | x :: s, [], _, _, h => absurd ((h x).1 (by simp)) (by simp)
 | x :: s, y :: t, hs, ht, h => by
  have s1 := (List.pairwise_cons.1 hs).1
  have t1 := (List.pairwise_cons.1 ht).1
  have e : x = y := by
   rcases List.mem_cons.1 ((h x).1 (by simp)) with e | hx
   ·exact e
   ·rcases List.mem_cons.1 ((h y).2 (by simp)) with e | hy
    ·exact e.symm
    ·have := Lin.tr (t1 x hx) (s1 y hy)
     rw [Lin.irr] at this;cases this
  subst e
  congr 1
  refine rises_ext (List.pairwise_cons.1 hs).2 (List.pairwise_cons.1 ht).2 (fun z => ?_)
  constructor
  ·intro hz
   rcases List.mem_cons.1 ((h z).1 (List.mem_cons_of_mem _ hz)) with e | h'
   ·subst e;have := s1 z hz;rw [Lin.irr] at this;cases this
   ·exact h'
  ·intro hz
   rcases List.mem_cons.1 ((h z).2 (List.mem_cons_of_mem _ hz)) with e | h'
   ·subst e;have := t1 z hz;rw [Lin.irr] at this;cases this
   ·exact h'
theorem rises_key {s : List α} (h : Rises key s) {x y : α} (hx : x ∈ s) (hy : y ∈ s) (e : key x = key y) : x = y := by
 induction s with
 | nil => cases hx
 | cons z r ih =>
  have h1 := (List.pairwise_cons.1 h).1
  rcases List.mem_cons.1 hx with hx | hx <;> rcases List.mem_cons.1 hy with hy | hy
  ·rw [hx, hy]
  ·rw [hx] at e;exact absurd e (Lin.ne (h1 y hy))
  ·rw [hy] at e;exact absurd e.symm (Lin.ne (h1 x hx))
  ·exact ih (List.pairwise_cons.1 h).2 hx hy
theorem rises_last {s : List α} (h : Rises key s) {x : α} (hx : x ∈ s) : lastF key s (key x) = some x := by
 obtain ⟨y, hy⟩ := last_of_mem key hx
 rw [hy, rises_key key h (last_mem key hy) hx (last_key key hy)]
theorem last_none {l : List α} {k : κ} (h : ∀ x ∈ l, key x ≠ k) : lastF key l k = none := by
 unfold lastF
 rw [List.find?_eq_none]
 intro x hx
 simpa using h x (by simpa using hx)
theorem snap_last_eq (l : List α) (k : κ) : lastF key (snapF key l) k = lastF key l k := by
 cases h : lastF key l k with
 | some x =>
  have hk := last_key key h
  subst hk
  exact rises_last key (snap_rises key l) ((snap_last key).2 h)
 | none =>
  refine last_none key (fun x hx e => ?_)
  subst e
  rw [(snap_last key).1 hx] at h
  cases h
theorem snap_of_rises {s : List α} (h : Rises key s) : snapF key s = s := by
 refine rises_ext key (snap_rises key s) h (fun x => ?_)
 rw [snap_last]
 constructor
 ·exact fun h' => last_mem key h'
 ·exact fun h' => rises_last key h h'
theorem put_len (s : List α) (e : α) : (putF key s e).length ≤ s.length + 1 := by
 induction s with
 | nil => simp [putF]
 | cons x r ih =>
  unfold putF
  split
  ·simp
  ·split
   ·simp
   ·simpa using ih
theorem snap_len (l : List α) : (snapF key l).length ≤ l.length := by
 have : ∀ (l s : List α), (l.foldl (putF key) s).length ≤ s.length + l.length := by
  intro l
  induction l with
  | nil => intro s;simp
  | cons x l ih =>
   intro s
   have h1 := ih (putF key s x)
   have h2 := put_len key s x
   rw [List.foldl_cons, List.length_cons]
   omega
 have h := this l []
 rw [List.length_nil, Nat.zero_add] at h
 exact h
def Found (s : List α) (k : κ) (n : Nat) (f : Bool) : Prop :=
 n ≤ s.length ∧ (∀ i (h : i < s.length), i < n → Lin.lt (key s[i]) k = true) ∧ (∀ i (h : i < s.length), n ≤ i → Lin.lt (key s[i]) k = false) ∧ (f = true ↔ ∃ h : n < s.length, key s[n] = k)
theorem found_set : ∀ {s : List α} {e : α} {n : Nat}, Found key s (key e) n true → n < s.length ∧ s.set n e = putF key s e
 | [], e, n, ⟨_, _, _, h⟩ => by obtain ⟨h, _⟩ := h.1 rfl;simp at h
 | x :: r, e, 0, ⟨_, _, h3, h⟩ => by
  obtain ⟨_, h⟩ := h.1 rfl
  refine ⟨by simp, ?_⟩
  simp only [List.getElem_cons_zero] at h
  unfold putF
  rw [if_neg (by rw [h, Lin.irr];decide), if_pos h.symm]
  rfl
 | x :: r, e, n + 1, ⟨h1, h2, h3, h⟩ => by
  have hx := h2 0 (by simp) (by omega)
  simp only [List.getElem_cons_zero] at hx
  obtain ⟨h4, h5⟩ := h.1 rfl
  obtain ⟨g1, g2⟩ := found_set (s := r) (e := e) (n := n) ⟨by simpa using h1, fun i hi hin => by have := h2 (i + 1) (by simpa using hi) (by omega);simpa using this,
   fun i hi hin => by have := h3 (i + 1) (by simpa using hi) (by omega);simpa using this, by simpa using ⟨by simpa using h4, h5⟩⟩
  refine ⟨by simpa using g1, ?_⟩
  unfold putF
  rw [if_neg (by rw [Lin.asym hx];decide), if_neg (fun h => Lin.ne hx h.symm), List.set_cons_succ, g2]
theorem found_ins : ∀ {s : List α} {e : α} {n : Nat}, Found key s (key e) n false → n ≤ s.length ∧ s.take n ++ e :: s.drop n = putF key s e
 | [], e, n, ⟨h, _⟩ => by
  have : n = 0 := by simpa using h
  subst this
  exact ⟨by simp, by simp [putF]⟩
 | x :: r, e, 0, ⟨_, _, h3, h⟩ => by
  refine ⟨by simp, ?_⟩
  have h4 := h3 0 (by simp) (by omega)
  simp only [List.getElem_cons_zero] at h4
  have h5 : key x ≠ key e := fun h6 => by
   have := h.2 ⟨by simp, h6⟩
   cases this
  unfold putF
  rw [if_pos (Lin.gt h4 h5)]
  simp
 | x :: r, e, n + 1, ⟨h1, h2, h3, h⟩ => by
  have hx := h2 0 (by simp) (by omega)
  simp only [List.getElem_cons_zero] at hx
  obtain ⟨g1, g2⟩ := found_ins (s := r) (e := e) (n := n) ⟨by simpa using h1, fun i hi hin => by have := h2 (i + 1) (by simpa using hi) (by omega);simpa using this,
   fun i hi hin => by have := h3 (i + 1) (by simpa using hi) (by omega);simpa using this, by
    constructor
    ·intro h;cases h
    ·rintro ⟨h4, h5⟩
     exact h.2 ⟨by simpa using h4, by simpa using h5⟩⟩
  refine ⟨by simpa using g1, ?_⟩
  unfold putF
  rw [if_neg (by rw [Lin.asym hx];decide), if_neg (fun h => Lin.ne hx h.symm), ← g2]
  simp
theorem found_last {s : List α} {k : κ} {n : Nat} {f : Bool} (hr : Rises key s) (h : Found key s k n f) : lastF key s k = if f = true then s[n]? else none := by
 obtain ⟨h1, h2, h3, h4⟩ := h
 cases f with
 | true =>
  obtain ⟨h5, h6⟩ := h4.1 rfl
  rw [if_pos rfl, List.getElem?_eq_getElem h5, ← h6]
  exact rises_last key hr (List.getElem_mem h5)
 | false =>
  rw [if_neg (by decide)]
  refine last_none key (fun x hx e => ?_)
  obtain ⟨i, hi, rfl⟩ := List.getElem_of_mem hx
  have hn : n ≤ i := by
   rcases Nat.lt_or_ge i n with h | h
   ·have := h2 i hi h;rw [e, Lin.irr] at this;cases this
   ·exact h
  rcases Nat.lt_or_eq_of_le hn with h | h
  ·have hlt := (List.pairwise_iff_getElem.1 hr) n i (by omega) hi h
   rw [e] at hlt
   have := h3 n (by omega) (Nat.le_refl _)
   rw [hlt] at this;cases this
  ·subst h
   have := h4.2 ⟨hi, e⟩
   cases this
def aheadB (after : Option κ) (k : κ) : Bool := match after with | none => true | some a => Lin.lt a k
def minStep (after m : Option κ) (k : κ) : Option κ :=
 if aheadB after k = true then (match m with | none => some k | some b => if Lin.lt k b = true then some k else some b) else m
def minF (l : List α) (after : Option κ) : Option κ := l.foldl (fun m e => minStep after m (key e)) none
theorem min_snoc (l : List α) (e : α) (after : Option κ) : minF key (l ++ [e]) after = minStep after (minF key l after) (key e) := by simp [minF]
theorem min_is (l : List α) (after : Option κ) : match minF key l after with
  | none => ∀ e ∈ l, aheadB after (key e) = false
  | some b => aheadB after b = true ∧ (∃ e ∈ l, key e = b) ∧ ∀ e ∈ l, aheadB after (key e) = true → Lin.lt (key e) b = false := by
 have : ∀ r : List α, match minF key r.reverse after with
  | none => ∀ e ∈ r, aheadB after (key e) = false
  | some b => aheadB after b = true ∧ (∃ e ∈ r, key e = b) ∧ ∀ e ∈ r, aheadB after (key e) = true → Lin.lt (key e) b = false := by
  intro r
  induction r with
  | nil => simp [minF]
  | cons e r ih =>
   rw [List.reverse_cons, min_snoc]
   unfold minStep
   cases hm : minF key r.reverse after with
   | none =>
    rw [hm] at ih
    simp only at ih ⊢
    by_cases ha : aheadB after (key e) = true
    ·rw [if_pos ha]
     refine ⟨ha, ⟨e, by simp, rfl⟩, fun x hx hax => ?_⟩
     rcases List.mem_cons.1 hx with h | h
     ·rw [h, Lin.irr]
     ·rw [ih x h] at hax;cases hax
    ·rw [if_neg ha]
     intro x hx
     rcases List.mem_cons.1 hx with h | h
     ·rw [h];simpa using ha
     ·exact ih x h
   | some b =>
    rw [hm] at ih
    simp only at ih ⊢
    obtain ⟨h1, ⟨y, h2, h3⟩, h4⟩ := ih
    by_cases ha : aheadB after (key e) = true
    ·rw [if_pos ha]
     by_cases hlt : Lin.lt (key e) b = true
     ·rw [if_pos hlt]
      refine ⟨ha, ⟨e, by simp, rfl⟩, fun x hx hax => ?_⟩
      rcases List.mem_cons.1 hx with h | h
      ·rw [h, Lin.irr]
      ·cases h5 : Lin.lt (key x) (key e) with
       | false => rfl
       | true => have := h4 x h hax;rw [Lin.tr h5 hlt] at this;cases this
     ·rw [if_neg hlt]
      refine ⟨h1, ⟨y, by simp [h2], h3⟩, fun x hx hax => ?_⟩
      rcases List.mem_cons.1 hx with h | h
      ·rw [h];simpa using hlt
      ·exact h4 x h hax
    ·rw [if_neg ha]
     refine ⟨h1, ⟨y, by simp [h2], h3⟩, fun x hx hax => ?_⟩
     rcases List.mem_cons.1 hx with h | h
     ·rw [h] at hax;exact absurd hax ha
     ·exact h4 x h hax
 have h := this l.reverse
 simpa using h
theorem min_next (l : List α) (k : Nat) (hk : k ≤ (snapF key l).length) : minF key l (((snapF key l).take k).getLast?.map key) = ((snapF key l)[k]?).map key := by
 have hr := snap_rises key l
 have hp := List.pairwise_iff_getElem.1 hr
 have hin : ∀ e ∈ l, ∃ i, ∃ h : i < (snapF key l).length, key (snapF key l)[i] = key e := by
  intro e he
  obtain ⟨x, hx⟩ := last_of_mem key he
  have hkx := last_key key hx
  have hm : x ∈ snapF key l := (snap_last key).2 (by rw [hkx];exact hx)
  obtain ⟨i, hi, hix⟩ := List.getElem_of_mem hm
  exact ⟨i, hi, by rw [hix, hkx]⟩
 have hout : ∀ i (h : i < (snapF key l).length), (snapF key l)[i] ∈ l := fun i h => last_mem key ((snap_last key).1 (List.getElem_mem h))
 generalize snapF key l = S at *
 have ha : ∀ i (h : i < S.length), aheadB ((S.take k).getLast?.map key) (key S[i]) = decide (k ≤ i) := by
  intro i hi
  by_cases h0 : k = 0
  ·subst h0;simp [aheadB]
  ·have e1 : (S.take k).getLast? = some (S[k - 1]'(by omega)) := by
    rw [List.getLast?_eq_getElem?, List.length_take, Nat.min_eq_left hk, List.getElem?_take, if_pos (by omega), List.getElem?_eq_getElem (by omega)]
   rw [e1]
   simp only [Option.map_some, aheadB]
   by_cases hik : k ≤ i
   ·rw [hp (k - 1) i (by omega) hi (by omega)];simp [hik]
   ·rw [decide_eq_false hik]
    by_cases he : i = k - 1
    ·subst he;exact Lin.irr _
    ·exact Lin.asym (hp i (k - 1) hi (by omega) (by omega))
 have hm := min_is key l ((S.take k).getLast?.map key)
 cases hmin : minF key l ((S.take k).getLast?.map key) with
 | none =>
  rw [hmin] at hm
  simp only at hm
  have : S.length ≤ k := by
   rcases Nat.lt_or_ge k S.length with h | h
   ·have h1 := hm _ (hout k h)
    rw [ha k h] at h1
    simp at h1
   ·exact h
  rw [List.getElem?_eq_none this]
  rfl
 | some b =>
  rw [hmin] at hm
  simp only at hm
  obtain ⟨h1, ⟨e, h2, h3⟩, h4⟩ := hm
  obtain ⟨i, hi, hie⟩ := hin e h2
  have hki : k ≤ i := by
   have := ha i hi
   rw [hie, h3, h1] at this
   simpa using this.symm
  have hkl : k < S.length := by omega
  have h5 := h4 _ (hout k hkl) (by rw [ha k hkl];simp)
  rw [List.getElem?_eq_getElem hkl, Option.map_some]
  congr 1
  rcases Nat.lt_or_eq_of_le hki with h | h
  ·have := hp k i hkl hi h
   rw [hie, h3, h5] at this
   cases this
  ·subst h;rw [hie, h3]
def minStepE (after : Option κ) (m : Option α) (e : α) : Option α :=
 if aheadB after (key e) = true then (match m with | none => some e | some b => if Lin.lt (key b) (key e) = true then some b else some e) else m
def minE (l : List α) (after : Option κ) : Option α := l.foldl (minStepE key after) none
theorem minE_snoc (l : List α) (e : α) (after : Option κ) : minE key (l ++ [e]) after = minStepE key after (minE key l after) e := by simp [minE]
theorem minE_is (l : List α) (after : Option κ) : minE key l after = (minF key l after).bind (lastF key l) := by
 have : ∀ r : List α, minE key r.reverse after = (minF key r.reverse after).bind (lastF key r.reverse) := by
  intro r
  induction r with
  | nil => rfl
  | cons e r ih =>
   rw [List.reverse_cons, minE_snoc, min_snoc, ih]
   have hm := min_is key r.reverse after
   unfold minStepE minStep
   cases hmf : minF key r.reverse after with
   | none =>
    rw [hmf] at hm
    by_cases ha : aheadB after (key e) = true
    ·rw [if_pos ha, if_pos ha]
     simp [last_snoc]
    ·rw [if_neg ha, if_neg ha]
     rfl
   | some b =>
    rw [hmf] at hm
    simp only at hm
    obtain ⟨h1, ⟨y, h2, h3⟩, h4⟩ := hm
    obtain ⟨x, hx⟩ := last_of_mem key h2
    rw [h3] at hx
    have hkx := last_key key hx
    simp only [Option.bind_some, hx, hkx]
    by_cases ha : aheadB after (key e) = true
    ·rw [if_pos ha, if_pos ha]
     by_cases hlt : Lin.lt (key e) b = true
     ·rw [if_pos hlt, if_neg (by rw [Lin.asym hlt];decide)]
      simp [last_snoc]
     ·rw [if_neg hlt]
      have hf : Lin.lt (key e) b = false := by simpa using hlt
      by_cases he : key e = b
      ·rw [if_neg (by rw [he, Lin.irr];decide)]
       simp [last_snoc, he]
      ·rw [if_pos (Lin.gt hf he)]
       simp [last_snoc, he, hx]
    ·rw [if_neg ha, if_neg ha]
     have he : key e ≠ b := fun h => ha (by rw [h];exact h1)
     simp [last_snoc, he, hx]
 have h := this l.reverse
 simpa using h
theorem minE_next (l : List α) (k : Nat) (hk : k ≤ (snapF key l).length) : minE key l (((snapF key l).take k).getLast?.map key) = (snapF key l)[k]? := by
 rw [minE_is, min_next key l k hk]
 cases h : (snapF key l)[k]? with
 | none => rfl
 | some x =>
  simp only [Option.map_some, Option.bind_some]
  exact (snap_last key).1 (List.mem_of_getElem? h)
theorem snap_app {s : List α} (hs : Rises key s) (e : α) : snapF key (s ++ [e]) = putF key s e := by rw [snap_snoc, snap_of_rises key hs]
theorem filter_rises {s : List α} (hs : Rises key s) (p : α → Bool) : Rises key (s.filter p) := List.Pairwise.filter p hs
end
end Go.Proofs.YtgklceoodpocaaaGreatDoor
namespace Go.Proofs.YtgklceoodpocaaaGreatDoor
structure NodeP where
 id : Int
 kind : Int
 tag : ByteArray
 text : ByteArray
 cls : List ByteArray
 att : List (ByteArray × ByteArray)
 sty : List (ByteArray × Int)
 par : Int
 kids : List Int
def fnP : List NodeP → Int → Option NodeP
 | [], _ => none
 | n :: l, id => if n.id = id then some n else fnP l id
def putP (l : List NodeP) (n : NodeP) : List NodeP := l.map (fun x => if x.id = n.id then n else x)
theorem fnd_id {l : List NodeP} {id : Int} {n : NodeP} (h : fnP l id = some n) : n.id = id := by
 induction l with
 | nil => cases h
 | cons x l ih =>
  unfold fnP at h
  split at h
  ·rename_i hx;cases h;exact hx
  ·exact ih h
theorem fnd_mem {l : List NodeP} {id : Int} {n : NodeP} (h : fnP l id = some n) : n ∈ l := by
 induction l with
 | nil => cases h
 | cons x l ih =>
  unfold fnP at h
  split at h
  ·cases h;exact List.mem_cons_self
  ·exact List.mem_cons_of_mem _ (ih h)
theorem fnd_of_mem {l : List NodeP} (hu : (l.map (·.id)).Nodup) {n : NodeP} (h : n ∈ l) : fnP l n.id = some n := by
 induction l with
 | nil => cases h
 | cons x l ih =>
  simp only [List.map_cons, List.nodup_cons] at hu
  unfold fnP
  rcases List.mem_cons.1 h with rfl | h
  ·rw [if_pos rfl]
  ·rw [if_neg (fun e => hu.1 (by rw [e];exact List.mem_map_of_mem h))]
   exact ih hu.2 h
theorem fnd_put (l : List NodeP) (n : NodeP) (id : Int) : fnP (putP l n) id = if id = n.id then (if (fnP l id).isSome then some n else none) else fnP l id := by
 induction l with
 | nil => simp [putP, fnP]
 | cons x l ih =>
  have ih : fnP (putP l n) id = _ := ih
  show fnP ((if x.id = n.id then n else x) :: putP l n) id = _
  by_cases hx : x.id = n.id
  ·rw [if_pos hx]
   unfold fnP
   by_cases hi : n.id = id
   ·rw [if_pos hi, if_pos hi.symm, if_pos (hx.trans hi)];rfl
   ·rw [if_neg hi, if_neg (fun e => hi (hx.symm.trans e)), ih]
  ·rw [if_neg hx]
   unfold fnP
   by_cases hi : x.id = id
   ·rw [if_pos hi, if_pos hi, if_neg (fun e => hx (hi.trans e))]
   ·rw [if_neg hi, if_neg hi, ih]
theorem fnd_put_some {l : List NodeP} {n m : NodeP} (h : fnP l n.id = some m) (id : Int) : fnP (putP l n) id = if id = n.id then some n else fnP l id := by
 rw [fnd_put]
 by_cases hi : id = n.id
 ·subst hi;rw [if_pos rfl, if_pos rfl, h];rfl
 ·rw [if_neg hi, if_neg hi]
theorem put_len0 (l : List NodeP) (n : NodeP) : (putP l n).length = l.length := List.length_map _
theorem put_ids (l : List NodeP) (n : NodeP) : (putP l n).map (·.id) = l.map (·.id) := by
 unfold putP
 rw [List.map_map]
 apply List.map_congr_left
 intro x _
 simp only [Function.comp]
 split
 ·rename_i h;exact h.symm
 ·rfl
theorem put_mem0 {l : List NodeP} {n x : NodeP} (h : x ∈ putP l n) : x = n ∨ x ∈ l := by
 obtain ⟨y, hy, rfl⟩ := List.mem_map.1 h
 split
 ·exact .inl rfl
 ·exact .inr hy
theorem fnd_app (l : List NodeP) (n : NodeP) (id : Int) : fnP (l ++ [n]) id = match fnP l id with
  | some x => some x
  | none => if n.id = id then some n else none := by
 induction l with
 | nil => simp [fnP]
 | cons x l ih =>
  rw [List.cons_append]
  unfold fnP
  split
  ·rfl
  ·exact ih
theorem fnd_filter (l : List NodeP) (p : Int → Bool) (id : Int) : fnP (l.filter (fun x => p x.id)) id = if p id = true then fnP l id else none := by
 induction l with
 | nil => simp [fnP]
 | cons x l ih =>
  by_cases hp : p x.id = true
  ·rw [List.filter_cons, if_pos hp]
   unfold fnP
   by_cases hi : x.id = id
   ·rw [if_pos hi, if_pos hi, ← hi, if_pos hp]
   ·rw [if_neg hi, if_neg hi, ih]
  ·rw [List.filter_cons, if_neg hp, ih]
   by_cases hi : x.id = id
   ·rw [← hi, if_neg hp, if_neg hp]
   ·conv => rhs;unfold fnP
    rw [if_neg hi]
abbrev Nds := Int → Option NodeP
def kidOf (f : Nds) (a b : Int) : Prop := ∃ n, f b = some n ∧ a ∈ n.kids
def parOf (f : Nds) (a b : Int) : Prop := ∃ n, f b = some n ∧ n.par = a
structure Wf (next : Int) (f : Nds) : Prop where
 nx : 1 ≤ next
 idn : ∀ id n, f id = some n → n.id = id ∧ 0 ≤ id ∧ id < next
 root : ∃ n, f 0 = some n ∧ n.kind = 2 ∧ n.par = -1
 knd : ∀ id n, f id = some n → n.kind = 1 ∨ n.kind = 2
 down : ∀ id n, f id = some n → ∀ k ∈ n.kids, ∃ c, f k = some c ∧ c.par = id
 up : ∀ id n, f id = some n → n.par = -1 ∨ ∃ p, f n.par = some p ∧ id ∈ p.kids
 nod : ∀ id n, f id = some n → n.kids.Nodup
 accD : ∀ id, _root_.Acc (kidOf f) id
 accU : ∀ id, _root_.Acc (parOf f) id
theorem Wf.neg {next : Int} {f : Nds} (h : Wf next f) {id : Int} (hi : id < 0) : f id = none := by
 cases hf : f id with
 | none => rfl
 | some n => have := h.idn id n hf;omega
theorem Wf.big {next : Int} {f : Nds} (h : Wf next f) {id : Int} (hi : next ≤ id) : f id = none := by
 cases hf : f id with
 | none => rfl
 | some n => have := h.idn id n hf;omega
theorem Wf.par {next : Int} {f : Nds} (h : Wf next f) {id : Int} {n : NodeP} (hn : f id = some n) : (n.par = -1 ∧ f n.par = none) ∨ (0 ≤ n.par ∧ ∃ p, f n.par = some p ∧ id ∈ p.kids) := by
 rcases h.up id n hn with h1 | ⟨p, h1, h2⟩
 ·exact .inl ⟨h1, h.neg (by omega)⟩
 ·exact .inr ⟨(h.idn _ _ h1).2.1, p, h1, h2⟩
inductive Win (f : Nds) (b : Int) : Int → Prop
 | refl {n : NodeP} (h : f b = some n) : Win f b b
 | step {a : Int} {n : NodeP} (h : f a = some n) (hp : Win f b n.par) : Win f b a
theorem Win.has {f : Nds} {b a : Int} (h : Win f b a) : ∃ n, f a = some n := by cases h with | refl h => exact ⟨_, h⟩ | step h _ => exact ⟨_, h⟩
theorem Win.top {f : Nds} {b a : Int} (h : Win f b a) : ∃ n, f b = some n := by
 induction h with
 | refl h => exact ⟨_, h⟩
 | step _ _ ih => exact ih
theorem Win.trans {f : Nds} {a b c : Int} (h : Win f b a) (k : Win f c b) : Win f c a := by
 induction h with
 | refl _ => exact k
 | step h1 _ ih => exact .step h1 ih
theorem win_iff {f : Nds} {a b : Int} {n : NodeP} (h : f a = some n) : Win f b a ↔ a = b ∨ Win f b n.par := by
 constructor
 ·intro hw
  cases hw with
  | refl _ => exact .inl rfl
  | step h1 h2 => rw [h] at h1;cases h1;exact .inr h2
 ·rintro (rfl | hw)
  ·exact .refl h
  ·exact .step h hw
theorem win_none {f : Nds} {a b : Int} (h : f a = none) : ¬ Win f b a := fun hw => by obtain ⟨n, hn⟩ := hw.has; rw [h] at hn; cases hn
section
open Classical
noncomputable def foldW {β : Type} (g : NodeP → List β → β) (z : β) (f : Nds) (hw : WellFounded (kidOf f)) : Int → β :=
 hw.fix (fun id F => match hf : f id with
  | none => z
  | some n => g n (n.kids.attach.map (fun k => F k.1 ⟨n, hf, k.2⟩)))
noncomputable def foldD {β : Type} (g : NodeP → List β → β) (z : β) (f : Nds) : Int → β := if hw : WellFounded (kidOf f) then foldW g z f hw else fun _ => z
theorem fold_some {β : Type} {g : NodeP → List β → β} {z : β} {f : Nds} (hw : ∀ id, _root_.Acc (kidOf f) id) {id : Int} {n : NodeP} (h : f id = some n) : foldD g z f id = g n (n.kids.map (foldD g z f)) := by
 have hw' : WellFounded (kidOf f) := ⟨hw⟩
 unfold foldD
 rw [dif_pos hw']
 have e : foldW g z f hw' id = g n (n.kids.attach.map (fun k => foldW g z f hw' k.1)) := by
  conv => lhs;unfold foldW
  rw [WellFounded.fix_eq]
  split
  ·rename_i h1;rw [h] at h1;cases h1
  ·rename_i m h1
   have : m = n := by rw [h] at h1;cases h1;rfl
   subst this
   rfl
 rw [e]
 congr 1
 rw [List.attach_map_val (l := n.kids) (f := foldW g z f hw')]
theorem fold_none {β : Type} {g : NodeP → List β → β} {z : β} {f : Nds} {id : Int} (h : f id = none) : foldD g z f id = z := by
 unfold foldD
 split
 ·rename_i hw
  unfold foldW
  rw [WellFounded.fix_eq]
  split
  ·rfl
  ·rename_i h1;rw [h] at h1;cases h1
 ·rfl
end
noncomputable def preN (f : Nds) : Int → List Int := foldD (fun n r => n.id :: r.flatten) [] f
theorem pre_some {f : Nds} (hw : ∀ id, _root_.Acc (kidOf f) id) {id : Int} {n : NodeP} (h : f id = some n) : preN f id = n.id :: (n.kids.map (preN f)).flatten := fold_some hw h
theorem pre_none {f : Nds} {id : Int} (h : f id = none) : preN f id = [] := fold_none h
theorem pre_iff {f : Nds} (hw : ∀ id, _root_.Acc (kidOf f) id) {id : Int} {n : NodeP} (h : f id = some n) (x : Int) : x ∈ preN f id ↔ x = n.id ∨ ∃ k ∈ n.kids, x ∈ preN f k := by
 rw [pre_some hw h]
 simp only [List.mem_cons, List.mem_flatten, List.mem_map]
 constructor
 ·rintro (h | ⟨l, ⟨k, hk, rfl⟩, hx⟩)
  ·exact .inl h
  ·exact .inr ⟨k, hk, hx⟩
 ·rintro (h | ⟨k, hk, hx⟩)
  ·exact .inl h
  ·exact .inr ⟨_, ⟨k, hk, rfl⟩, hx⟩
theorem pre_kid {f : Nds} (hw : ∀ id, _root_.Acc (kidOf f) id) (hi : ∀ id n, f id = some n → n.id = id) {b : Int} : ∀ {a : Int}, a ∈ preN f b → ∀ {n : NodeP}, f a = some n → ∀ {k : Int}, k ∈ n.kids → (∃ c, f k = some c) → k ∈ preN f b := by
 induction hw b with
 | intro b _ ih =>
  intro a ha n hn k hk hc
  cases hb : f b with
  | none => rw [pre_none hb] at ha;cases ha
  | some m =>
   rw [pre_iff hw hb] at ha ⊢
   rcases ha with rfl | ⟨j, hj, ha⟩
   ·rw [hi b m hb, hb] at hn
    cases hn
    obtain ⟨c, hc⟩ := hc
    exact .inr ⟨k, hk, (pre_iff hw hc k).2 (.inl (hi k c hc).symm)⟩
   ·exact .inr ⟨j, hj, ih j ⟨m, hb, hj⟩ ha hn hk hc⟩
theorem pre_self {f : Nds} (hw : ∀ id, _root_.Acc (kidOf f) id) (hi : ∀ id n, f id = some n → n.id = id) {b : Int} {n : NodeP} (h : f b = some n) : b ∈ preN f b := (pre_iff hw h b).2 (.inl (hi b n h).symm)
theorem pre_win {next : Int} {f : Nds} (h : Wf next f) {b : Int} : ∀ {a : Int}, a ∈ preN f b → Win f b a := by
 induction h.accD b with
 | intro b _ ih =>
  intro a ha
  cases hb : f b with
  | none => rw [pre_none hb] at ha;cases ha
  | some m =>
   rw [pre_iff h.accD hb] at ha
   rcases ha with rfl | ⟨j, hj, ha⟩
   ·rw [(h.idn b m hb).1];exact .refl hb
   ·obtain ⟨c, hc, hp⟩ := h.down b m hb j hj
    exact (ih j ⟨m, hb, hj⟩ ha).trans (.step hc (by rw [hp];exact .refl hb))
theorem win_pre {next : Int} {f : Nds} (h : Wf next f) {b a : Int} (hw : Win f b a) : a ∈ preN f b := by
 induction hw with
 | refl hb => exact pre_self h.accD (fun id n hn => (h.idn id n hn).1) hb
 | step ha hp ih =>
  rename_i a n
  rcases h.par ha with ⟨-, h1⟩ | ⟨-, p, h1, h2⟩
  ·exact absurd hp (win_none h1)
  ·exact pre_kid h.accD (fun id n hn => (h.idn id n hn).1) ih h1 h2 ⟨n, ha⟩
noncomputable def depU (f : Nds) (hw : WellFounded (parOf f)) : Int → Nat :=
 hw.fix (fun id F => match hf : f id with
  | none => 0
  | some n => F n.par ⟨n, hf, rfl⟩ + 1)
theorem depU_some {f : Nds} (hw : WellFounded (parOf f)) {id : Int} {n : NodeP} (h : f id = some n) : depU f hw id = depU f hw n.par + 1 := by
 conv => lhs;unfold depU
 rw [WellFounded.fix_eq]
 split
 ·rename_i h1;rw [h] at h1;cases h1
 ·rename_i m h1
  have : m = n := by rw [h] at h1;cases h1;rfl
  subst this
  rfl
theorem acc_mono {α : Type} {r s : α → α → Prop} (h : ∀ a b, r a b → s a b) {x : α} (hx : _root_.Acc s x) : _root_.Acc r x := by
 induction hx with
 | intro x _ ih => exact .intro x fun y hy => ih y (h y x hy)
end Go.Proofs.YtgklceoodpocaaaGreatDoor
namespace Go.Proofs.YtgklceoodpocaaaGreatDoor
variable {next : Int} {f f' : Nds}
abbrev shN (n : NodeP) : Int × Int × Int × List Int := (n.id, n.kind, n.par, n.kids)
theorem shN_some (h : ∀ i, (f' i).map shN = (f i).map shN) {i : Int} {m : NodeP} (hm : f' i = some m) : ∃ n, f i = some n ∧ n.id = m.id ∧ n.kind = m.kind ∧ n.par = m.par ∧ n.kids = m.kids := by
 have := h i
 rw [hm] at this
 cases hf : f i with
 | none => rw [hf] at this;cases this
 | some n =>
  rw [hf] at this
  simp only [Option.map_some, Option.some.injEq, Prod.mk.injEq] at this
  exact ⟨n, rfl, this.1.symm, this.2.1.symm, this.2.2.1.symm, this.2.2.2.symm⟩
theorem Wf.same (h : Wf next f) (hf : ∀ i, (f' i).map shN = (f i).map shN) : Wf next f' where
 nx := h.nx
 idn i m hm := by
  obtain ⟨n, hn, e, -⟩ := shN_some hf hm
  have := h.idn i n hn
  omega
 root := by
  obtain ⟨n, hn, h1, h2⟩ := h.root
  obtain ⟨m, hm, -, e1, e2, -⟩ := shN_some (fun i => (hf i).symm) hn
  exact ⟨m, hm, by omega, by omega⟩
 knd i m hm := by
  obtain ⟨n, hn, -, e, -⟩ := shN_some hf hm
  have := h.knd i n hn
  omega
 down i m hm k hk := by
  obtain ⟨n, hn, -, -, -, e⟩ := shN_some hf hm
  obtain ⟨c, hc, hp⟩ := h.down i n hn k (by rw [e];exact hk)
  obtain ⟨d, hd, -, -, e2, -⟩ := shN_some (fun i => (hf i).symm) hc
  exact ⟨d, hd, by omega⟩
 up i m hm := by
  obtain ⟨n, hn, -, -, e, -⟩ := shN_some hf hm
  rcases h.up i n hn with h1 | ⟨p, h1, h2⟩
  ·exact .inl (by omega)
  ·obtain ⟨q, hq, -, -, -, e2⟩ := shN_some (fun i => (hf i).symm) h1
   exact .inr ⟨q, by rw [← e];exact hq, by rw [e2];exact h2⟩
 nod i m hm := by
  obtain ⟨n, hn, -, -, -, e⟩ := shN_some hf hm
  rw [← e];exact h.nod i n hn
 accD i := acc_mono (fun a b ⟨m, hm, ha⟩ => by
  obtain ⟨n, hn, -, -, -, e⟩ := shN_some hf hm
  exact ⟨n, hn, by rw [e];exact ha⟩) (h.accD i)
 accU i := acc_mono (fun a b ⟨m, hm, ha⟩ => by
  obtain ⟨n, hn, -, -, e, -⟩ := shN_some hf hm
  exact ⟨n, hn, by omega⟩) (h.accU i)
theorem Wf.add (h : Wf next f) {n : NodeP} (h1 : n.id = next) (h2 : n.kids = []) (h3 : n.par = -1) (h4 : n.kind = 1 ∨ n.kind = 2) (hf : ∀ i, f' i = if i = next then some n else f i) : Wf (next + 1) f' := by
 have hnx := h.nx
 have hold : ∀ {i m}, f i = some m → f' i = some m := fun {i m} hm => by
  rw [hf, if_neg (fun e => by have := h.idn i m hm;omega)];exact hm
 have hcase : ∀ {i m}, f' i = some m → (i = next ∧ m = n) ∨ f i = some m := fun {i m} hm => by
  rw [hf] at hm
  split at hm
  ·cases hm;rename_i e;exact .inl ⟨e, rfl⟩
  ·exact .inr hm
 have hneg : f' (-1) = none := by rw [hf, if_neg (by omega)];exact h.neg (by omega)
 refine ⟨by omega, fun i m hm => ?_, ?_, fun i m hm => ?_, fun i m hm k hk => ?_, fun i m hm => ?_, fun i m hm => ?_, fun i => ?_, fun i => ?_⟩
 ·rcases hcase hm with ⟨rfl, rfl⟩ | hm
  ·omega
  ·have := h.idn i m hm;omega
 ·obtain ⟨r, hr, k1, k2⟩ := h.root
  exact ⟨r, hold hr, k1, k2⟩
 ·rcases hcase hm with ⟨rfl, rfl⟩ | hm
  ·exact h4
  ·exact h.knd i m hm
 ·rcases hcase hm with ⟨rfl, rfl⟩ | hm
  ·rw [h2] at hk;cases hk
  ·obtain ⟨c, hc, hp⟩ := h.down i m hm k hk
   exact ⟨c, hold hc, hp⟩
 ·rcases hcase hm with ⟨rfl, rfl⟩ | hm
  ·exact .inl h3
  ·rcases h.up i m hm with k1 | ⟨p, k1, k2⟩
   ·exact .inl k1
   ·exact .inr ⟨p, hold k1, k2⟩
 ·rcases hcase hm with ⟨rfl, rfl⟩ | hm
  ·rw [h2];exact List.nodup_nil
  ·exact h.nod i m hm
 ·refine acc_mono (fun a b ⟨m, hm, ha⟩ => ?_) (h.accD i)
  rcases hcase hm with ⟨rfl, rfl⟩ | hm
  ·rw [h2] at ha;cases ha
  ·exact ⟨m, hm, ha⟩
 ·have hn1 : _root_.Acc (parOf f') (-1) := .intro _ fun y ⟨m, hm, _⟩ => by rw [hneg] at hm;cases hm
  have hold' : ∀ x, x ≠ next → _root_.Acc (parOf f') x := fun x => by
   induction h.accU x with
   | intro x _ ih =>
    intro hx
    refine .intro x fun y ⟨m, hm, hp⟩ => ?_
    rcases hcase hm with ⟨rfl, rfl⟩ | hm
    ·exact absurd rfl hx
    ·by_cases hy : y = next
     ·rcases h.up x m hm with k1 | ⟨p, k1, k2⟩
      ·omega
      ·have := h.idn _ _ k1;omega
     ·exact ih y ⟨m, hm, hp⟩ hy
  by_cases hi : i = next
  ·refine .intro i fun y ⟨m, hm, hp⟩ => ?_
   rcases hcase hm with ⟨-, rfl⟩ | hm
   ·rw [h3] at hp;rw [← hp];exact hn1
   ·have := h.idn _ _ hm;omega
  ·exact hold' i hi
theorem Wf.kids (h : Wf next f) {p : NodeP} {pid : Int} {ks : List Int} (hp : f pid = some p) (hks : ∀ x, x ∈ ks ↔ x ∈ p.kids) (hnd : ks.Nodup) (hf : ∀ i, f' i = if i = pid then some { p with kids := ks } else f i) : Wf next f' := by
 have hcase : ∀ {i m}, f' i = some m → ∃ n, f i = some n ∧ n.id = m.id ∧ n.kind = m.kind ∧ n.par = m.par ∧ (∀ x, x ∈ m.kids ↔ x ∈ n.kids) ∧ m.kids.Nodup := fun {i m} hm => by
  rw [hf] at hm
  split at hm
  ·rename_i e;cases hm;subst e;exact ⟨p, hp, rfl, rfl, rfl, hks, hnd⟩
  ·exact ⟨m, hm, rfl, rfl, rfl, fun _ => Iff.rfl, h.nod _ _ hm⟩
 have hback : ∀ {i n}, f i = some n → ∃ m, f' i = some m ∧ n.id = m.id ∧ n.kind = m.kind ∧ n.par = m.par ∧ (∀ x, x ∈ m.kids ↔ x ∈ n.kids) := fun {i n} hn => by
  rw [hf]
  by_cases e : i = pid
  ·subst e;rw [hp] at hn;cases hn;rw [if_pos rfl];exact ⟨_, rfl, rfl, rfl, rfl, hks⟩
  ·rw [if_neg e];exact ⟨n, hn, rfl, rfl, rfl, fun _ => Iff.rfl⟩
 refine ⟨h.nx, fun i m hm => ?_, ?_, fun i m hm => ?_, fun i m hm k hk => ?_, fun i m hm => ?_, fun i m hm => ?_, fun i => ?_, fun i => ?_⟩
 ·obtain ⟨n, hn, e, -⟩ := hcase hm
  have := h.idn i n hn
  omega
 ·obtain ⟨r, hr, k1, k2⟩ := h.root
  obtain ⟨m, hm, -, e1, e2, -⟩ := hback hr
  exact ⟨m, hm, by omega, by omega⟩
 ·obtain ⟨n, hn, -, e, -⟩ := hcase hm
  have := h.knd i n hn
  omega
 ·obtain ⟨n, hn, -, -, -, e, -⟩ := hcase hm
  obtain ⟨c, hc, hp⟩ := h.down i n hn k ((e k).1 hk)
  obtain ⟨d, hd, -, -, e2, -⟩ := hback hc
  exact ⟨d, hd, by omega⟩
 ·obtain ⟨n, hn, -, -, e, -⟩ := hcase hm
  rcases h.up i n hn with h1 | ⟨q, h1, h2⟩
  ·exact .inl (by omega)
  ·obtain ⟨r, hr, -, -, -, e2⟩ := hback h1
   exact .inr ⟨r, by rw [← e];exact hr, (e2 i).2 h2⟩
 ·obtain ⟨n, hn, -, -, -, -, e⟩ := hcase hm
  exact e
 ·refine acc_mono (fun a b ⟨m, hm, ha⟩ => ?_) (h.accD i)
  obtain ⟨n, hn, -, -, -, e, -⟩ := hcase hm
  exact ⟨n, hn, (e a).1 ha⟩
 ·refine acc_mono (fun a b ⟨m, hm, ha⟩ => ?_) (h.accU i)
  obtain ⟨n, hn, -, -, e, -⟩ := hcase hm
  exact ⟨n, hn, by omega⟩
theorem Wf.ins (h : Wf next f) {p n : NodeP} {pid id : Int} {ks : List Int} (hp : f pid = some p) (hn : f id = some n) (h0 : id ≠ 0) (hl : n.par = -1) (hw : ¬ Win f id pid)
  (hks : ∀ x, x ∈ ks ↔ x = id ∨ x ∈ p.kids) (hnd : ks.Nodup) (hf : ∀ i, f' i = if i = id then some { n with par := pid } else if i = pid then some { p with kids := ks } else f i) : Wf next f' := by
 have hne : pid ≠ id := fun e => hw (by rw [e];exact .refl hn)
 have hp0 := h.idn pid p hp
 have hn0 := h.idn id n hn
 have fid : f' id = some { n with par := pid } := by rw [hf, if_pos rfl]
 have fpid : f' pid = some { p with kids := ks } := by rw [hf, if_neg hne, if_pos rfl]
 have fo : ∀ {i}, i ≠ id → i ≠ pid → f' i = f i := fun {i} h1 h2 => by rw [hf, if_neg h1, if_neg h2]
 -- what becomes of a node
 have hcase : ∀ {i m}, f' i = some m → ∃ m0, f i = some m0 ∧ m0.id = m.id ∧ m0.kind = m.kind ∧ (i ≠ id → m0.par = m.par) ∧ (i ≠ pid → m0.kids = m.kids) := fun {i m} hm => by
  by_cases h1 : i = id
  ·subst h1;rw [fid] at hm;cases hm;exact ⟨n, hn, rfl, rfl, fun e => absurd rfl e, fun _ => rfl⟩
  ·by_cases h2 : i = pid
   ·subst h2;rw [fpid] at hm;cases hm;exact ⟨p, hp, rfl, rfl, fun _ => rfl, fun e => absurd rfl e⟩
   ·rw [fo h1 h2] at hm;exact ⟨m, hm, rfl, rfl, fun _ => rfl, fun _ => rfl⟩
 have hback : ∀ {i m0}, f i = some m0 → ∃ m, f' i = some m ∧ (i ≠ id → m.par = m0.par) ∧ (∀ x ∈ m0.kids, x ∈ m.kids) ∧ m0.kind = m.kind := fun {i m0} hm => by
  by_cases h1 : i = id
  ·subst h1;rw [hn] at hm;cases hm;exact ⟨_, fid, fun e => absurd rfl e, fun _ h => h, rfl⟩
  ·by_cases h2 : i = pid
   ·subst h2;rw [hp] at hm;cases hm;exact ⟨_, fpid, fun _ => rfl, fun x hx => (hks x).2 (.inr hx), rfl⟩
   ·exact ⟨m0, by rw [fo h1 h2];exact hm, fun _ => rfl, fun _ h => h, rfl⟩
 have hpar : ∀ {i m0 k}, f i = some m0 → k ∈ m0.kids → k ≠ id := fun {i m0 k} hm hk e => by
  obtain ⟨c, hc, hp⟩ := h.down i m0 hm k hk
  subst e
  rw [hn] at hc
  cases hc
  have := h.idn i m0 hm
  omega
 refine ⟨h.nx, fun i m hm => ?_, ?_, fun i m hm => ?_, fun i m hm k hk => ?_, fun i m hm => ?_, fun i m hm => ?_, ?_, ?_⟩
 ·obtain ⟨m0, k1, k2, -⟩ := hcase hm
  have := h.idn i m0 k1
  omega
 ·obtain ⟨r, hr, k1, k2⟩ := h.root
  obtain ⟨m, hm, e, -, e2⟩ := hback hr
  have := e (Ne.symm h0)
  exact ⟨m, hm, by omega, by omega⟩
 ·obtain ⟨m0, k1, -, k2, -⟩ := hcase hm
  have := h.knd i m0 k1
  omega
 ·by_cases hi : i = pid
  ·subst hi
   rw [fpid] at hm
   cases hm
   rcases (hks k).1 hk with rfl | hk
   ·exact ⟨_, fid, rfl⟩
   ·obtain ⟨c, hc, e⟩ := h.down i p hp k hk
    obtain ⟨m, hm, e2, -⟩ := hback hc
    exact ⟨m, hm, by rw [e2 (hpar hp hk)];exact e⟩
  ·obtain ⟨m0, k1, -, -, -, k2⟩ := hcase hm
   rw [← k2 hi] at hk
   obtain ⟨c, hc, e⟩ := h.down i m0 k1 k hk
   obtain ⟨m, hm, e2, -⟩ := hback hc
   exact ⟨m, hm, by rw [e2 (hpar k1 hk)];exact e⟩
 ·by_cases hi : i = id
  ·subst hi
   rw [fid] at hm
   cases hm
   exact .inr ⟨_, fpid, (hks i).2 (.inl rfl)⟩
  ·obtain ⟨m0, k1, -, -, k2, -⟩ := hcase hm
   rw [← k2 hi]
   rcases h.up i m0 k1 with h1 | ⟨q, h1, h2⟩
   ·exact .inl h1
   ·obtain ⟨r, hr, -, e, -⟩ := hback h1
    exact .inr ⟨r, hr, e _ h2⟩
 ·by_cases hi : i = pid
  ·subst hi;rw [fpid] at hm;cases hm;exact hnd
  ·obtain ⟨m0, k1, -, -, -, k2⟩ := hcase hm
   rw [← k2 hi];exact h.nod i m0 k1
 ·have h1 : ∀ x, ¬ Win f x pid → _root_.Acc (kidOf f') x := fun x => by
   induction h.accD x with
   | intro x _ ih =>
    intro hx
    refine .intro x fun y ⟨m, hm, hy⟩ => ?_
    have hxp : x ≠ pid := fun e => hx (by rw [e];exact .refl hp)
    obtain ⟨m0, k1, -, -, -, k2⟩ := hcase hm
    rw [← k2 hxp] at hy
    refine ih y ⟨m0, k1, hy⟩ fun hyp => hx ?_
    obtain ⟨c, hc, e⟩ := h.down x m0 k1 y hy
    exact hyp.trans (.step hc (by rw [e];exact .refl k1))
  intro i
  induction h.accD i with
  | intro x _ ih =>
   refine .intro x fun y ⟨m, hm, hy⟩ => ?_
   by_cases hx : x = pid
   ·subst hx
    rw [fpid] at hm
    cases hm
    rcases (hks y).1 hy with rfl | hy
    ·exact h1 _ hw
    ·exact ih y ⟨p, hp, hy⟩
   ·obtain ⟨m0, k1, -, -, -, k2⟩ := hcase hm
    rw [← k2 hx] at hy
    exact ih y ⟨m0, k1, hy⟩
 ·have h1 : ∀ x, ¬ Win f id x → _root_.Acc (parOf f') x := fun x => by
   induction h.accU x with
   | intro x _ ih =>
    intro hx
    refine .intro x fun y ⟨m, hm, hy⟩ => ?_
    have hxp : x ≠ id := fun e => hx (by rw [e];exact .refl hn)
    obtain ⟨m0, k1, -, -, k2, -⟩ := hcase hm
    rw [← k2 hxp] at hy
    refine ih y ⟨m0, k1, hy⟩ fun hyp => hx (.step k1 (by rw [hy];exact hyp))
  intro i
  induction h.accU i with
  | intro x _ ih =>
   refine .intro x fun y ⟨m, hm, hy⟩ => ?_
   by_cases hx : x = id
   ·subst hx
    rw [fid] at hm
    cases hm
    simp only at hy
    subst hy
    exact h1 _ hw
   ·obtain ⟨m0, k1, -, -, k2, -⟩ := hcase hm
    rw [← k2 hx] at hy
    exact ih y ⟨m0, k1, hy⟩
def cutK (id : Int) (n : NodeP) : NodeP := { n with kids := n.kids.filter (fun x => decide (x ≠ id)) }
def cutN (f : Nds) (id : Int) : Nds := fun i => (f i).map (cutK id)
theorem cutN_some {id i : Int} {m : NodeP} (h : cutN f id i = some m) : ∃ n, f i = some n ∧ m = cutK id n := by
 unfold cutN at h
 cases hf : f i with
 | none => rw [hf] at h;cases h
 | some n => rw [hf] at h;cases h;exact ⟨n, rfl, rfl⟩
theorem cutN_of {id i : Int} {n : NodeP} (h : f i = some n) : cutN f id i = some (cutK id n) := by unfold cutN; rw [h]; rfl
theorem cut_mem {id x : Int} {n : NodeP} : x ∈ (cutK id n).kids ↔ x ∈ n.kids ∧ x ≠ id := by simp [cutK]
theorem cut_acc (h : Wf next f) (id : Int) : ∀ i, _root_.Acc (kidOf (cutN f id)) i := fun i => acc_mono (fun a b ⟨m, hm, ha⟩ => by
 obtain ⟨n, hn, rfl⟩ := cutN_some hm
 exact ⟨n, hn, (cut_mem.1 ha).1⟩) (h.accD i)
theorem pre_from {f : Nds} (hw : ∀ id, _root_.Acc (kidOf f) id) (hi : ∀ id n, f id = some n → n.id = id) {b : Int} : ∀ {a : Int}, a ∈ preN f b → a = b ∨ ∃ y ∈ preN f b, kidOf f a y := by
 induction hw b with
 | intro b _ ih =>
  intro a ha
  cases hb : f b with
  | none => rw [pre_none hb] at ha;cases ha
  | some m =>
   have h2 := (pre_iff hw hb a).1 ha
   rcases h2 with rfl | ⟨j, hj, h3⟩
   ·exact .inl (hi b m hb)
   ·right
    rcases ih j ⟨m, hb, hj⟩ h3 with rfl | ⟨y, hy, hk⟩
    ·exact ⟨b, pre_self hw hi hb, m, hb, hj⟩
    ·exact ⟨y, (pre_iff hw hb y).2 (.inr ⟨j, hj, hy⟩), hk⟩
theorem Wf.rem (h : Wf next f) {id : Int} (h0 : id ≠ 0) (hf : ∀ i, f' i = if i ∈ preN (cutN f id) id then none else cutN f id i) : Wf next f' := by
 have hA := cut_acc h id
 have hI : ∀ i m, cutN f id i = some m → m.id = i := fun i m hm => by
  obtain ⟨n, hn, rfl⟩ := cutN_some hm
  exact (h.idn i n hn).1
 have hcase : ∀ {i m}, f' i = some m → ¬ i ∈ preN (cutN f id) id ∧ ∃ n, f i = some n ∧ m = cutK id n := fun {i m} hm => by
  rw [hf] at hm
  split at hm
  ·cases hm
  ·rename_i hi;exact ⟨hi, cutN_some hm⟩
 have hback : ∀ {i n}, f i = some n → ¬ i ∈ preN (cutN f id) id → f' i = some (cutK id n) := fun {i n} hn hi => by
  rw [hf, if_neg hi];exact cutN_of hn
 have hid : ∀ {i n}, f i = some n → ¬ i ∈ preN (cutN f id) id → i ≠ id := fun {i n} hn hi e => hi (by subst e;exact pre_self hA hI (cutN_of hn))
 refine ⟨h.nx, fun i m hm => ?_, ?_, fun i m hm => ?_, fun i m hm k hk => ?_, fun i m hm => ?_, fun i m hm => ?_, fun i => ?_, fun i => ?_⟩
 ·obtain ⟨-, n, hn, rfl⟩ := hcase hm
  exact h.idn i n hn
 ·obtain ⟨r, hr, k1, k2⟩ := h.root
  refine ⟨_, hback hr fun hg => ?_, k1, k2⟩
  rcases pre_from hA hI hg with e | ⟨y, -, m, hm, hk⟩
  ·exact h0 e.symm
  ·obtain ⟨n, hn, rfl⟩ := cutN_some hm
   obtain ⟨c, hc, hp⟩ := h.down y n hn 0 (cut_mem.1 hk).1
   rw [hr] at hc
   cases hc
   have := h.idn y n hn
   omega
 ·obtain ⟨-, n, hn, rfl⟩ := hcase hm
  exact h.knd i n hn
 ·obtain ⟨hi, n, hn, rfl⟩ := hcase hm
  obtain ⟨h1, h2⟩ := cut_mem.1 hk
  obtain ⟨c, hc, hp⟩ := h.down i n hn k h1
  refine ⟨_, hback hc fun hg => ?_, hp⟩
  rcases pre_from hA hI hg with e | ⟨y, hy, m, hm, hk⟩
  ·exact h2 e
  ·obtain ⟨n', hn', rfl⟩ := cutN_some hm
   obtain ⟨c', hc', hp'⟩ := h.down y n' hn' k (cut_mem.1 hk).1
   rw [hc] at hc'
   cases hc'
   exact hi (by rw [← hp, hp'];exact hy)
 ·obtain ⟨hi, n, hn, rfl⟩ := hcase hm
  rcases h.up i n hn with h1 | ⟨p, h1, h2⟩
  ·exact .inl h1
  ·refine .inr ⟨_, hback h1 fun hg => hi ?_, cut_mem.2 ⟨h2, hid hn hi⟩⟩
   exact pre_kid hA hI hg (cutN_of h1) (cut_mem.2 ⟨h2, hid hn hi⟩) ⟨_, cutN_of hn⟩
 ·obtain ⟨-, n, hn, rfl⟩ := hcase hm
  exact (h.nod i n hn).filter _
 ·exact acc_mono (fun a b ⟨m, hm, ha⟩ => by
   obtain ⟨-, n, hn, rfl⟩ := hcase hm
   exact ⟨n, hn, (cut_mem.1 ha).1⟩) (h.accD i)
 ·exact acc_mono (fun a b ⟨m, hm, ha⟩ => by
   obtain ⟨-, n, hn, rfl⟩ := hcase hm
   exact ⟨n, hn, ha⟩) (h.accU i)
theorem Wf.cut1 (h : Wf next f) {p n : NodeP} {id : Int} (hn : f id = some n) (hp : f n.par = some p) (hf : ∀ i, f' i = if i = n.par then some (cutK id p) else f i) : ∀ i, f' i = cutN f id i := by
 intro i
 rw [hf]
 by_cases e : i = n.par
 ·subst e;rw [if_pos rfl, cutN_of hp]
 ·rw [if_neg e]
  cases hi : f i with
  | none => unfold cutN;rw [hi];rfl
  | some m =>
   rw [cutN_of hi]
   have : cutK id m = m := by
    have : m.kids.filter (fun x => decide (x ≠ id)) = m.kids := List.filter_eq_self.2 fun x hx => by
     refine decide_eq_true fun ex => e ?_
     subst ex
     obtain ⟨c, hc, hcp⟩ := h.down i m hi x hx
     rw [hn] at hc;cases hc;exact hcp.symm
    unfold cutK;rw [this]
   rw [this]
theorem Wf.cut0 (h : Wf next f) {n : NodeP} {id : Int} (hn : f id = some n) (hp : f n.par = none) : ∀ i, f i = cutN f id i := by
 intro i
 cases hi : f i with
 | none => unfold cutN;rw [hi];rfl
 | some m =>
  rw [cutN_of hi]
  have : cutK id m = m := by
   have : m.kids.filter (fun x => decide (x ≠ id)) = m.kids := List.filter_eq_self.2 fun x hx => by
    refine decide_eq_true fun ex => ?_
    subst ex
    obtain ⟨c, hc, hcp⟩ := h.down i m hi x hx
    rw [hn] at hc;cases hc
    rw [hcp, hi] at hp;cases hp
   unfold cutK;rw [this]
  rw [this]
end Go.Proofs.YtgklceoodpocaaaGreatDoor
namespace Go.Proofs.YtgklceoodpocaaaGreatDoor
open Go.RowKit
section
variable {α : Type} [Enc α]
theorem enc_at : ∀ (xs : List α) (j : Nat) (u : Value), (enc xs)[j]? = some u → ∃ i r x, j = i * (Enc.k α + 1) + r ∧ r < Enc.k α + 1 ∧ xs[i]? = some x ∧ (Enc.f x)[r]? = some u
 | [], j, u, h => by simp [enc] at h
 | x :: xs, j, u, h => by
  rw [enc_cons] at h
  by_cases hj : j < Enc.k α + 1
  ·rw [List.getElem?_append_left (by rw [Enc.len];exact hj)] at h
   exact ⟨0, j, x, by simp, hj, rfl, h⟩
  ·rw [List.getElem?_append_right (by rw [Enc.len];omega), Enc.len] at h
   obtain ⟨i, r, y, h1, h2, h3, h4⟩ := enc_at xs _ u h
   exact ⟨i + 1, r, y, by rw [Nat.add_mul];omega, h2, h3, h4⟩
theorem choose_list {β : Type} {p : Nat → β → Prop} : ∀ n, (∀ i, i < n → ∃ x, p i x) → ∃ xs : List β, xs.length = n ∧ ∀ i x, xs[i]? = some x → p i x
 | 0, _ => ⟨[], rfl, fun i x h => by simp at h⟩
 | n + 1, h => by
  obtain ⟨xs, h1, h2⟩ := choose_list n (fun i hi => h i (by omega))
  obtain ⟨x, hx⟩ := h n (by omega)
  refine ⟨xs ++ [x], by simp [h1], fun i y hy => ?_⟩
  by_cases hi : i < xs.length
  ·rw [List.getElem?_append_left hi] at hy;exact h2 i y hy
  ·rw [List.getElem?_append_right (by omega)] at hy
   have : i - xs.length = 0 := by
    rcases Nat.eq_zero_or_pos (i - xs.length) with h | h
    ·exact h
    ·rw [List.getElem?_eq_none (by simp;omega)] at hy;cases hy
   rw [this] at hy
   simp at hy
   subst hy
   have : i = n := by omega
   subst this
   exact hx
theorem SlT.of_rdg (Q : α → Prop) {P : Program} {W : World} {D : Nat} {T e : TypeId} {cs : List Value} (h : Rdg P W (D + 1) T cs) (hT : elOf P T = some e) (hk : szOf P e = some (Enc.k α + 1))
  (hel : ∀ us, us.length = Enc.k α + 1 → Rdg P W D e us → ∃ x : α, Enc.f x = us ∧ Q x) : ∃ v, ∃ xs : List α, cs = [v] ∧ SlT xs v W ∧ ∀ x ∈ xs, Q x := by
 unfold Rdg at h
 rw [elOf_und hT] at h
 obtain ⟨v, hcs, h⟩ := h
 refine ⟨v, ?_⟩
 rcases h with rfl | ⟨a, len, cap, rfl, hlc, hcap, hget⟩
 ·exact ⟨[], hcs, SlT.nil W, fun x hx => by cases hx⟩
 ·rw [cellsOf_sz hk] at hget
  obtain ⟨xs, hxl, hxs⟩ := choose_list (β := α) (p := fun i x => (∀ j u, (Enc.f x)[j]? = some u → W.cell? ((a.add (i * (Enc.k α + 1))).add j) = some u) ∧ Q x) len (fun i hi => by
   obtain ⟨us, h1, h2, h3⟩ := hget i hi
   obtain ⟨x, hx, hq⟩ := hel us h1 h3
   exact ⟨x, by rw [hx];exact h2, hq⟩)
  refine ⟨xs, hcs, ⟨by rw [enc_len], by rw [hxl];omega, .inr ⟨a, cap, by rw [hxl], by rw [hxl];exact hlc, hcap, fun j u hj => ?_⟩⟩, fun x hx => ?_⟩
  ·obtain ⟨i, r, x, rfl, hr, hi, hu⟩ := enc_at xs j u hj
   have hc := (hxs i x hi).1 r u hu
   have hsp : a.spot = none := by
    have h0 : 0 < xs.length := by have := lt_of_get hi;omega
    have hx0 : xs[0]? = some xs[0] := List.getElem?_eq_getElem h0
    have hf : ∃ u0, (Enc.f xs[0])[0]? = some u0 := ⟨_, List.getElem?_eq_getElem (by rw [Enc.len];omega)⟩
    obtain ⟨u0, hu0⟩ := hf
    have := (hxs 0 _ hx0).1 0 u0 hu0
    rw [Nat.zero_mul] at this
    simp only [Addr.add, if_true] at this
    exact World.cell?_spot this
   refine ⟨hsp, ?_⟩
   obtain ⟨b, o, sp⟩ := a
   simp only at hsp
   subst hsp
   rw [addr_add, addr_add] at hc
   rw [Nat.add_assoc] at hc
   exact hc
  ·obtain ⟨i, hi⟩ := List.getElem?_of_mem hx
   exact (hxs i x hi).2
end
theorem rdg_int {P : Program} {W : World} {D : Nat} {T : TypeId} {us : List Value} {k : IntKind} (hT : P.underlying T = some (.int k)) (h : Rdg P W (D + 1) T us) : ∃ n, us = [.int k n] ∧ k.min ≤ n ∧ n ≤ k.max := by
 unfold Rdg at h;rw [hT] at h;exact h
end Go.Proofs.YtgklceoodpocaaaGreatDoor
