/- Lists of what has a key, by rising keys: plain laws, no program in sight. Layer 5, plain: nodes in rows, and who stands below whom. Layer 5, plain: what keeps nodes a tree, and loose ones. From the form's reading of a slice to its elements. Steps that part the cases themselves; elements by their places; one round of a loop. What the library's own contracts write, in these texts' words. -/
import Derived.Test.YtnjmonkehjlaoaaGreatDoorG04
import Derived.Tactics
import Derived.Laws.IdiomCopy
import Derived.Deep.Draws
set_option linter.all false
namespace Go.Proofs.YtnjmonkehjlaoaaGreatDoor
section
variable {α κ : Type} [Lin κ] (key : α → κ)
theorem Lin.asym {a b : κ} (h : Lin.lt a b = true) : Lin.lt b a = false := by
 cases h2 : Lin.lt b a with
 | false => rfl
 | true => have := Lin.tr h h2;rw [Lin.irr] at this;cases this
theorem Lin.ne {a b : κ} (h : Lin.lt a b = true) : a ≠ b := fun e => by subst e; rw [Lin.irr] at h; cases h
theorem Lin.gt {a b : κ} (h : Lin.lt a b = false) (hn : a ≠ b) : Lin.lt b a = true := by
 cases h2 : Lin.lt b a with
 | true => rfl
 | false => exact absurd (Lin.tri h h2) hn
def cmpF (a b : κ) : Int := if Lin.lt a b = true then -1 else if Lin.lt b a = true then 1 else 0
theorem cmp_lt {a b : κ} (h : Lin.lt a b = true) : cmpF a b = -1 := if_pos h
theorem cmp_ge {a b : κ} (h : Lin.lt a b = false) : ¬ cmpF a b < 0 := by
 unfold cmpF
 rw [if_neg (by rw [h];decide)]
 split <;> decide
theorem cmp_eq {a b : κ} : cmpF a b = 0 ↔ a = b := by
 unfold cmpF
 constructor
 ·intro h
  split at h
  ·cases h
  ·split at h
   ·cases h
   ·exact Lin.tri (by simpa using ‹¬ Lin.lt a b = true›) (by simpa using ‹¬ Lin.lt b a = true›)
 ·intro h
  subst h
  rw [if_neg (by rw [Lin.irr];decide), if_neg (by rw [Lin.irr];decide)]
def putF : List α → α → List α
 | [], e => [e]
 | x :: r, e => if Lin.lt (key e) (key x) = true then e :: x :: r else if key e = key x then e :: r else x :: putF r e
def snapF (l : List α) : List α := l.foldl (putF key) []
def lastF (l : List α) (k : κ) : Option α := l.reverse.find? (fun e => decide (key e = k))
def Rises (s : List α) : Prop := s.Pairwise (fun x y => Lin.lt (key x) (key y) = true)
theorem snap_snoc (l : List α) (e : α) : snapF key (l ++ [e]) = putF key (snapF key l) e := by simp [snapF]
theorem last_snoc (l : List α) (e : α) (k : κ) : lastF key (l ++ [e]) k = if key e = k then some e else lastF key l k := by
 simp only [lastF, List.reverse_append, List.reverse_cons, List.reverse_nil, List.nil_append, List.cons_append, List.find?_cons]
 by_cases h : key e = k <;> simp [h]
theorem last_key {l : List α} {k : κ} {e : α} (h : lastF key l k = some e) : key e = k := by
 have := List.find?_some h
 simpa using this
theorem last_mem {l : List α} {k : κ} {e : α} (h : lastF key l k = some e) : e ∈ l := by
 have := List.mem_of_find?_eq_some h
 simpa using this
theorem last_of_mem {l : List α} {e : α} (h : e ∈ l) : ∃ x, lastF key l (key e) = some x := by
 have : ((l.reverse.find? (fun x => decide (key x = key e))).isSome) = true := by
  rw [List.find?_isSome]
  exact ⟨e, by simpa using h, by simp⟩
 exact Option.isSome_iff_exists.1 this
theorem put_mem : ∀ {s : List α} {e x : α}, Rises key s → (x ∈ putF key s e ↔ x = e ∨ (x ∈ s ∧ key x ≠ key e))
 | [], e, x, _ => by simp [putF]
 | y :: r, e, x, h => by
  have h1 := (List.pairwise_cons.1 h).1
  have h2 := (List.pairwise_cons.1 h).2
  unfold putF
  by_cases hlt : Lin.lt (key e) (key y) = true
  ·rw [if_pos hlt]
   have hy : key y ≠ key e := fun h => Lin.ne hlt h.symm
   have hr : ∀ z ∈ r, key z ≠ key e := fun z hz h => Lin.ne (Lin.tr hlt (h1 z hz)) h.symm
   simp only [List.mem_cons]
   constructor
   ·rintro (h | h | h)
    ·exact .inl h
    ·exact .inr ⟨.inl h, by rw [h];exact hy⟩
    ·exact .inr ⟨.inr h, hr x h⟩
   ·rintro (h | ⟨h | h, _⟩)
    ·exact .inl h
    ·exact .inr (.inl h)
    ·exact .inr (.inr h)
  ·rw [if_neg hlt]
   have hf : Lin.lt (key e) (key y) = false := by simpa using hlt
   by_cases he : key e = key y
   ·rw [if_pos he]
    have hr : ∀ z ∈ r, key z ≠ key e := fun z hz h => Lin.ne (h1 z hz) (by rw [h, he])
    simp only [List.mem_cons]
    constructor
    ·rintro (h | h)
     ·exact .inl h
     ·exact .inr ⟨.inr h, hr x h⟩
    ·rintro (h | ⟨h | h, hn⟩)
     ·exact .inl h
     ·exact absurd (by rw [h, he]) hn
     ·exact .inr h
   ·rw [if_neg he]
    have ih := put_mem (e := e) (x := x) h2
    have hy : key y ≠ key e := fun h => he h.symm
    simp only [List.mem_cons, ih]
    constructor
    ·rintro (h | h | ⟨h, hn⟩)
     ·exact .inr ⟨.inl h, by rw [h];exact hy⟩
     ·exact .inl h
     ·exact .inr ⟨.inr h, hn⟩
    ·rintro (h | ⟨h | h, hn⟩)
     ·exact .inr (.inl h)
     ·exact .inl h
     ·exact .inr (.inr ⟨h, hn⟩)
theorem put_rises : ∀ {s : List α} {e : α}, Rises key s → Rises key (putF key s e)
 | [], e, _ => by simp [putF, Rises]
 | y :: r, e, h => by
  have h1 := (List.pairwise_cons.1 h).1
  have h2 := (List.pairwise_cons.1 h).2
  unfold putF
  by_cases hlt : Lin.lt (key e) (key y) = true
  ·rw [if_pos hlt]
   exact List.pairwise_cons.2 ⟨fun z hz => by
    rcases List.mem_cons.1 hz with h | h
    ·rw [h];exact hlt
    ·exact Lin.tr hlt (h1 z h), h⟩
  ·rw [if_neg hlt]
   have hf : Lin.lt (key e) (key y) = false := by simpa using hlt
   by_cases he : key e = key y
   ·rw [if_pos he]
    exact List.pairwise_cons.2 ⟨fun z hz => by rw [he];exact h1 z hz, h2⟩
   ·rw [if_neg he]
    refine List.pairwise_cons.2 ⟨fun z hz => ?_, put_rises h2⟩
    rcases (put_mem key h2).1 hz with h | ⟨h, _⟩
    ·rw [h];exact Lin.gt hf he
    ·exact h1 z h
theorem snap_rises (l : List α) : Rises key (snapF key l) := by
 have : ∀ (l s : List α), Rises key s → Rises key (l.foldl (putF key) s) := by
  intro l
  induction l with
  | nil => exact fun _ h => h
  | cons x l ih => exact fun s h => ih _ (put_rises key h)
 exact this l [] List.Pairwise.nil
theorem snap_last {l : List α} : ∀ {x : α}, x ∈ snapF key l ↔ lastF key l (key x) = some x := by
 have : ∀ (r : List α) (x : α), x ∈ snapF key r.reverse ↔ lastF key r.reverse (key x) = some x := by
  intro r
  induction r with
  | nil => intro x;simp [snapF, lastF]
  | cons e r ih =>
   intro x
   rw [List.reverse_cons, snap_snoc, last_snoc, put_mem key (snap_rises key _)]
   by_cases h : key e = key x
   ·rw [if_pos h]
    constructor
    ·rintro (h1 | ⟨_, h2⟩)
     ·rw [h1]
     ·exact absurd h.symm h2
    ·intro h1;injection h1 with h1;exact .inl h1.symm
   ·rw [if_neg h, ← ih]
    constructor
    ·rintro (h1 | ⟨h1, _⟩)
     ·exact absurd (by rw [h1]) h
     ·exact h1
    ·exact fun h1 => .inr ⟨h1, fun h2 => h h2.symm⟩
 have h := this l.reverse
 simpa using h
theorem rises_ext : ∀ {s t : List α}, Rises key s → Rises key t → (∀ x, x ∈ s ↔ x ∈ t) → s = t
 | [], [], _, _, _ => rfl
 | [], y :: t, _, _, h => absurd ((h y).2 (by simp)) (by simp)
 | x :: s, [], _, _, h => absurd ((h x).1 (by simp)) (by simp)
 | x :: s, y :: t, hs, ht, h => by
  have s1 := (List.pairwise_cons.1 hs).1
  have t1 := (List.pairwise_cons.1 ht).1
  have e : x = y := by
   rcases List.mem_cons.1 ((h x).1 (by simp)) with e | hx
   ·exact e
   ·rcases List.mem_cons.1 ((h y).2 (by simp)) with e | hy
    ·exact e.symm
    ·have := Lin.tr (t1 x hx) (s1 y hy)
     rw [Lin.irr] at this;cases this
  subst e
  congr 1
  refine rises_ext (List.pairwise_cons.1 hs).2 (List.pairwise_cons.1 ht).2 (fun z => ?_)
  constructor
  ·intro hz
   rcases List.mem_cons.1 ((h z).1 (List.mem_cons_of_mem _ hz)) with e | h'
   ·subst e;have := s1 z hz;rw [Lin.irr] at this;cases this
   ·exact h'
  ·intro hz
   rcases List.mem_cons.1 ((h z).2 (List.mem_cons_of_mem _ hz)) with e | h'
   ·subst e;have := t1 z hz;rw [Lin.irr] at this;cases this
   ·exact h'
theorem rises_key {s : List α} (h : Rises key s) {x y : α} (hx : x ∈ s) (hy : y ∈ s) (e : key x = key y) : x = y := by
 induction s with
 | nil => cases hx
 | cons z r ih =>
  have h1 := (List.pairwise_cons.1 h).1
  rcases List.mem_cons.1 hx with hx | hx <;> rcases List.mem_cons.1 hy with hy | hy
  ·rw [hx, hy]
  ·rw [hx] at e;exact absurd e (Lin.ne (h1 y hy))
  ·rw [hy] at e;exact absurd e.symm (Lin.ne (h1 x hx))
  ·exact ih (List.pairwise_cons.1 h).2 hx hy
theorem rises_last {s : List α} (h : Rises key s) {x : α} (hx : x ∈ s) : lastF key s (key x) = some x := by
 obtain ⟨y, hy⟩ := last_of_mem key hx
 rw [hy, rises_key key h (last_mem key hy) hx (last_key key hy)]
theorem snap_of_rises {s : List α} (h : Rises key s) : snapF key s = s := by
 refine rises_ext key (snap_rises key s) h (fun x => ?_)
 rw [snap_last]
 constructor
 ·exact fun h' => last_mem key h'
 ·exact fun h' => rises_last key h h'
theorem snap_snap (l : List α) : snapF key (snapF key l) = snapF key l := snap_of_rises key (snap_rises key l)
theorem put_len (s : List α) (e : α) : (putF key s e).length ≤ s.length + 1 := by
 induction s with
 | nil => simp [putF]
 | cons x r ih =>
  unfold putF
  split
  ·simp
  ·split
   ·simp
   ·simpa using ih
theorem snap_len (l : List α) : (snapF key l).length ≤ l.length := by
 have : ∀ (l s : List α), (l.foldl (putF key) s).length ≤ s.length + l.length := by
  intro l
  induction l with
  | nil => intro s;simp
  | cons x l ih =>
   intro s
   have h1 := ih (putF key s x)
   have h2 := put_len key s x
   rw [List.foldl_cons, List.length_cons]
   omega
 have h := this l []
 rw [List.length_nil, Nat.zero_add] at h
 exact h
def Found (s : List α) (k : κ) (n : Nat) (f : Bool) : Prop :=
 n ≤ s.length ∧ (∀ i (h : i < s.length), i < n → Lin.lt (key s[i]) k = true) ∧ (∀ i (h : i < s.length), n ≤ i → Lin.lt (key s[i]) k = false) ∧ (f = true ↔ ∃ h : n < s.length, key s[n] = k)
theorem found_set : ∀ {s : List α} {e : α} {n : Nat}, Found key s (key e) n true → n < s.length ∧ s.set n e = putF key s e
 | [], e, n, ⟨_, _, _, h⟩ => by obtain ⟨h, _⟩ := h.1 rfl;simp at h
 | x :: r, e, 0, ⟨_, _, h3, h⟩ => by
  obtain ⟨_, h⟩ := h.1 rfl
  refine ⟨by simp, ?_⟩
  simp only [List.getElem_cons_zero] at h
  unfold putF
  rw [if_neg (by rw [h, Lin.irr];decide), if_pos h.symm]
  rfl
 | x :: r, e, n + 1, ⟨h1, h2, h3, h⟩ => by
  have hx := h2 0 (by simp) (by omega)
  simp only [List.getElem_cons_zero] at hx
  obtain ⟨h4, h5⟩ := h.1 rfl
  obtain ⟨g1, g2⟩ := found_set (s := r) (e := e) (n := n) ⟨by simpa using h1, fun i hi hin => by have := h2 (i + 1) (by simpa using hi) (by omega);simpa using this,
   fun i hi hin => by have := h3 (i + 1) (by simpa using hi) (by omega);simpa using this, by simpa using ⟨by simpa using h4, h5⟩⟩
  refine ⟨by simpa using g1, ?_⟩
  unfold putF
  rw [if_neg (by rw [Lin.asym hx];decide), if_neg (fun h => Lin.ne hx h.symm), List.set_cons_succ, g2]
theorem found_ins : ∀ {s : List α} {e : α} {n : Nat}, Found key s (key e) n false → n ≤ s.length ∧ s.take n ++ e :: s.drop n = putF key s e
 | [], e, n, ⟨h, _⟩ => by
  have : n = 0 := by simpa using h
  subst this
  exact ⟨by simp, by simp [putF]⟩
 | x :: r, e, 0, ⟨_, _, h3, h⟩ => by
  refine ⟨by simp, ?_⟩
  have h4 := h3 0 (by simp) (by omega)
  simp only [List.getElem_cons_zero] at h4
  have h5 : key x ≠ key e := fun h6 => by
   have := h.2 ⟨by simp, h6⟩
   cases this
  unfold putF
  rw [if_pos (Lin.gt h4 h5)]
  simp
 | x :: r, e, n + 1, ⟨h1, h2, h3, h⟩ => by
  have hx := h2 0 (by simp) (by omega)
  simp only [List.getElem_cons_zero] at hx
  obtain ⟨g1, g2⟩ := found_ins (s := r) (e := e) (n := n) ⟨by simpa using h1, fun i hi hin => by have := h2 (i + 1) (by simpa using hi) (by omega);simpa using this,
   fun i hi hin => by have := h3 (i + 1) (by simpa using hi) (by omega);simpa using this, by
    constructor
    ·intro h;cases h
    ·rintro ⟨h4, h5⟩
     exact h.2 ⟨by simpa using h4, by simpa using h5⟩⟩
  refine ⟨by simpa using g1, ?_⟩
  unfold putF
  rw [if_neg (by rw [Lin.asym hx];decide), if_neg (fun h => Lin.ne hx h.symm), ← g2]
  simp
def aheadB (after : Option κ) (k : κ) : Bool := match after with | none => true | some a => Lin.lt a k
def minStep (after m : Option κ) (k : κ) : Option κ :=
 if aheadB after k = true then (match m with | none => some k | some b => if Lin.lt k b = true then some k else some b) else m
def minF (l : List α) (after : Option κ) : Option κ := l.foldl (fun m e => minStep after m (key e)) none
theorem min_snoc (l : List α) (e : α) (after : Option κ) : minF key (l ++ [e]) after = minStep after (minF key l after) (key e) := by simp [minF]
theorem min_is (l : List α) (after : Option κ) : match minF key l after with
  | none => ∀ e ∈ l, aheadB after (key e) = false
  | some b => aheadB after b = true ∧ (∃ e ∈ l, key e = b) ∧ ∀ e ∈ l, aheadB after (key e) = true → Lin.lt (key e) b = false := by
 have : ∀ r : List α, match minF key r.reverse after with
  | none => ∀ e ∈ r, aheadB after (key e) = false
  | some b => aheadB after b = true ∧ (∃ e ∈ r, key e = b) ∧ ∀ e ∈ r, aheadB after (key e) = true → Lin.lt (key e) b = false := by
  intro r
  induction r with
  | nil => simp [minF]
  | cons e r ih =>
   rw [List.reverse_cons, min_snoc]
   unfold minStep
   cases hm : minF key r.reverse after with
   | none =>
    rw [hm] at ih
    simp only at ih ⊢
    by_cases ha : aheadB after (key e) = true
    ·rw [if_pos ha]
     refine ⟨ha, ⟨e, by simp, rfl⟩, fun x hx hax => ?_⟩
     rcases List.mem_cons.1 hx with h | h
     ·rw [h, Lin.irr]
     ·rw [ih x h] at hax;cases hax
    ·rw [if_neg ha]
     intro x hx
     rcases List.mem_cons.1 hx with h | h
     ·rw [h];simpa using ha
     ·exact ih x h
   | some b =>
    rw [hm] at ih
    simp only at ih ⊢
    obtain ⟨h1, ⟨y, h2, h3⟩, h4⟩ := ih
    by_cases ha : aheadB after (key e) = true
    ·rw [if_pos ha]
     by_cases hlt : Lin.lt (key e) b = true
     ·rw [if_pos hlt]
      refine ⟨ha, ⟨e, by simp, rfl⟩, fun x hx hax => ?_⟩
      rcases List.mem_cons.1 hx with h | h
      ·rw [h, Lin.irr]
      ·cases h5 : Lin.lt (key x) (key e) with
       | false => rfl
       | true => have := h4 x h hax;rw [Lin.tr h5 hlt] at this;cases this
     ·rw [if_neg hlt]
      refine ⟨h1, ⟨y, by simp [h2], h3⟩, fun x hx hax => ?_⟩
      rcases List.mem_cons.1 hx with h | h
      ·rw [h];simpa using hlt
      ·exact h4 x h hax
    ·rw [if_neg ha]
     refine ⟨h1, ⟨y, by simp [h2], h3⟩, fun x hx hax => ?_⟩
     rcases List.mem_cons.1 hx with h | h
     ·rw [h] at hax;exact absurd hax ha
     ·exact h4 x h hax
 have h := this l.reverse
 simpa using h
theorem min_next (l : List α) (k : Nat) (hk : k ≤ (snapF key l).length) : minF key l (((snapF key l).take k).getLast?.map key) = ((snapF key l)[k]?).map key := by
 have hr := snap_rises key l
 have hp := List.pairwise_iff_getElem.1 hr
 have hin : ∀ e ∈ l, ∃ i, ∃ h : i < (snapF key l).length, key (snapF key l)[i] = key e := by
  intro e he
  obtain ⟨x, hx⟩ := last_of_mem key he
  have hkx := last_key key hx
  have hm : x ∈ snapF key l := (snap_last key).2 (by rw [hkx];exact hx)
  obtain ⟨i, hi, hix⟩ := List.getElem_of_mem hm
  exact ⟨i, hi, by rw [hix, hkx]⟩
 have hout : ∀ i (h : i < (snapF key l).length), (snapF key l)[i] ∈ l := fun i h => last_mem key ((snap_last key).1 (List.getElem_mem h))
 generalize snapF key l = S at *
 have ha : ∀ i (h : i < S.length), aheadB ((S.take k).getLast?.map key) (key S[i]) = decide (k ≤ i) := by
  intro i hi
  by_cases h0 : k = 0
  ·subst h0;simp [aheadB]
  ·have e1 : (S.take k).getLast? = some (S[k - 1]'(by omega)) := by
    rw [List.getLast?_eq_getElem?, List.length_take, Nat.min_eq_left hk, List.getElem?_take, if_pos (by omega), List.getElem?_eq_getElem (by omega)]
   rw [e1]
   simp only [Option.map_some, aheadB]
   by_cases hik : k ≤ i
   ·rw [hp (k - 1) i (by omega) hi (by omega)];simp [hik]
   ·rw [decide_eq_false hik]
    by_cases he : i = k - 1
    ·subst he;exact Lin.irr _
    ·exact Lin.asym (hp i (k - 1) hi (by omega) (by omega))
 have hm := min_is key l ((S.take k).getLast?.map key)
 cases hmin : minF key l ((S.take k).getLast?.map key) with
 | none =>
  rw [hmin] at hm
  simp only at hm
  have : S.length ≤ k := by
   rcases Nat.lt_or_ge k S.length with h | h
   ·have h1 := hm _ (hout k h)
    rw [ha k h] at h1
    simp at h1
   ·exact h
  rw [List.getElem?_eq_none this]
  rfl
 | some b =>
  rw [hmin] at hm
  simp only at hm
  obtain ⟨h1, ⟨e, h2, h3⟩, h4⟩ := hm
  obtain ⟨i, hi, hie⟩ := hin e h2
  have hki : k ≤ i := by
   have := ha i hi
   rw [hie, h3, h1] at this
   simpa using this.symm
  have hkl : k < S.length := by omega
  have h5 := h4 _ (hout k hkl) (by rw [ha k hkl];simp)
  rw [List.getElem?_eq_getElem hkl, Option.map_some]
  congr 1
  rcases Nat.lt_or_eq_of_le hki with h | h
  ·have := hp k i hkl hi h
   rw [hie, h3, h5] at this
   cases this
  ·subst h;rw [hie, h3]
def minStepE (after : Option κ) (m : Option α) (e : α) : Option α :=
 if aheadB after (key e) = true then (match m with | none => some e | some b => if Lin.lt (key b) (key e) = true then some b else some e) else m
def minE (l : List α) (after : Option κ) : Option α := l.foldl (minStepE key after) none
theorem minE_snoc (l : List α) (e : α) (after : Option κ) : minE key (l ++ [e]) after = minStepE key after (minE key l after) e := by simp [minE]
theorem minE_is (l : List α) (after : Option κ) : minE key l after = (minF key l after).bind (lastF key l) := by
 have : ∀ r : List α, minE key r.reverse after = (minF key r.reverse after).bind (lastF key r.reverse) := by
  intro r
  induction r with
  | nil => rfl
  | cons e r ih =>
   rw [List.reverse_cons, minE_snoc, min_snoc, ih]
   have hm := min_is key r.reverse after
   unfold minStepE minStep
   cases hmf : minF key r.reverse after with
   | none =>
    rw [hmf] at hm
    by_cases ha : aheadB after (key e) = true
    ·rw [if_pos ha, if_pos ha]
     simp [last_snoc]
    ·rw [if_neg ha, if_neg ha]
     rfl
   | some b =>
    rw [hmf] at hm
    simp only at hm
    obtain ⟨h1, ⟨y, h2, h3⟩, h4⟩ := hm
    obtain ⟨x, hx⟩ := last_of_mem key h2
    rw [h3] at hx
    have hkx := last_key key hx
    simp only [Option.bind_some, hx, hkx]
    by_cases ha : aheadB after (key e) = true
    ·rw [if_pos ha, if_pos ha]
     by_cases hlt : Lin.lt (key e) b = true
     ·rw [if_pos hlt, if_neg (by rw [Lin.asym hlt];decide)]
      simp [last_snoc]
     ·rw [if_neg hlt]
      have hf : Lin.lt (key e) b = false := by simpa using hlt
      by_cases he : key e = b
      ·rw [if_neg (by rw [he, Lin.irr];decide)]
       simp [last_snoc, he]
      ·rw [if_pos (Lin.gt hf he)]
       simp [last_snoc, he, hx]
    ·rw [if_neg ha, if_neg ha]
     have he : key e ≠ b := fun h => ha (by rw [h];exact h1)
     simp [last_snoc, he, hx]
 have h := this l.reverse
 simpa using h
theorem minE_next (l : List α) (k : Nat) (hk : k ≤ (snapF key l).length) : minE key l (((snapF key l).take k).getLast?.map key) = (snapF key l)[k]? := by
 rw [minE_is, min_next key l k hk]
 cases h : (snapF key l)[k]? with
 | none => rfl
 | some x =>
  simp only [Option.map_some, Option.bind_some]
  exact (snap_last key).1 (List.mem_of_getElem? h)
end
end Go.Proofs.YtnjmonkehjlaoaaGreatDoor
namespace Go.Proofs.YtnjmonkehjlaoaaGreatDoor
structure NodeP where
 id : Int
 kind : Int
 tag : ByteArray
 text : ByteArray
 cls : List ByteArray
 att : List (ByteArray × ByteArray)
 sty : List (ByteArray × Int)
 par : Int
 kids : List Int
def fnP : List NodeP → Int → Option NodeP
 | [], _ => none
 | n :: l, id => if n.id = id then some n else fnP l id
def putP (l : List NodeP) (n : NodeP) : List NodeP := l.map (fun x => if x.id = n.id then n else x)
theorem fnd_id {l : List NodeP} {id : Int} {n : NodeP} (h : fnP l id = some n) : n.id = id := by
 induction l with
 | nil => cases h
 | cons x l ih =>
  unfold fnP at h
  split at h
  ·rename_i hx;cases h;exact hx
  ·exact ih h
theorem fnd_mem {l : List NodeP} {id : Int} {n : NodeP} (h : fnP l id = some n) : n ∈ l := by
 induction l with
 | nil => cases h
 | cons x l ih =>
  unfold fnP at h
  split at h
  ·cases h;exact List.mem_cons_self
  ·exact List.mem_cons_of_mem _ (ih h)
theorem fnd_of_mem {l : List NodeP} (hu : (l.map (·.id)).Nodup) {n : NodeP} (h : n ∈ l) : fnP l n.id = some n := by
 induction l with
 | nil => cases h
 | cons x l ih =>
  simp only [List.map_cons, List.nodup_cons] at hu
  unfold fnP
  rcases List.mem_cons.1 h with rfl | h
  ·rw [if_pos rfl]
  ·rw [if_neg (fun e => hu.1 (by rw [e];exact List.mem_map_of_mem h))]
   exact ih hu.2 h
theorem fnd_put (l : List NodeP) (n : NodeP) (id : Int) : fnP (putP l n) id = if id = n.id then (if (fnP l id).isSome then some n else none) else fnP l id := by
 induction l with
 | nil => simp [putP, fnP]
 | cons x l ih =>
  have ih : fnP (putP l n) id = _ := ih
  show fnP ((if x.id = n.id then n else x) :: putP l n) id = _
  by_cases hx : x.id = n.id
  ·rw [if_pos hx]
   unfold fnP
   by_cases hi : n.id = id
   ·rw [if_pos hi, if_pos hi.symm, if_pos (hx.trans hi)];rfl
   ·rw [if_neg hi, if_neg (fun e => hi (hx.symm.trans e)), ih]
  ·rw [if_neg hx]
   unfold fnP
   by_cases hi : x.id = id
   ·rw [if_pos hi, if_pos hi, if_neg (fun e => hx (hi.trans e))]
   ·rw [if_neg hi, if_neg hi, ih]
theorem fnd_put_some {l : List NodeP} {n m : NodeP} (h : fnP l n.id = some m) (id : Int) : fnP (putP l n) id = if id = n.id then some n else fnP l id := by
 rw [fnd_put]
 by_cases hi : id = n.id
 ·subst hi;rw [if_pos rfl, if_pos rfl, h];rfl
 ·rw [if_neg hi, if_neg hi]
theorem put_len0 (l : List NodeP) (n : NodeP) : (putP l n).length = l.length := List.length_map _
theorem put_ids (l : List NodeP) (n : NodeP) : (putP l n).map (·.id) = l.map (·.id) := by
 unfold putP
 rw [List.map_map]
 apply List.map_congr_left
 intro x _
 simp only [Function.comp]
 split
 ·rename_i h;exact h.symm
 ·rfl
theorem put_mem0 {l : List NodeP} {n x : NodeP} (h : x ∈ putP l n) : x = n ∨ x ∈ l := by
 obtain ⟨y, hy, rfl⟩ := List.mem_map.1 h
 split
 ·exact .inl rfl
 ·exact .inr hy
theorem fnd_app (l : List NodeP) (n : NodeP) (id : Int) : fnP (l ++ [n]) id = match fnP l id with
  | some x => some x
  | none => if n.id = id then some n else none := by
 induction l with
 | nil => simp [fnP]
 | cons x l ih =>
  rw [List.cons_append]
  unfold fnP
  split
  ·rfl
  ·exact ih
theorem fnd_filter (l : List NodeP) (p : Int → Bool) (id : Int) : fnP (l.filter (fun x => p x.id)) id = if p id = true then fnP l id else none := by
 induction l with
 | nil => simp [fnP]
 | cons x l ih =>
  by_cases hp : p x.id = true
  ·rw [List.filter_cons, if_pos hp]
   unfold fnP
   by_cases hi : x.id = id
   ·rw [if_pos hi, if_pos hi, ← hi, if_pos hp]
   ·rw [if_neg hi, if_neg hi, ih]
  ·rw [List.filter_cons, if_neg hp, ih]
   by_cases hi : x.id = id
   ·rw [← hi, if_neg hp, if_neg hp]
   ·conv => rhs;unfold fnP
    rw [if_neg hi]
abbrev Nds := Int → Option NodeP
def kidOf (f : Nds) (a b : Int) : Prop := ∃ n, f b = some n ∧ a ∈ n.kids
def parOf (f : Nds) (a b : Int) : Prop := ∃ n, f b = some n ∧ n.par = a
structure Wf (next : Int) (f : Nds) : Prop where
 nx : 1 ≤ next
 idn : ∀ id n, f id = some n → n.id = id ∧ 0 ≤ id ∧ id < next
 root : ∃ n, f 0 = some n ∧ n.kind = 2 ∧ n.par = -1
 knd : ∀ id n, f id = some n → n.kind = 1 ∨ n.kind = 2
 down : ∀ id n, f id = some n → ∀ k ∈ n.kids, ∃ c, f k = some c ∧ c.par = id
 up : ∀ id n, f id = some n → n.par = -1 ∨ ∃ p, f n.par = some p ∧ id ∈ p.kids
 nod : ∀ id n, f id = some n → n.kids.Nodup
 accD : ∀ id, _root_.Acc (kidOf f) id
 accU : ∀ id, _root_.Acc (parOf f) id
theorem Wf.neg {next : Int} {f : Nds} (h : Wf next f) {id : Int} (hi : id < 0) : f id = none := by
 cases hf : f id with
 | none => rfl
 | some n => have := h.idn id n hf;omega
theorem Wf.big {next : Int} {f : Nds} (h : Wf next f) {id : Int} (hi : next ≤ id) : f id = none := by
 cases hf : f id with
 | none => rfl
 | some n => have := h.idn id n hf;omega
inductive Win (f : Nds) (b : Int) : Int → Prop
 | refl {n : NodeP} (h : f b = some n) : Win f b b
 | step {a : Int} {n : NodeP} (h : f a = some n) (hp : Win f b n.par) : Win f b a
theorem Win.has {f : Nds} {b a : Int} (h : Win f b a) : ∃ n, f a = some n := by cases h with | refl h => exact ⟨_, h⟩ | step h _ => exact ⟨_, h⟩
theorem Win.top {f : Nds} {b a : Int} (h : Win f b a) : ∃ n, f b = some n := by
 induction h with
 | refl h => exact ⟨_, h⟩
 | step _ _ ih => exact ih
theorem Win.trans {f : Nds} {a b c : Int} (h : Win f b a) (k : Win f c b) : Win f c a := by
 induction h with
 | refl _ => exact k
 | step h1 _ ih => exact .step h1 ih
theorem win_iff {f : Nds} {a b : Int} {n : NodeP} (h : f a = some n) : Win f b a ↔ a = b ∨ Win f b n.par := by
 constructor
 ·intro hw
  cases hw with
  | refl _ => exact .inl rfl
  | step h1 h2 => rw [h] at h1;cases h1;exact .inr h2
 ·rintro (rfl | hw)
  ·exact .refl h
  ·exact .step h hw
theorem win_none {f : Nds} {a b : Int} (h : f a = none) : ¬ Win f b a := fun hw => by obtain ⟨n, hn⟩ := hw.has; rw [h] at hn; cases hn
section
open Classical
noncomputable def foldW {β : Type} (g : NodeP → List β → β) (z : β) (f : Nds) (hw : WellFounded (kidOf f)) : Int → β :=
 hw.fix (fun id F => match hf : f id with
  | none => z
  | some n => g n (n.kids.attach.map (fun k => F k.1 ⟨n, hf, k.2⟩)))
noncomputable def foldD {β : Type} (g : NodeP → List β → β) (z : β) (f : Nds) : Int → β := if hw : WellFounded (kidOf f) then foldW g z f hw else fun _ => z
theorem fold_some {β : Type} {g : NodeP → List β → β} {z : β} {f : Nds} (hw : ∀ id, _root_.Acc (kidOf f) id) {id : Int} {n : NodeP} (h : f id = some n) : foldD g z f id = g n (n.kids.map (foldD g z f)) := by
 have hw' : WellFounded (kidOf f) := ⟨hw⟩
 unfold foldD
 rw [dif_pos hw']
 have e : foldW g z f hw' id = g n (n.kids.attach.map (fun k => foldW g z f hw' k.1)) := by
  conv => lhs;unfold foldW
  rw [WellFounded.fix_eq]
  split
  ·rename_i h1;rw [h] at h1;cases h1
  ·rename_i m h1
   have : m = n := by rw [h] at h1;cases h1;rfl
   subst this
   rfl
 rw [e]
 congr 1
 rw [List.attach_map_val (l := n.kids) (f := foldW g z f hw')]
theorem fold_none {β : Type} {g : NodeP → List β → β} {z : β} {f : Nds} {id : Int} (h : f id = none) : foldD g z f id = z := by
 unfold foldD
 split
 ·rename_i hw
  unfold foldW
  rw [WellFounded.fix_eq]
  split
  ·rfl
  ·rename_i h1;rw [h] at h1;cases h1
 ·rfl
end
noncomputable def preN (f : Nds) : Int → List Int := foldD (fun n r => n.id :: r.flatten) [] f
theorem pre_some {f : Nds} (hw : ∀ id, _root_.Acc (kidOf f) id) {id : Int} {n : NodeP} (h : f id = some n) : preN f id = n.id :: (n.kids.map (preN f)).flatten := fold_some hw h
theorem pre_none {f : Nds} {id : Int} (h : f id = none) : preN f id = [] := fold_none h
theorem pre_iff {f : Nds} (hw : ∀ id, _root_.Acc (kidOf f) id) {id : Int} {n : NodeP} (h : f id = some n) (x : Int) : x ∈ preN f id ↔ x = n.id ∨ ∃ k ∈ n.kids, x ∈ preN f k := by
 rw [pre_some hw h]
 simp only [List.mem_cons, List.mem_flatten, List.mem_map]
 constructor
 ·rintro (h | ⟨l, ⟨k, hk, rfl⟩, hx⟩)
  ·exact .inl h
  ·exact .inr ⟨k, hk, hx⟩
 ·rintro (h | ⟨k, hk, hx⟩)
  ·exact .inl h
  ·exact .inr ⟨_, ⟨k, hk, rfl⟩, hx⟩
theorem pre_win {next : Int} {f : Nds} (h : Wf next f) {b : Int} : ∀ {a : Int}, a ∈ preN f b → Win f b a := by
 induction h.accD b with
 | intro b _ ih =>
  intro a ha
  cases hb : f b with
  | none => rw [pre_none hb] at ha;cases ha
  | some m =>
   rw [pre_iff h.accD hb] at ha
   rcases ha with rfl | ⟨j, hj, ha⟩
   ·rw [(h.idn b m hb).1];exact .refl hb
   ·obtain ⟨c, hc, hp⟩ := h.down b m hb j hj
    exact (ih j ⟨m, hb, hj⟩ ha).trans (.step hc (by rw [hp];exact .refl hb))
noncomputable def depU (f : Nds) (hw : WellFounded (parOf f)) : Int → Nat :=
 hw.fix (fun id F => match hf : f id with
  | none => 0
  | some n => F n.par ⟨n, hf, rfl⟩ + 1)
theorem depU_some {f : Nds} (hw : WellFounded (parOf f)) {id : Int} {n : NodeP} (h : f id = some n) : depU f hw id = depU f hw n.par + 1 := by
 conv => lhs;unfold depU
 rw [WellFounded.fix_eq]
 split
 ·rename_i h1;rw [h] at h1;cases h1
 ·rename_i m h1
  have : m = n := by rw [h] at h1;cases h1;rfl
  subst this
  rfl
theorem acc_mono {α : Type} {r s : α → α → Prop} (h : ∀ a b, r a b → s a b) {x : α} (hx : _root_.Acc s x) : _root_.Acc r x := by
 induction hx with
 | intro x _ ih => exact .intro x fun y hy => ih y (h y x hy)
end Go.Proofs.YtnjmonkehjlaoaaGreatDoor
namespace Go.Proofs.YtnjmonkehjlaoaaGreatDoor
variable {next : Int} {f f' : Nds}
abbrev shN (n : NodeP) : Int × Int × Int × List Int := (n.id, n.kind, n.par, n.kids)
theorem shN_some (h : ∀ i, (f' i).map shN = (f i).map shN) {i : Int} {m : NodeP} (hm : f' i = some m) : ∃ n, f i = some n ∧ n.id = m.id ∧ n.kind = m.kind ∧ n.par = m.par ∧ n.kids = m.kids := by
 have := h i
 rw [hm] at this
 cases hf : f i with
 | none => rw [hf] at this;cases this
 | some n =>
  rw [hf] at this
  simp only [Option.map_some, Option.some.injEq, Prod.mk.injEq] at this
  exact ⟨n, rfl, this.1.symm, this.2.1.symm, this.2.2.1.symm, this.2.2.2.symm⟩
theorem Wf.same (h : Wf next f) (hf : ∀ i, (f' i).map shN = (f i).map shN) : Wf next f' where
 nx := h.nx
 idn i m hm := by
  obtain ⟨n, hn, e, -⟩ := shN_some hf hm
  have := h.idn i n hn
  omega
 root := by
  obtain ⟨n, hn, h1, h2⟩ := h.root
  obtain ⟨m, hm, -, e1, e2, -⟩ := shN_some (fun i => (hf i).symm) hn
  exact ⟨m, hm, by omega, by omega⟩
 knd i m hm := by
  obtain ⟨n, hn, -, e, -⟩ := shN_some hf hm
  have := h.knd i n hn
  omega
 down i m hm k hk := by
  obtain ⟨n, hn, -, -, -, e⟩ := shN_some hf hm
  obtain ⟨c, hc, hp⟩ := h.down i n hn k (by rw [e];exact hk)
  obtain ⟨d, hd, -, -, e2, -⟩ := shN_some (fun i => (hf i).symm) hc
  exact ⟨d, hd, by omega⟩
 up i m hm := by
  obtain ⟨n, hn, -, -, e, -⟩ := shN_some hf hm
  rcases h.up i n hn with h1 | ⟨p, h1, h2⟩
  ·exact .inl (by omega)
  ·obtain ⟨q, hq, -, -, -, e2⟩ := shN_some (fun i => (hf i).symm) h1
   exact .inr ⟨q, by rw [← e];exact hq, by rw [e2];exact h2⟩
 nod i m hm := by
  obtain ⟨n, hn, -, -, -, e⟩ := shN_some hf hm
  rw [← e];exact h.nod i n hn
 accD i := acc_mono (fun a b ⟨m, hm, ha⟩ => by
  obtain ⟨n, hn, -, -, -, e⟩ := shN_some hf hm
  exact ⟨n, hn, by rw [e];exact ha⟩) (h.accD i)
 accU i := acc_mono (fun a b ⟨m, hm, ha⟩ => by
  obtain ⟨n, hn, -, -, e, -⟩ := shN_some hf hm
  exact ⟨n, hn, by omega⟩) (h.accU i)
theorem Wf.add (h : Wf next f) {n : NodeP} (h1 : n.id = next) (h2 : n.kids = []) (h3 : n.par = -1) (h4 : n.kind = 1 ∨ n.kind = 2) (hf : ∀ i, f' i = if i = next then some n else f i) : Wf (next + 1) f' := by
 have hnx := h.nx
 have hold : ∀ {i m}, f i = some m → f' i = some m := fun {i m} hm => by
  rw [hf, if_neg (fun e => by have := h.idn i m hm;omega)];exact hm
 have hcase : ∀ {i m}, f' i = some m → (i = next ∧ m = n) ∨ f i = some m := fun {i m} hm => by
  rw [hf] at hm
  split at hm
  ·cases hm;rename_i e;exact .inl ⟨e, rfl⟩
  ·exact .inr hm
 have hneg : f' (-1) = none := by rw [hf, if_neg (by omega)];exact h.neg (by omega)
 refine ⟨by omega, fun i m hm => ?_, ?_, fun i m hm => ?_, fun i m hm k hk => ?_, fun i m hm => ?_, fun i m hm => ?_, fun i => ?_, fun i => ?_⟩
 ·rcases hcase hm with ⟨rfl, rfl⟩ | hm
  ·omega
  ·have := h.idn i m hm;omega
 ·obtain ⟨r, hr, k1, k2⟩ := h.root
  exact ⟨r, hold hr, k1, k2⟩
 ·rcases hcase hm with ⟨rfl, rfl⟩ | hm
  ·exact h4
  ·exact h.knd i m hm
 ·rcases hcase hm with ⟨rfl, rfl⟩ | hm
  ·rw [h2] at hk;cases hk
  ·obtain ⟨c, hc, hp⟩ := h.down i m hm k hk
   exact ⟨c, hold hc, hp⟩
 ·rcases hcase hm with ⟨rfl, rfl⟩ | hm
  ·exact .inl h3
  ·rcases h.up i m hm with k1 | ⟨p, k1, k2⟩
   ·exact .inl k1
   ·exact .inr ⟨p, hold k1, k2⟩
 ·rcases hcase hm with ⟨rfl, rfl⟩ | hm
  ·rw [h2];exact List.nodup_nil
  ·exact h.nod i m hm
 ·refine acc_mono (fun a b ⟨m, hm, ha⟩ => ?_) (h.accD i)
  rcases hcase hm with ⟨rfl, rfl⟩ | hm
  ·rw [h2] at ha;cases ha
  ·exact ⟨m, hm, ha⟩
 ·have hn1 : _root_.Acc (parOf f') (-1) := .intro _ fun y ⟨m, hm, _⟩ => by rw [hneg] at hm;cases hm
  have hold' : ∀ x, x ≠ next → _root_.Acc (parOf f') x := fun x => by
   induction h.accU x with
   | intro x _ ih =>
    intro hx
    refine .intro x fun y ⟨m, hm, hp⟩ => ?_
    rcases hcase hm with ⟨rfl, rfl⟩ | hm
    ·exact absurd rfl hx
    ·by_cases hy : y = next
     ·rcases h.up x m hm with k1 | ⟨p, k1, k2⟩
      ·omega
      ·have := h.idn _ _ k1;omega
     ·exact ih y ⟨m, hm, hp⟩ hy
  by_cases hi : i = next
  ·refine .intro i fun y ⟨m, hm, hp⟩ => ?_
   rcases hcase hm with ⟨-, rfl⟩ | hm
   ·rw [h3] at hp;rw [← hp];exact hn1
   ·have := h.idn _ _ hm;omega
  ·exact hold' i hi
theorem Wf.ins (h : Wf next f) {p n : NodeP} {pid id : Int} {ks : List Int} (hp : f pid = some p) (hn : f id = some n) (h0 : id ≠ 0) (hl : n.par = -1) (hw : ¬ Win f id pid)
  (hks : ∀ x, x ∈ ks ↔ x = id ∨ x ∈ p.kids) (hnd : ks.Nodup) (hf : ∀ i, f' i = if i = id then some { n with par := pid } else if i = pid then some { p with kids := ks } else f i) : Wf next f' := by
 have hne : pid ≠ id := fun e => hw (by rw [e];exact .refl hn)
 have hp0 := h.idn pid p hp
 have hn0 := h.idn id n hn
 have fid : f' id = some { n with par := pid } := by rw [hf, if_pos rfl]
 have fpid : f' pid = some { p with kids := ks } := by rw [hf, if_neg hne, if_pos rfl]
 have fo : ∀ {i}, i ≠ id → i ≠ pid → f' i = f i := fun {i} h1 h2 => by rw [hf, if_neg h1, if_neg h2]
 -- what becomes of a node
 have hcase : ∀ {i m}, f' i = some m → ∃ m0, f i = some m0 ∧ m0.id = m.id ∧ m0.kind = m.kind ∧ (i ≠ id → m0.par = m.par) ∧ (i ≠ pid → m0.kids = m.kids) := fun {i m} hm => by
  by_cases h1 : i = id
  ·subst h1;rw [fid] at hm;cases hm;exact ⟨n, hn, rfl, rfl, fun e => absurd rfl e, fun _ => rfl⟩
  ·by_cases h2 : i = pid
   ·subst h2;rw [fpid] at hm;cases hm;exact ⟨p, hp, rfl, rfl, fun _ => rfl, fun e => absurd rfl e⟩
   ·rw [fo h1 h2] at hm;exact ⟨m, hm, rfl, rfl, fun _ => rfl, fun _ => rfl⟩
 have hback : ∀ {i m0}, f i = some m0 → ∃ m, f' i = some m ∧ (i ≠ id → m.par = m0.par) ∧ (∀ x ∈ m0.kids, x ∈ m.kids) ∧ m0.kind = m.kind := fun {i m0} hm => by
  by_cases h1 : i = id
  ·subst h1;rw [hn] at hm;cases hm;exact ⟨_, fid, fun e => absurd rfl e, fun _ h => h, rfl⟩
  ·by_cases h2 : i = pid
   ·subst h2;rw [hp] at hm;cases hm;exact ⟨_, fpid, fun _ => rfl, fun x hx => (hks x).2 (.inr hx), rfl⟩
   ·exact ⟨m0, by rw [fo h1 h2];exact hm, fun _ => rfl, fun _ h => h, rfl⟩
 have hpar : ∀ {i m0 k}, f i = some m0 → k ∈ m0.kids → k ≠ id := fun {i m0 k} hm hk e => by
  obtain ⟨c, hc, hp⟩ := h.down i m0 hm k hk
  subst e
  rw [hn] at hc
  cases hc
  have := h.idn i m0 hm
  omega
 refine ⟨h.nx, fun i m hm => ?_, ?_, fun i m hm => ?_, fun i m hm k hk => ?_, fun i m hm => ?_, fun i m hm => ?_, ?_, ?_⟩
 ·obtain ⟨m0, k1, k2, -⟩ := hcase hm
  have := h.idn i m0 k1
  omega
 ·obtain ⟨r, hr, k1, k2⟩ := h.root
  obtain ⟨m, hm, e, -, e2⟩ := hback hr
  have := e (Ne.symm h0)
  exact ⟨m, hm, by omega, by omega⟩
 ·obtain ⟨m0, k1, -, k2, -⟩ := hcase hm
  have := h.knd i m0 k1
  omega
 ·by_cases hi : i = pid
  ·subst hi
   rw [fpid] at hm
   cases hm
   rcases (hks k).1 hk with rfl | hk
   ·exact ⟨_, fid, rfl⟩
   ·obtain ⟨c, hc, e⟩ := h.down i p hp k hk
    obtain ⟨m, hm, e2, -⟩ := hback hc
    exact ⟨m, hm, by rw [e2 (hpar hp hk)];exact e⟩
  ·obtain ⟨m0, k1, -, -, -, k2⟩ := hcase hm
   rw [← k2 hi] at hk
   obtain ⟨c, hc, e⟩ := h.down i m0 k1 k hk
   obtain ⟨m, hm, e2, -⟩ := hback hc
   exact ⟨m, hm, by rw [e2 (hpar k1 hk)];exact e⟩
 ·by_cases hi : i = id
  ·subst hi
   rw [fid] at hm
   cases hm
   exact .inr ⟨_, fpid, (hks i).2 (.inl rfl)⟩
  ·obtain ⟨m0, k1, -, -, k2, -⟩ := hcase hm
   rw [← k2 hi]
   rcases h.up i m0 k1 with h1 | ⟨q, h1, h2⟩
   ·exact .inl h1
   ·obtain ⟨r, hr, -, e, -⟩ := hback h1
    exact .inr ⟨r, hr, e _ h2⟩
 ·by_cases hi : i = pid
  ·subst hi;rw [fpid] at hm;cases hm;exact hnd
  ·obtain ⟨m0, k1, -, -, -, k2⟩ := hcase hm
   rw [← k2 hi];exact h.nod i m0 k1
 ·have h1 : ∀ x, ¬ Win f x pid → _root_.Acc (kidOf f') x := fun x => by
   induction h.accD x with
   | intro x _ ih =>
    intro hx
    refine .intro x fun y ⟨m, hm, hy⟩ => ?_
    have hxp : x ≠ pid := fun e => hx (by rw [e];exact .refl hp)
    obtain ⟨m0, k1, -, -, -, k2⟩ := hcase hm
    rw [← k2 hxp] at hy
    refine ih y ⟨m0, k1, hy⟩ fun hyp => hx ?_
    obtain ⟨c, hc, e⟩ := h.down x m0 k1 y hy
    exact hyp.trans (.step hc (by rw [e];exact .refl k1))
  intro i
  induction h.accD i with
  | intro x _ ih =>
   refine .intro x fun y ⟨m, hm, hy⟩ => ?_
   by_cases hx : x = pid
   ·subst hx
    rw [fpid] at hm
    cases hm
    rcases (hks y).1 hy with rfl | hy
    ·exact h1 _ hw
    ·exact ih y ⟨p, hp, hy⟩
   ·obtain ⟨m0, k1, -, -, -, k2⟩ := hcase hm
    rw [← k2 hx] at hy
    exact ih y ⟨m0, k1, hy⟩
 ·have h1 : ∀ x, ¬ Win f id x → _root_.Acc (parOf f') x := fun x => by
   induction h.accU x with
   | intro x _ ih =>
    intro hx
    refine .intro x fun y ⟨m, hm, hy⟩ => ?_
    have hxp : x ≠ id := fun e => hx (by rw [e];exact .refl hn)
    obtain ⟨m0, k1, -, -, k2, -⟩ := hcase hm
    rw [← k2 hxp] at hy
    refine ih y ⟨m0, k1, hy⟩ fun hyp => hx (.step k1 (by rw [hy];exact hyp))
  intro i
  induction h.accU i with
  | intro x _ ih =>
   refine .intro x fun y ⟨m, hm, hy⟩ => ?_
   by_cases hx : x = id
   ·subst hx
    rw [fid] at hm
    cases hm
    simp only at hy
    subst hy
    exact h1 _ hw
   ·obtain ⟨m0, k1, -, -, k2, -⟩ := hcase hm
    rw [← k2 hx] at hy
    exact ih y ⟨m0, k1, hy⟩
def cutK (id : Int) (n : NodeP) : NodeP := { n with kids := n.kids.filter (fun x => decide (x ≠ id)) }
def cutN (f : Nds) (id : Int) : Nds := fun i => (f i).map (cutK id)
end Go.Proofs.YtnjmonkehjlaoaaGreatDoor
namespace Go.Proofs.YtnjmonkehjlaoaaGreatDoor
open Go.RowKit
section
variable {α : Type} [Enc α]
end
theorem rdg_str {P : Program} {W : World} {D : Nat} {T : TypeId} {us : List Value} (hT : P.underlying T = some .string) (h : Rdg P W (D + 1) T us) : ∃ s : ByteArray, us = [.string s] ∧ s.size ≤ maxLen := by
 unfold Rdg at h;rw [hT] at h;exact h
end Go.Proofs.YtnjmonkehjlaoaaGreatDoor
namespace Go.Proofs.YtnjmonkehjlaoaaGreatDoor
variable {df : List Deferred}
variable {rr : Option Nat}
open Go.RowKit
section
variable {P : Program} {Q : Exit → Act → World → Prop} {a : Act} {w w' : World} {w0 : Bs} {n : Nat} {l : List (Nat × Value)} {L L' : List HP}
 {dst : Option Nat} {R : Value → World → Prop} {ty : TypeId} {pos : String} {af : Array Edge} {g : Option (Nat × Bool)}
theorem sp_lss {x y : Operand} {t t' : TypeId} {k : IntKind} {p q : Int} (hk : Kn df n a l) (ht : p < q → R (.bool true) w) (hf : ¬ p < q → R (.bool false) w)
  (hx : ev l x = some (.int k p) := by rfl) (hy : ev l y = some (.int k q) := by rfl) : Gives P ⟨dst, .binOp .lss t x y t', ty, pos, af, g⟩ a w R := by
 by_cases h : p < q
 ·exact g_lss hk (by rw [decide_eq_true h];exact ht h) hx hy
 ·exact g_lss hk (by rw [decide_eq_false h];exact hf h) hx hy
theorem sp_leq {x y : Operand} {t t' : TypeId} {k : IntKind} {p q : Int} (hk : Kn df n a l) (ht : p ≤ q → R (.bool true) w) (hf : ¬ p ≤ q → R (.bool false) w)
  (hx : ev l x = some (.int k p) := by rfl) (hy : ev l y = some (.int k q) := by rfl) : Gives P ⟨dst, .binOp .leq t x y t', ty, pos, af, g⟩ a w R := by
 by_cases h : p ≤ q
 ·exact g_leq hk (by rw [decide_eq_true h];exact ht h) hx hy
 ·exact g_leq hk (by rw [decide_eq_false h];exact hf h) hx hy
theorem sp_gtr {x y : Operand} {t t' : TypeId} {k : IntKind} {p q : Int} (hk : Kn df n a l) (ht : q < p → R (.bool true) w) (hf : ¬ q < p → R (.bool false) w)
  (hx : ev l x = some (.int k p) := by rfl) (hy : ev l y = some (.int k q) := by rfl) : Gives P ⟨dst, .binOp .gtr t x y t', ty, pos, af, g⟩ a w R := by
 by_cases h : q < p
 ·exact g_gtr hk (by rw [decide_eq_true h];exact ht h) hx hy
 ·exact g_gtr hk (by rw [decide_eq_false h];exact hf h) hx hy
theorem sp_geq {x y : Operand} {t t' : TypeId} {k : IntKind} {p q : Int} (hk : Kn df n a l) (ht : q ≤ p → R (.bool true) w) (hf : ¬ q ≤ p → R (.bool false) w)
  (hx : ev l x = some (.int k p) := by rfl) (hy : ev l y = some (.int k q) := by rfl) : Gives P ⟨dst, .binOp .geq t x y t', ty, pos, af, g⟩ a w R := by
 by_cases h : q ≤ p
 ·exact g_geq hk (by rw [decide_eq_true h];exact ht h) hx hy
 ·exact g_geq hk (by rw [decide_eq_false h];exact hf h) hx hy
theorem sp_eqi {x y : Operand} {t t' : TypeId} {k : IntKind} {p q : Int} (hk : Kn df n a l) (ht : p = q → R (.bool true) w) (hf : ¬ p = q → R (.bool false) w)
  (hx : ev l x = some (.int k p) := by rfl) (hy : ev l y = some (.int k q) := by rfl) : Gives P ⟨dst, .binOp .eql t x y t', ty, pos, af, g⟩ a w R := by
 by_cases h : p = q
 ·exact g_eqi hk (by rw [decide_eq_true h];exact ht h) hx hy
 ·exact g_eqi hk (by rw [decide_eq_false h];exact hf h) hx hy
theorem sp_nei {x y : Operand} {t t' : TypeId} {k : IntKind} {p q : Int} (hk : Kn df n a l) (ht : p = q → R (.bool false) w) (hf : ¬ p = q → R (.bool true) w)
  (hx : ev l x = some (.int k p) := by rfl) (hy : ev l y = some (.int k q) := by rfl) : Gives P ⟨dst, .binOp .neq t x y t', ty, pos, af, g⟩ a w R := by
 by_cases h : p = q
 ·exact g_nei hk (by rw [decide_eq_true h];exact ht h) hx hy
 ·exact g_nei hk (by rw [decide_eq_false h];exact hf h) hx hy
theorem sp_eqS {x y : Operand} {t t' : TypeId} {s r : ByteArray} (hk : Kn df n a l) (ht : s = r → R (.bool true) w) (hf : ¬ s = r → R (.bool false) w)
  (hx : ev l x = some (.string s) := by rfl) (hy : ev l y = some (.string r) := by rfl) : Gives P ⟨dst, .binOp .eql t x y t', ty, pos, af, g⟩ a w R := by
 by_cases h : s = r
 ·exact g_eqS hk (by rw [decide_eq_true h];exact ht h) hx hy
 ·exact g_eqS hk (by rw [decide_eq_false h];exact hf h) hx hy
theorem sp_eqs {x y : Operand} {t t' : TypeId} {ks : List SK} {us vs : List Value} (hk : Kn df n a l) (ht : eqC us vs = true → R (.bool true) w) (hf : eqC us vs = false → R (.bool false) w)
  (hT : flatT P 6 t = some ks) (ha : aggOf P t = some true) (hg : P.eqGuardType P.depth t = false)
  (hx : ev l x = some (.agg us.toArray) := by rfl) (hy : ev l y = some (.agg vs.toArray) := by rfl) (h1 : shp ks us = true := by rfl) (h2 : shp ks vs = true := by rfl) : Gives P ⟨dst, .binOp .eql t x y t', ty, pos, af, g⟩ a w R := by
 cases h : eqC us vs with
 | true => exact g_eqs hk (by rw [h];exact ht h) hT ha hg hx hy h1 h2
 | false => exact g_eqs hk (by rw [h];exact hf h) hT ha hg hx hy h1 h2
theorem sp_nes {x y : Operand} {t t' : TypeId} {ks : List SK} {us vs : List Value} (hk : Kn df n a l) (ht : eqC us vs = true → R (.bool false) w) (hf : eqC us vs = false → R (.bool true) w)
  (hT : flatT P 6 t = some ks) (ha : aggOf P t = some true) (hg : P.eqGuardType P.depth t = false)
  (hx : ev l x = some (.agg us.toArray) := by rfl) (hy : ev l y = some (.agg vs.toArray) := by rfl) (h1 : shp ks us = true := by rfl) (h2 : shp ks vs = true := by rfl) : Gives P ⟨dst, .binOp .neq t x y t', ty, pos, af, g⟩ a w R := by
 cases h : eqC us vs with
 | true => exact g_nes hk (by rw [h];exact ht h) hT ha hg hx hy h1 h2
 | false => exact g_nes hk (by rw [h];exact hf h) hT ha hg hx hy h1 h2
variable {os : List Oper} {i : Nat} {o : Oper} {r : List Oper} {acc : List (Nat × Nat × HV)} {HR : List (Nat × ((Nat → Value) → Value → HP))} {FinE : List (Nat × Nat × HV) → List (Nat × ((Nat → Value) → Value → HP)) → List HP → Prop} {TK : List HP}
theorem obe_bool {b : Bool} (h : ∀ (us : Nat → Value) (a : Act) (w : World), Kn df n a (vwE acc l us (o.looksAt os.toArray)) → depE acc us w (o.looksAt os.toArray) → St w0 L w → Gives P o a w (fun v w' => v = .bool b ∧ St w [] w'))
  (ht : b = true → ObxE df P n os l w0 L FinE (i + 1) r (pushE o.dst i (.val (.bool true)) acc) HR TK) (hf : b = false → ObxE df P n os l w0 L FinE (i + 1) r (pushE o.dst i (.val (.bool false)) acc) HR TK)
  (hg : ∀ us, gdK os.toArray (vwE acc l us (o.looksAt os.toArray)) o.guard = some true := by intro us;rfl) : ObxE df P n os l w0 L FinE i (o :: r) acc HR TK := by
 cases b with
 | true => exact obe_val h (ht rfl) hg
 | false => exact obe_val h (hf rfl) hg
variable {α : Type} [Enc α]
theorem g_la1 {x : Operand} {T : TypeId} {v : Value} {i : Nat} {xs : List α} {u : Value} (hk : Kn df n a l) (h : R u w) (hT : aggOf P T = some false)
  (hx : ev l x = some (.pointer (some ⟨blk v, offs v + i * (Enc.k α + 1), none⟩)) := by rfl) (hs : SlT xs v w) (hi : i < xs.length) (hu : Enc.f xs[i] = [u] := by rfl) :
  Gives P ⟨dst, .load T x, ty, pos, af, g⟩ a w R := g_ldT1 hk h hT hx hs (List.getElem?_eq_getElem hi) hu
theorem g_laN {x : Operand} {T : TypeId} {v : Value} {i : Nat} {xs : List α} {us : List Value} (hk : Kn df n a l) (h : R (.agg us.toArray) w) (hT : aggOf P T = some true)
  (hx : ev l x = some (.pointer (some ⟨blk v, offs v + i * (Enc.k α + 1), none⟩)) := by rfl) (hs : SlT xs v w) (hi : i < xs.length) (hu : Enc.f xs[i] = us) (hz : szOf P T = some (Enc.k α + 1)) :
  Gives P ⟨dst, .load T x, ty, pos, af, g⟩ a w R := g_ldTN hk h hT hx hs (List.getElem?_eq_getElem hi) hu hz
theorem g_laF {x : Operand} {T : TypeId} {v : Value} {i f : Nat} {xs : List α} {u : Value} (hk : Kn df n a l) (h : R u w) (hT : aggOf P T = some false)
  (hx : ev l x = some (.pointer (some ⟨blk v, offs v + i * (Enc.k α + 1) + f, none⟩)) := by rfl) (hs : SlT xs v w) (hi : i < xs.length) (hu : (Enc.f xs[i])[f]? = some u := by rfl) :
  Gives P ⟨dst, .load T x, ty, pos, af, g⟩ a w R := g_ldTF hk h hT hx hs (List.getElem?_eq_getElem hi) hu
theorem g_bs1I {T E : Nat} {q : List (Nat × Operand)} {z : Value} {m : Int} (hk : Kn df n a l) (hS : St w0 L w) (h : ∀ w' v, St w0 (OwT E [m] v :: L) w' → R v w')
  (hp : evP l q = some [(0, .int .i64 m)] := by rfl) (hT : elOf P T = some E) (hE : szOf P E = some 1) (hz : zeroOf P E = some z) :
  Gives P ⟨dst, .buildSlice T 1 q.toArray, ty, pos, af, g⟩ a w R := by
 have hE' : szOf P E = some (Enc.k Int + 1) := hE
 refine g_bsT (xs := [m]) (m := 0) hk hS h hp hT hE' hz ?_ rfl
 simp [bldP, enc, Enc.f, Enc.k, Value.cells, zerosL, splice];rfl
theorem g_bs1S {T E : Nat} {q : List (Nat × Operand)} {z : Value} {m : ByteArray} (hk : Kn df n a l) (hS : St w0 L w) (h : ∀ w' v, St w0 (OwT E [m] v :: L) w' → R v w')
  (hp : evP l q = some [(0, .string m)] := by rfl) (hT : elOf P T = some E) (hE : szOf P E = some 1) (hz : zeroOf P E = some z) :
  Gives P ⟨dst, .buildSlice T 1 q.toArray, ty, pos, af, g⟩ a w R := by
 have hE' : szOf P E = some (Enc.k ByteArray + 1) := hE
 refine g_bsT (xs := [m]) (m := 0) hk hS h hp hT hE' hz ?_ rfl
 simp [bldP, enc, Enc.f, Enc.k, Value.cells, zerosL, splice];rfl
theorem g_app1 {α : Type} [Enc α] {x y : Operand} {t tx : TypeId} {E E' : Nat} {v y0 z : Value} {xs : List α} {e : α} {L'' : List HP} (hk : Kn df n a l) (hS : St w0 L w)
  (h : ∀ w' v', St w0 (OwT E (xs ++ [e]) v' :: L'') w' → R v' w')
  (hx : ev l x = some v := by rfl) (hy : ev l y = some y0 := by rfl)
  (hat : At (OwT E xs v) L L' := by (repeat (first | exact At.here | apply At.there)))
  (hT : elOf P t = some E) (hTx : elOf P tx = some E')
  (hat2 : At (OwT E' [e] y0) L' L'' := by (repeat (first | exact At.here | apply At.there)))
  (hE : szOf P E = some (Enc.k α + 1)) (hz : zeroOf P E = some z) (hzs : z.cells.size = Enc.k α + 1) {by_ : Nat} (hby : ((P.info? E).map (·.bytes)).getD 0 = by_) (hbytes : (xs.length + 1) * by_ ≤ 140737488355328) (h63 : xs.length + 1 ≤ 9223372036854775807) :
  Gives P ⟨dst, .call { callee := .builtin .append, args := #[x, y], argTypes := #[t, tx] }, ty, pos, af, g⟩ a w R :=
 g_appD hk hS h hx hy hat hT hTx hat2 hE hz hzs hby (by simpa using hbytes) (by simpa [maxLen] using h63)
theorem g_var1 {x : Operand} {T : TypeId} {b o : Nat} {vs : List Value} {T' : TypeId} {v : Value} (hk : Kn df n a l) (h : R v w) (hT : aggOf P T = some false)
  (hx : ev l x = some (.pointer (some ⟨b, o, none⟩)) := by rfl) (hb : (pts b vs T').rd w) (hv : vs[o]? = some v := by rfl) : Gives P ⟨dst, .load T x, ty, pos, af, g⟩ a w R :=
 g_load1 hk h hT (by rw [cell_of_row w b o _ T' _ (pts.block hb)];simpa using hv) hx
theorem g_convU {x : Operand} {t t' : TypeId} {k' : IntKind} {p : Int} (hk : Kn df n a l) (h : R (.int .u64 p) w) (hx : ev l x = some (.int k' p) := by rfl) (ht : P.underlying t' = some (.int .u64)) {d : TypeDesc} (hs : P.underlying t = some d) (h0 : 0 ≤ p) (h1 : p ≤ 18446744073709551615) :
  Gives P ⟨dst, .convert t t' x, ty, pos, af, g⟩ a w R := g_convI hk (by rw [IntWalk.u64_in _ ⟨h0, h1⟩];exact h) hx ht hs
theorem g_convS {x : Operand} {t t' : TypeId} {k' : IntKind} {p : Int} (hk : Kn df n a l) (h : R (.int .i64 p) w) (hx : ev l x = some (.int k' p) := by rfl) (ht : P.underlying t' = some (.int .i64)) {d : TypeDesc} (hs : P.underlying t = some d) (h0 : -9223372036854775808 ≤ p) (h1 : p ≤ 9223372036854775807) :
  Gives P ⟨dst, .convert t t' x, ty, pos, af, g⟩ a w R := g_convI hk (by rw [IntWalk.i64_in _ ⟨h0, h1⟩];exact h) hx ht hs
theorem g_shr1 {x y : Operand} {t t' : TypeId} {k k' : IntKind} {p : Int} (hk : Kn df n a l) (h : R (.int k (p / 2)) w) (hx : ev l x = some (.int k p) := by rfl) (hy : ev l y = some (.int k' 1) := by rfl) (hm : 1 ≤ k.bits) :
  Gives P ⟨dst, .binOp .shr t x y t', ty, pos, af, g⟩ a w R :=
 g_shr (m := 1) hk (by rw [show (2 : Int) ^ 1 = 2 from rfl, Int.fdiv_eq_ediv_of_nonneg _ (by omega)];exact h) hx hy hm
theorem wp_while {ι : Type} {c : Code} {l0 : List (Nat × Value)} (V : ι → List (Nat × Value)) (Ls : ι → List HP) (F : ι → Prop) (μ : ι → Nat) (x0 : ι) (hk : Kn df n a l0) (hV : subK l0 (V x0)) (hS : St w0 (Ls x0) w) (hF : F x0)
  (step : ∀ (x : ι) (a : Act) (w : World), Kn df n a (V x ++ l0) → St w0 (Ls x) w → F x →
   c.wpIn (FR rr) 0 P (Exit.then (fun a' w' => ∃ x', μ x' < μ x ∧ Kn df n a' (V x' ++ l0) ∧ St w0 (Ls x') w' ∧ F x') Q) a w) : (Code.loop c).wpIn (FR rr) 0 P Q a w := by
 refine wp_loopN (fun k a w => ∃ x, k = μ x ∧ Kn df n a (V x ++ l0) ∧ St w0 (Ls x) w ∧ F x) (k := μ x0) ⟨x0, rfl, hk.app hV, hS, hF⟩ ?_
 rintro k a w ⟨x, rfl, hk, hS, hF⟩
 refine wpIn_mono (step x a w hk hS hF) ?_
 intro e a' w' hq
 cases e with
 | normal =>
  obtain ⟨x', hlt, h1, h2, h3⟩ := hq
  exact ⟨μ x', hlt, x', rfl, h1, h2, h3⟩
 | exit i => exact hq
 | goto i => exact hq
 | ret => exact hq
 | panic c => exact hq
 | outgrown => exact hq
theorem g_callvO {R' : Value → World → Prop} {x : Operand} {f : FuncId} {first cap : List Value} {xs : List Operand} {vs : List Value} {ts : Array TypeId} (hk : Kn df n a l)
  (hx : ev l x = some (.func (.func f) first.toArray cap.toArray) := by rfl) (hxs : evs l xs = some vs := by rfl) (hf : callable P f = true) (hc : Calls P f (first ++ vs ++ cap).toArray w (Ret R'))
  (h : ∀ v w', R' v w' → R v w') : Gives P ⟨dst, .call { callee := .value x, args := xs.toArray, argTypes := ts }, ty, pos, af, g⟩ a w R :=
 g_callv hk hf hc h hx hxs
theorem g_bs0 (α : Type) [Enc α] {T E k : Nat} (hS : St w0 L w) (h : ∀ w' v, St w0 (OwT E ([] : List α) v :: L) w' → R v w') (hT : elOf P T = some E) (hE : szOf P E = some k) :
  Gives P ⟨dst, .buildSlice T 0 #[], ty, pos, af, g⟩ a w R := by
 refine givesv (v := .slice (some ⟨w.heap.size, 0, none⟩) 0 0) (w' := w.alloc (.cells #[] E)) ?_ (h _ _ ?_)
 ·simp only [execOp, Instr.buildSlice, Sem.run_bind, run_underlying (elOf_und hT), Result.andThen_ok, szOf_run hE]
  have e : (Array.map (fun (_ : Nat) => (default : Value)) (Array.range 0)) = #[] := Array.eq_empty_of_size_eq_zero (by simp)
  simp [Instr.fill, newRow, e]
 ·have := (hS.alloc [] E).ptsOwn At.here (k := Enc.k α + 1) (n := 0) (by simp) (by simp [maxLen])
  unfold OwT
  exact this
theorem g_appE {α : Type} [Enc α] {x y : Operand} {t tx : TypeId} {E E' : Nat} {v y0 z : Value} {xs ys : List α} {L'' : List HP} (hk : Kn df n a l) (hS : St w0 L w)
  (h : ∀ w' v', St w0 (OwT E (xs ++ ys) v' :: L'') w' → R v' w')
  (hx : ev l x = some v := by rfl) (hy : ev l y = some y0 := by rfl)
  (hat : At (OwT E xs v) L L' := by (repeat (first | exact At.here | apply At.there)))
  (hT : elOf P t = some E) (hTx : elOf P tx = some E')
  (hat2 : At (OwT E' ys y0) L' L'' := by (repeat (first | exact At.here | apply At.there)))
  (hE : szOf P E = some (Enc.k α + 1)) (hz : zeroOf P E = some z) (hzs : z.cells.size = Enc.k α + 1) {by_ : Nat} (hby : ((P.info? E).map (·.bytes)).getD 0 = by_) (hbytes : (xs.length + ys.length) * by_ ≤ 140737488355328) (h63 : xs.length + ys.length ≤ 9223372036854775807) :
  Gives P ⟨dst, .call { callee := .builtin .append, args := #[x, y], argTypes := #[t, tx] }, ty, pos, af, g⟩ a w R :=
 g_appD hk hS h hx hy hat hT hTx hat2 hE hz hzs hby hbytes (by simpa [maxLen] using h63)
end
theorem beq_str (a b : ByteArray) : (a == b) = true ↔ a = b := by
 cases a
 cases b
 simp only [BEq.beq, ByteArray.beq, ByteArray.mk.injEq]
 constructor
 ·exact fun h => Array.eq_of_isEqv _ _ h
 ·intro h
  subst h
  exact Array.isEqv_self _
theorem eqC_eq : ∀ {ks : List SK} {us vs : List Value}, shp ks us = true → shp ks vs = true → (eqC us vs = true ↔ us = vs)
 | [], [], [], _, _ => by simp [eqC]
 | [], _ :: _, _, h, _ => by simp [shp] at h
 | [], [], _ :: _, _, h => by simp [shp] at h
 | .int k :: ks, [], _, h, _ => by simp [shp] at h
 | .bool :: ks, [], _, h, _ => by simp [shp] at h
 | .str :: ks, [], _, h, _ => by simp [shp] at h
 | .int k :: ks, _ :: _, [], _, h => by simp [shp] at h
 | .bool :: ks, _ :: _, [], _, h => by simp [shp] at h
 | .str :: ks, _ :: _, [], _, h => by simp [shp] at h
 | .int k :: ks, u :: us, v :: vs, h1, h2 => by
  cases u <;> simp [shp] at h1
  cases v <;> simp [shp] at h2
  obtain ⟨rfl, h1⟩ := h1
  obtain ⟨rfl, h2⟩ := h2
  simp [eqC, eqC_eq h1 h2]
 | .bool :: ks, u :: us, v :: vs, h1, h2 => by
  cases u <;> simp [shp] at h1
  cases v <;> simp [shp] at h2
  simp [eqC, eqC_eq h1 h2]
 | .str :: ks, u :: us, v :: vs, h1, h2 => by
  cases u <;> simp [shp] at h1
  cases v <;> simp [shp] at h2
  simp [eqC, eqC_eq h1 h2, beq_str]
theorem shp_join : ∀ {k1 k2 : List SK} {us vs : List Value}, shp k1 us = true → shp k2 vs = true → shp (k1 ++ k2) (us ++ vs) = true
 | [], _, [], _, _, h => by simpa using h
 | [], _, _ :: _, _, h, _ => by simp [shp] at h
 | .int k :: ks, _, [], _, h, _ => by simp [shp] at h
 | .bool :: ks, _, [], _, h, _ => by simp [shp] at h
 | .str :: ks, _, [], _, h, _ => by simp [shp] at h
 | .int k :: ks, _, u :: us, vs, h, h2 => by
  cases u <;> simp [shp] at h
  simp [shp, h.1, shp_join h.2 h2]
 | .bool :: ks, _, u :: us, vs, h, h2 => by
  cases u <;> simp [shp] at h
  simp [shp, shp_join h h2]
 | .str :: ks, _, u :: us, vs, h, h2 => by
  cases u <;> simp [shp] at h
  simp [shp, shp_join h h2]
class EncI (α : Type) [Enc α] where
 ks : List SK
 kl : ks.length = Enc.k α + 1
 sh : ∀ x : α, shp ks (Enc.f x) = true
 inj : ∀ {x y : α}, Enc.f x = Enc.f y → x = y
 sur : ∀ us, shp ks us = true → ∃ x : α, Enc.f x = us
instance : EncI Int := ⟨[.int .i64], rfl, fun _ => rfl, fun h => by simpa [Enc.f] using h, fun us h => by obtain ⟨p, rfl⟩ := shp_int h; exact ⟨p, rfl⟩⟩
instance : EncI ByteArray := ⟨[.str], rfl, fun _ => rfl, fun h => by simpa [Enc.f] using h, fun us h => by obtain ⟨p, rfl⟩ := shp_str h; exact ⟨p, rfl⟩⟩
instance : EncI Bool := ⟨[.bool], rfl, fun _ => rfl, fun h => by simpa [Enc.f] using h, fun us h => by obtain ⟨p, rfl⟩ := shp_bool h; exact ⟨p, rfl⟩⟩
instance {α β : Type} [Enc α] [Enc β] [EncI α] [EncI β] : EncI (α × β) := ⟨EncI.ks α ++ EncI.ks β, by rw [List.length_append, EncI.kl, EncI.kl]; show _ = Enc.k α + Enc.k β + 1 + 1; omega, fun x => shp_join (EncI.sh x.1) (EncI.sh x.2), fun {x y} h => by
 have h := List.append_inj h (by rw [Enc.len, Enc.len])
 exact Prod.ext (EncI.inj h.1) (EncI.inj h.2), fun us h => by
 obtain ⟨h1, h2⟩ := shp_app h
 obtain ⟨x, hx⟩ := EncI.sur _ h1
 obtain ⟨y, hy⟩ := EncI.sur _ h2
 exact ⟨(x, y), by show Enc.f x ++ Enc.f y = us;rw [hx, hy, List.take_append_drop]⟩⟩
theorem eqC_enc {α : Type} [Enc α] [EncI α] {x y : α} {b : Bool} (h : eqC (Enc.f x) (Enc.f y) = b) : if b = true then x = y else x ≠ y := by
 cases b with
 | true => exact EncI.inj ((eqC_eq (EncI.sh x) (EncI.sh y)).1 h)
 | false =>
  rw [if_neg (by decide)]
  intro e
  rw [e, eqC_self] at h
  cases h
inductive ResV (P : Program) (l : List (Nat × Value)) (w : World) : ResultVar → Value → Prop
 | tmp {t : Nat} {v : Value} (h : lk l t = some v) : ResV P l w (.tmp t) v
 | cell {t T b o : Nat} {v : Value} (h : lk l t = some (.pointer (some ⟨b, o, none⟩))) (hv : (Instr.loadAt T (.pointer (some ⟨b, o, none⟩))).run P w = .ok v w) : ResV P l w (.cell t T) v
section
variable {P : Program} {a : Act} {w : World} {w0 : Bs} {n : Nat} {l : List (Nat × Value)} {L L' : List HP} {fn : Func} {R : Value → World → Prop}
def rvOf (tmps : Array Value) : ResultVar → Sem Value
 | .tmp t => pure (tmps.getD t undef)
 | .cell x t => do loadVar t (← asAddr (tmps.getD x undef))
theorem results_rv (fn : Func) (tmps : Array Value) : results fn tmps = (do
  let vs ← fn.results.mapM (rvOf tmps)
  pure (if h : vs.size = 1 then vs[0] else .tuple vs)) := rfl
theorem ResV.run {r : ResultVar} {v : Value} (hk : Kn df n a l) (h : ResV P l w r v) : (rvOf a.tmps r).run P w = .ok v w := by
 cases h with
 | tmp h =>
  have := hk.get _ _ h
  simp [rvOf]
  simpa using this
 | cell h hv =>
  simp only [Instr.loadAt, Instr.sureAddr] at hv
  have hp := hk.get _ _ h
  simp at hv
  unfold rvOf
  simp only [hp]
  simp [asAddr, hv]
theorem ResV.one {t T b o : Nat} {v : Value} {vs : List Value} {T' : TypeId} (hS : St w0 L w) (h : lk l t = some (.pointer (some ⟨b, o, none⟩)) := by rfl) (hat : At (pts b vs T') L L' := by (repeat (first | exact At.here | apply At.there))) (hT : aggOf P T = some false) (hv : vs[o]? = some v := by rfl) : ResV P l w (.cell t T) v :=
 .cell h (run_load1 hT (by rw [cell_of_row w b o _ T' _ (pts.block (hS.rd hat))];simpa using hv))
theorem ResV.str {t T b o k : Nat} {vs us : List Value} {T' : TypeId} (hS : St w0 L w) (h : lk l t = some (.pointer (some ⟨b, o, none⟩)) := by rfl) (hat : At (pts b vs T') L L' := by (repeat (first | exact At.here | apply At.there))) (hT : aggOf P T = some true) (hs : szOf P T = some k)
  (hus : (vs.drop o).take k = us := by rfl) (hl : us.length = k := by rfl) : ResV P l w (.cell t T) (.agg us.toArray) :=
 .cell h (run_loadN hT (by rw [hl];exact hs) (by have hc := Cells.of_block (pts.block (hS.rd hat)) o k;rw [hus] at hc;exact hc))
theorem done1R {r : ResultVar} {v : Value} (hk : Kn [] n a l) (hr : fn.results = #[r]) (h1 : ResV P l w r v) (h : R v w) : Done P fn R .ret a w := by
 refine bodyPost_ret (v := v) ?_ hk.defers ⟨_, rfl, h⟩
 have e1 := h1.run hk
 rw [results_rv, hr]
 simp [e1]
theorem done3R {r r' r'' : ResultVar} {v v' v'' : Value} (hk : Kn [] n a l) (hr : fn.results = #[r, r', r'']) (h1 : ResV P l w r v) (h2 : ResV P l w r' v') (h3 : ResV P l w r'' v'') (h : R (.tuple #[v, v', v'']) w) : Done P fn R .ret a w := by
 refine bodyPost_ret (v := .tuple #[v, v', v'']) ?_ hk.defers ⟨_, rfl, h⟩
 have e1 := h1.run hk
 have e2 := h2.run hk
 have e3 := h3.run hk
 rw [results_rv, hr]
 simp [e1, e2, e3]
end
end Go.Proofs.YtnjmonkehjlaoaaGreatDoor
namespace Go.Proofs.YtnjmonkehjlaoaaGreatDoor
variable {df : List Deferred}
open Go.RowKit
section
variable {α : Type} [Enc α]
theorem St.ownCells {w0 : Bs} {w : World} {L L' : List HP} {E : TypeId} {xs : List α} {v : Value} (hS : St w0 L w) (hat : At (OwT E xs v) L L') (h0 : xs ≠ []) :
  ∃ b off cap, v = .slice (some ⟨b, off, none⟩) xs.length cap ∧ (∀ j u, (enc xs)[j]? = some u → w.cell? ⟨b, off + j, none⟩ = some u) ∧ ∀ j, w.frozen? ⟨b, j, none⟩ = false := by
 obtain ⟨F, h1, h2, h3, h4⟩ := hS.rd hat
 rcases h3 with ⟨_, hx⟩ | ⟨b, off, cap, cur, rfl, hF, hF', hb, hn, hc, hs, hcell⟩
 ·exact absurd (List.eq_nil_of_length_eq_zero hx) h0
 ·refine ⟨b, off, cap, rfl, fun j u hj => ?_, fun j => frozen_of_row w b j _ E hb⟩
  rw [cell_of_row w b (off + j) _ E _ hb]
  exact hcell j u hj
end
section
variable {P : Program} {a : Act} {w : World} {w0 : Bs} {n : Nat} {l : List (Nat × Value)} {L L' : List HP}
 {dst : Option Nat} {R : Value → World → Prop} {ty : TypeId} {pos : String} {af : Array Edge} {g : Option (Nat × Bool)}
end
end Go.Proofs.YtnjmonkehjlaoaaGreatDoor
