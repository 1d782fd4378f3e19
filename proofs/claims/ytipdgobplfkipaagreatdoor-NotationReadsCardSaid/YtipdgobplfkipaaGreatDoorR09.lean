/- Lists of what has a key, by rising keys: plain laws, no program in sight. -/
import Derived.Test.YtipdgobplfkipaaGreatDoorR05
set_option linter.all false
namespace Go.Proofs.YtipdgobplfkipaaGreatDoor

section
variable {α κ : Type} [Lin κ] (key : α → κ)

theorem Lin.asym {a b : κ} (h : Lin.lt a b = true) : Lin.lt b a = false := by
  cases h2 : Lin.lt b a with
  | false => rfl
  | true => have := Lin.tr h h2; rw [Lin.irr] at this; cases this
theorem Lin.ne {a b : κ} (h : Lin.lt a b = true) : a ≠ b := fun e => by subst e; rw [Lin.irr] at h; cases h
theorem Lin.gt {a b : κ} (h : Lin.lt a b = false) (hn : a ≠ b) : Lin.lt b a = true := by
  cases h2 : Lin.lt b a with
  | true => rfl
  | false => exact absurd (Lin.tri h h2) hn
def cmpF (a b : κ) : Int := if Lin.lt a b = true then -1 else if Lin.lt b a = true then 1 else 0
theorem cmp_lt {a b : κ} (h : Lin.lt a b = true) : cmpF a b = -1 := if_pos h
theorem cmp_ge {a b : κ} (h : Lin.lt a b = false) : ¬ cmpF a b < 0 := by
  unfold cmpF
  rw [if_neg (by rw [h]; decide)]
  split <;> decide
theorem cmp_eq {a b : κ} : cmpF a b = 0 ↔ a = b := by
  unfold cmpF
  constructor
  · intro h
    split at h
    · cases h
    · split at h
      · cases h
      · exact Lin.tri (by simpa using ‹¬ Lin.lt a b = true›) (by simpa using ‹¬ Lin.lt b a = true›)
  · intro h
    subst h
    rw [if_neg (by rw [Lin.irr]; decide), if_neg (by rw [Lin.irr]; decide)]

def putF : List α → α → List α
  | [], e => [e]
  | x :: r, e => if Lin.lt (key e) (key x) = true then e :: x :: r else if key e = key x then e :: r else x :: putF r e
def snapF (l : List α) : List α := l.foldl (putF key) []
def lastF (l : List α) (k : κ) : Option α := l.reverse.find? (fun e => decide (key e = k))
def Rises (s : List α) : Prop := s.Pairwise (fun x y => Lin.lt (key x) (key y) = true)

theorem snap_snoc (l : List α) (e : α) : snapF key (l ++ [e]) = putF key (snapF key l) e := by simp [snapF]
theorem last_snoc (l : List α) (e : α) (k : κ) : lastF key (l ++ [e]) k = if key e = k then some e else lastF key l k := by
  simp only [lastF, List.reverse_append, List.reverse_cons, List.reverse_nil, List.nil_append, List.cons_append, List.find?_cons]
  by_cases h : key e = k <;> simp [h]
theorem last_key {l : List α} {k : κ} {e : α} (h : lastF key l k = some e) : key e = k := by
  have := List.find?_some h
  simpa using this
theorem last_mem {l : List α} {k : κ} {e : α} (h : lastF key l k = some e) : e ∈ l := by
  have := List.mem_of_find?_eq_some h
  simpa using this
theorem last_of_mem {l : List α} {e : α} (h : e ∈ l) : ∃ x, lastF key l (key e) = some x := by
  have : ((l.reverse.find? (fun x => decide (key x = key e))).isSome) = true := by
    rw [List.find?_isSome]
    exact ⟨e, by simpa using h, by simp⟩
  exact Option.isSome_iff_exists.1 this

theorem put_mem : ∀ {s : List α} {e x : α}, Rises key s → (x ∈ putF key s e ↔ x = e ∨ (x ∈ s ∧ key x ≠ key e))
  | [], e, x, _ => by simp [putF]
  | y :: r, e, x, h => by
    have h1 := (List.pairwise_cons.1 h).1
    have h2 := (List.pairwise_cons.1 h).2
    unfold putF
    by_cases hlt : Lin.lt (key e) (key y) = true
    · rw [if_pos hlt]
      have hy : key y ≠ key e := fun h => Lin.ne hlt h.symm
      have hr : ∀ z ∈ r, key z ≠ key e := fun z hz h => Lin.ne (Lin.tr hlt (h1 z hz)) h.symm
      simp only [List.mem_cons]
      constructor
      · rintro (h | h | h)
        · exact .inl h
        · exact .inr ⟨.inl h, by rw [h]; exact hy⟩
        · exact .inr ⟨.inr h, hr x h⟩
      · rintro (h | ⟨h | h, _⟩)
        · exact .inl h
        · exact .inr (.inl h)
        · exact .inr (.inr h)
    · rw [if_neg hlt]
      have hf : Lin.lt (key e) (key y) = false := by simpa using hlt
      by_cases he : key e = key y
      · rw [if_pos he]
        have hr : ∀ z ∈ r, key z ≠ key e := fun z hz h => Lin.ne (h1 z hz) (by rw [h, he])
        simp only [List.mem_cons]
        constructor
        · rintro (h | h)
          · exact .inl h
          · exact .inr ⟨.inr h, hr x h⟩
        · rintro (h | ⟨h | h, hn⟩)
          · exact .inl h
          · exact absurd (by rw [h, he]) hn
          · exact .inr h
      · rw [if_neg he]
        have ih := put_mem (e := e) (x := x) h2
        have hy : key y ≠ key e := fun h => he h.symm
        simp only [List.mem_cons, ih]
        constructor
        · rintro (h | h | ⟨h, hn⟩)
          · exact .inr ⟨.inl h, by rw [h]; exact hy⟩
          · exact .inl h
          · exact .inr ⟨.inr h, hn⟩
        · rintro (h | ⟨h | h, hn⟩)
          · exact .inr (.inl h)
          · exact .inl h
          · exact .inr (.inr ⟨h, hn⟩)

theorem put_rises : ∀ {s : List α} {e : α}, Rises key s → Rises key (putF key s e)
  | [], e, _ => by simp [putF, Rises]
  | y :: r, e, h => by
    have h1 := (List.pairwise_cons.1 h).1
    have h2 := (List.pairwise_cons.1 h).2
    unfold putF
    by_cases hlt : Lin.lt (key e) (key y) = true
    · rw [if_pos hlt]
      exact List.pairwise_cons.2 ⟨fun z hz => by
        rcases List.mem_cons.1 hz with h | h
        · rw [h]; exact hlt
        · exact Lin.tr hlt (h1 z h), h⟩
    · rw [if_neg hlt]
      have hf : Lin.lt (key e) (key y) = false := by simpa using hlt
      by_cases he : key e = key y
      · rw [if_pos he]
        exact List.pairwise_cons.2 ⟨fun z hz => by rw [he]; exact h1 z hz, h2⟩
      · rw [if_neg he]
        refine List.pairwise_cons.2 ⟨fun z hz => ?_, put_rises h2⟩
        rcases (put_mem key h2).1 hz with h | ⟨h, _⟩
        · rw [h]; exact Lin.gt hf he
        · exact h1 z h

theorem snap_rises (l : List α) : Rises key (snapF key l) := by
  have : ∀ (l s : List α), Rises key s → Rises key (l.foldl (putF key) s) := by
    intro l
    induction l with
    | nil => exact fun _ h => h
    | cons x l ih => exact fun s h => ih _ (put_rises key h)
  exact this l [] List.Pairwise.nil

theorem snap_last {l : List α} : ∀ {x : α}, x ∈ snapF key l ↔ lastF key l (key x) = some x := by
  have : ∀ (r : List α) (x : α), x ∈ snapF key r.reverse ↔ lastF key r.reverse (key x) = some x := by
    intro r
    induction r with
    | nil => intro x; simp [snapF, lastF]
    | cons e r ih =>
      intro x
      rw [List.reverse_cons, snap_snoc, last_snoc, put_mem key (snap_rises key _)]
      by_cases h : key e = key x
      · rw [if_pos h]
        constructor
        · rintro (h1 | ⟨_, h2⟩)
          · rw [h1]
          · exact absurd h.symm h2
        · intro h1; injection h1 with h1; exact .inl h1.symm
      · rw [if_neg h, ← ih]
        constructor
        · rintro (h1 | ⟨h1, _⟩)
          · exact absurd (by rw [h1]) h
          · exact h1
        · exact fun h1 => .inr ⟨h1, fun h2 => h h2.symm⟩
  have h := this l.reverse
  simpa using h

theorem rises_ext : ∀ {s t : List α}, Rises key s → Rises key t → (∀ x, x ∈ s ↔ x ∈ t) → s = t
  | [], [], _, _, _ => rfl
  | [], y :: t, _, _, h => absurd ((h y).2 (by simp)) (by simp)
  | x :: s, [], _, _, h => absurd ((h x).1 (by simp)) (by simp)
  | x :: s, y :: t, hs, ht, h => by
    have s1 := (List.pairwise_cons.1 hs).1
    have t1 := (List.pairwise_cons.1 ht).1
    have e : x = y := by
      rcases List.mem_cons.1 ((h x).1 (by simp)) with e | hx
      · exact e
      · rcases List.mem_cons.1 ((h y).2 (by simp)) with e | hy
        · exact e.symm
        · have := Lin.tr (t1 x hx) (s1 y hy)
          rw [Lin.irr] at this; cases this
    subst e
    congr 1
    refine rises_ext (List.pairwise_cons.1 hs).2 (List.pairwise_cons.1 ht).2 (fun z => ?_)
    constructor
    · intro hz
      rcases List.mem_cons.1 ((h z).1 (List.mem_cons_of_mem _ hz)) with e | h'
      · subst e; have := s1 z hz; rw [Lin.irr] at this; cases this
      · exact h'
    · intro hz
      rcases List.mem_cons.1 ((h z).2 (List.mem_cons_of_mem _ hz)) with e | h'
      · subst e; have := t1 z hz; rw [Lin.irr] at this; cases this
      · exact h'

theorem rises_key {s : List α} (h : Rises key s) {x y : α} (hx : x ∈ s) (hy : y ∈ s) (e : key x = key y) : x = y := by
  induction s with
  | nil => cases hx
  | cons z r ih =>
    have h1 := (List.pairwise_cons.1 h).1
    rcases List.mem_cons.1 hx with hx | hx <;> rcases List.mem_cons.1 hy with hy | hy
    · rw [hx, hy]
    · rw [hx] at e; exact absurd e (Lin.ne (h1 y hy))
    · rw [hy] at e; exact absurd e.symm (Lin.ne (h1 x hx))
    · exact ih (List.pairwise_cons.1 h).2 hx hy

theorem rises_last {s : List α} (h : Rises key s) {x : α} (hx : x ∈ s) : lastF key s (key x) = some x := by
  obtain ⟨y, hy⟩ := last_of_mem key hx
  rw [hy, rises_key key h (last_mem key hy) hx (last_key key hy)]

theorem snap_of_rises {s : List α} (h : Rises key s) : snapF key s = s := by
  refine rises_ext key (snap_rises key s) h (fun x => ?_)
  rw [snap_last]
  constructor
  · exact fun h' => last_mem key h'
  · exact fun h' => rises_last key h h'
theorem snap_snap (l : List α) : snapF key (snapF key l) = snapF key l := snap_of_rises key (snap_rises key l)

theorem put_len (s : List α) (e : α) : (putF key s e).length ≤ s.length + 1 := by
  induction s with
  | nil => simp [putF]
  | cons x r ih =>
    unfold putF
    split
    · simp
    · split
      · simp
      · simpa using ih
theorem snap_len (l : List α) : (snapF key l).length ≤ l.length := by
  have : ∀ (l s : List α), (l.foldl (putF key) s).length ≤ s.length + l.length := by
    intro l
    induction l with
    | nil => intro s; simp
    | cons x l ih =>
      intro s
      have h1 := ih (putF key s x)
      have h2 := put_len key s x
      rw [List.foldl_cons, List.length_cons]
      omega
  have h := this l []
  rw [List.length_nil, Nat.zero_add] at h
  exact h

def Found (s : List α) (k : κ) (n : Nat) (f : Bool) : Prop :=
  n ≤ s.length ∧ (∀ i (h : i < s.length), i < n → Lin.lt (key s[i]) k = true) ∧ (∀ i (h : i < s.length), n ≤ i → Lin.lt (key s[i]) k = false) ∧ (f = true ↔ ∃ h : n < s.length, key s[n] = k)

theorem found_set : ∀ {s : List α} {e : α} {n : Nat}, Found key s (key e) n true → n < s.length ∧ s.set n e = putF key s e
  | [], e, n, ⟨_, _, _, h⟩ => by obtain ⟨h, _⟩ := h.1 rfl; simp at h
  | x :: r, e, 0, ⟨_, _, h3, h⟩ => by
    obtain ⟨_, h⟩ := h.1 rfl
    refine ⟨by simp, ?_⟩
    simp only [List.getElem_cons_zero] at h
    unfold putF
    rw [if_neg (by rw [h, Lin.irr]; decide), if_pos h.symm]
    rfl
  | x :: r, e, n + 1, ⟨h1, h2, h3, h⟩ => by
    have hx := h2 0 (by simp) (by omega)
    simp only [List.getElem_cons_zero] at hx
    obtain ⟨h4, h5⟩ := h.1 rfl
    obtain ⟨g1, g2⟩ := found_set (s := r) (e := e) (n := n) ⟨by simpa using h1, fun i hi hin => by have := h2 (i + 1) (by simpa using hi) (by omega); simpa using this,
      fun i hi hin => by have := h3 (i + 1) (by simpa using hi) (by omega); simpa using this, by simpa using ⟨by simpa using h4, h5⟩⟩
    refine ⟨by simpa using g1, ?_⟩
    unfold putF
    rw [if_neg (by rw [Lin.asym hx]; decide), if_neg (fun h => Lin.ne hx h.symm), List.set_cons_succ, g2]

theorem found_ins : ∀ {s : List α} {e : α} {n : Nat}, Found key s (key e) n false → n ≤ s.length ∧ s.take n ++ e :: s.drop n = putF key s e
  | [], e, n, ⟨h, _⟩ => by
    have : n = 0 := by simpa using h
    subst this
    exact ⟨by simp, by simp [putF]⟩
  | x :: r, e, 0, ⟨_, _, h3, h⟩ => by
    refine ⟨by simp, ?_⟩
    have h4 := h3 0 (by simp) (by omega)
    simp only [List.getElem_cons_zero] at h4
    have h5 : key x ≠ key e := fun h6 => by
      have := h.2 ⟨by simp, h6⟩
      cases this
    unfold putF
    rw [if_pos (Lin.gt h4 h5)]
    simp
  | x :: r, e, n + 1, ⟨h1, h2, h3, h⟩ => by
    have hx := h2 0 (by simp) (by omega)
    simp only [List.getElem_cons_zero] at hx
    obtain ⟨g1, g2⟩ := found_ins (s := r) (e := e) (n := n) ⟨by simpa using h1, fun i hi hin => by have := h2 (i + 1) (by simpa using hi) (by omega); simpa using this,
      fun i hi hin => by have := h3 (i + 1) (by simpa using hi) (by omega); simpa using this, by
        constructor
        · intro h; cases h
        · rintro ⟨h4, h5⟩
          exact h.2 ⟨by simpa using h4, by simpa using h5⟩⟩
    refine ⟨by simpa using g1, ?_⟩
    unfold putF
    rw [if_neg (by rw [Lin.asym hx]; decide), if_neg (fun h => Lin.ne hx h.symm), ← g2]
    simp

def aheadB (after : Option κ) (k : κ) : Bool := match after with | none => true | some a => Lin.lt a k
def minStep (after m : Option κ) (k : κ) : Option κ :=
  if aheadB after k = true then (match m with | none => some k | some b => if Lin.lt k b = true then some k else some b) else m
def minF (l : List α) (after : Option κ) : Option κ := l.foldl (fun m e => minStep after m (key e)) none
theorem min_snoc (l : List α) (e : α) (after : Option κ) : minF key (l ++ [e]) after = minStep after (minF key l after) (key e) := by simp [minF]

theorem min_is (l : List α) (after : Option κ) : match minF key l after with
    | none => ∀ e ∈ l, aheadB after (key e) = false
    | some b => aheadB after b = true ∧ (∃ e ∈ l, key e = b) ∧ ∀ e ∈ l, aheadB after (key e) = true → Lin.lt (key e) b = false := by
  have : ∀ r : List α, match minF key r.reverse after with
    | none => ∀ e ∈ r, aheadB after (key e) = false
    | some b => aheadB after b = true ∧ (∃ e ∈ r, key e = b) ∧ ∀ e ∈ r, aheadB after (key e) = true → Lin.lt (key e) b = false := by
    intro r
    induction r with
    | nil => simp [minF]
    | cons e r ih =>
      rw [List.reverse_cons, min_snoc]
      unfold minStep
      cases hm : minF key r.reverse after with
      | none =>
        rw [hm] at ih
        simp only at ih ⊢
        by_cases ha : aheadB after (key e) = true
        · rw [if_pos ha]
          refine ⟨ha, ⟨e, by simp, rfl⟩, fun x hx hax => ?_⟩
          rcases List.mem_cons.1 hx with h | h
          · rw [h, Lin.irr]
          · rw [ih x h] at hax; cases hax
        · rw [if_neg ha]
          intro x hx
          rcases List.mem_cons.1 hx with h | h
          · rw [h]; simpa using ha
          · exact ih x h
      | some b =>
        rw [hm] at ih
        simp only at ih ⊢
        obtain ⟨h1, ⟨y, h2, h3⟩, h4⟩ := ih
        by_cases ha : aheadB after (key e) = true
        · rw [if_pos ha]
          by_cases hlt : Lin.lt (key e) b = true
          · rw [if_pos hlt]
            refine ⟨ha, ⟨e, by simp, rfl⟩, fun x hx hax => ?_⟩
            rcases List.mem_cons.1 hx with h | h
            · rw [h, Lin.irr]
            · cases h5 : Lin.lt (key x) (key e) with
              | false => rfl
              | true => have := h4 x h hax; rw [Lin.tr h5 hlt] at this; cases this
          · rw [if_neg hlt]
            refine ⟨h1, ⟨y, by simp [h2], h3⟩, fun x hx hax => ?_⟩
            rcases List.mem_cons.1 hx with h | h
            · rw [h]; simpa using hlt
            · exact h4 x h hax
        · rw [if_neg ha]
          refine ⟨h1, ⟨y, by simp [h2], h3⟩, fun x hx hax => ?_⟩
          rcases List.mem_cons.1 hx with h | h
          · rw [h] at hax; exact absurd hax ha
          · exact h4 x h hax
  have h := this l.reverse
  simpa using h

theorem min_next (l : List α) (k : Nat) (hk : k ≤ (snapF key l).length) : minF key l (((snapF key l).take k).getLast?.map key) = ((snapF key l)[k]?).map key := by
  have hr := snap_rises key l
  have hp := List.pairwise_iff_getElem.1 hr
  have hin : ∀ e ∈ l, ∃ i, ∃ h : i < (snapF key l).length, key (snapF key l)[i] = key e := by
    intro e he
    obtain ⟨x, hx⟩ := last_of_mem key he
    have hkx := last_key key hx
    have hm : x ∈ snapF key l := (snap_last key).2 (by rw [hkx]; exact hx)
    obtain ⟨i, hi, hix⟩ := List.getElem_of_mem hm
    exact ⟨i, hi, by rw [hix, hkx]⟩
  have hout : ∀ i (h : i < (snapF key l).length), (snapF key l)[i] ∈ l := fun i h => last_mem key ((snap_last key).1 (List.getElem_mem h))
  generalize snapF key l = S at *
  have ha : ∀ i (h : i < S.length), aheadB ((S.take k).getLast?.map key) (key S[i]) = decide (k ≤ i) := by
    intro i hi
    by_cases h0 : k = 0
    · subst h0; simp [aheadB]
    · have e1 : (S.take k).getLast? = some (S[k - 1]'(by omega)) := by
        rw [List.getLast?_eq_getElem?, List.length_take, Nat.min_eq_left hk, List.getElem?_take, if_pos (by omega), List.getElem?_eq_getElem (by omega)]
      rw [e1]
      simp only [Option.map_some, aheadB]
      by_cases hik : k ≤ i
      · rw [hp (k - 1) i (by omega) hi (by omega)]; simp [hik]
      · rw [decide_eq_false hik]
        by_cases he : i = k - 1
        · subst he; exact Lin.irr _
        · exact Lin.asym (hp i (k - 1) hi (by omega) (by omega))
  have hm := min_is key l ((S.take k).getLast?.map key)
  cases hmin : minF key l ((S.take k).getLast?.map key) with
  | none =>
    rw [hmin] at hm
    simp only at hm
    have : S.length ≤ k := by
      rcases Nat.lt_or_ge k S.length with h | h
      · have h1 := hm _ (hout k h)
        rw [ha k h] at h1
        simp at h1
      · exact h
    rw [List.getElem?_eq_none this]
    rfl
  | some b =>
    rw [hmin] at hm
    simp only at hm
    obtain ⟨h1, ⟨e, h2, h3⟩, h4⟩ := hm
    obtain ⟨i, hi, hie⟩ := hin e h2
    have hki : k ≤ i := by
      have := ha i hi
      rw [hie, h3, h1] at this
      simpa using this.symm
    have hkl : k < S.length := by omega
    have h5 := h4 _ (hout k hkl) (by rw [ha k hkl]; simp)
    rw [List.getElem?_eq_getElem hkl, Option.map_some]
    congr 1
    rcases Nat.lt_or_eq_of_le hki with h | h
    · have := hp k i hkl hi h
      rw [hie, h3, h5] at this
      cases this
    · subst h; rw [hie, h3]

def minStepE (after : Option κ) (m : Option α) (e : α) : Option α :=
  if aheadB after (key e) = true then (match m with | none => some e | some b => if Lin.lt (key b) (key e) = true then some b else some e) else m
def minE (l : List α) (after : Option κ) : Option α := l.foldl (minStepE key after) none
theorem minE_snoc (l : List α) (e : α) (after : Option κ) : minE key (l ++ [e]) after = minStepE key after (minE key l after) e := by simp [minE]

theorem minE_is (l : List α) (after : Option κ) : minE key l after = (minF key l after).bind (lastF key l) := by
  have : ∀ r : List α, minE key r.reverse after = (minF key r.reverse after).bind (lastF key r.reverse) := by
    intro r
    induction r with
    | nil => rfl
    | cons e r ih =>
      rw [List.reverse_cons, minE_snoc, min_snoc, ih]
      have hm := min_is key r.reverse after
      unfold minStepE minStep
      cases hmf : minF key r.reverse after with
      | none =>
        rw [hmf] at hm
        by_cases ha : aheadB after (key e) = true
        · rw [if_pos ha, if_pos ha]
          simp [last_snoc]
        · rw [if_neg ha, if_neg ha]
          rfl
      | some b =>
        rw [hmf] at hm
        simp only at hm
        obtain ⟨h1, ⟨y, h2, h3⟩, h4⟩ := hm
        obtain ⟨x, hx⟩ := last_of_mem key h2
        rw [h3] at hx
        have hkx := last_key key hx
        simp only [Option.bind_some, hx, hkx]
        by_cases ha : aheadB after (key e) = true
        · rw [if_pos ha, if_pos ha]
          by_cases hlt : Lin.lt (key e) b = true
          · rw [if_pos hlt, if_neg (by rw [Lin.asym hlt]; decide)]
            simp [last_snoc]
          · rw [if_neg hlt]
            have hf : Lin.lt (key e) b = false := by simpa using hlt
            by_cases he : key e = b
            · rw [if_neg (by rw [he, Lin.irr]; decide)]
              simp [last_snoc, he]
            · rw [if_pos (Lin.gt hf he)]
              simp [last_snoc, he, hx]
        · rw [if_neg ha, if_neg ha]
          have he : key e ≠ b := fun h => ha (by rw [h]; exact h1)
          simp [last_snoc, he, hx]
  have h := this l.reverse
  simpa using h

theorem minE_next (l : List α) (k : Nat) (hk : k ≤ (snapF key l).length) : minE key l (((snapF key l).take k).getLast?.map key) = (snapF key l)[k]? := by
  rw [minE_is, min_next key l k hk]
  cases h : (snapF key l)[k]? with
  | none => rfl
  | some x =>
    simp only [Option.map_some, Option.bind_some]
    exact (snap_last key).1 (List.mem_of_getElem? h)

end
end Go.Proofs.YtipdgobplfkipaaGreatDoor
