/- From the form's reading of plain arguments to what they are. Lists of what has a key, by rising keys: plain laws, no program in sight. -/
import Derived.Test.YthodcfdgahfniaaGreatV06
import Derived.Test.YthodcfdgahfniaaGreatV05
set_option linter.all false
namespace Go.Proofs.YthodcfdgahfniaaGreat
open Go.RowKit

theorem shp_fold {P : Program} {d : Nat} {cs : List Value} : ∀ (fs : List Field) (off : Nat) (ks : List SK) (off' : Nat) (ks' : List SK), fs.foldl (stepF P (flatT P d)) (some (off, ks)) = some (off', ks') → off = ks.length →
    (∀ f ∈ fs, ∀ k1, flatT P d f.type = some k1 → szOf P f.type = some k1.length → shp k1 ((cs.drop f.offset).take k1.length) = true) → shp ks (cs.take off) = true → shp ks' (cs.take off') = true ∧ off' = ks'.length
  | [], off, ks, off', ks', h, ho, _, h1 => by
    simp at h
    obtain ⟨rfl, rfl⟩ := h
    exact ⟨h1, ho⟩
  | f :: fs, off, ks, off', ks', h, ho, hf, h1 => by
    simp only [List.foldl_cons] at h
    cases hs : stepF P (flatT P d) (some (off, ks)) f with
    | none => rw [hs, stepF_none] at h; cases h
    | some p =>
      obtain ⟨o2, k2⟩ := p
      rw [hs] at h
      unfold stepF at hs
      cases hfl : flatT P d f.type with
      | none => rw [hfl] at hs; simp at hs
      | some k1 =>
        rw [hfl] at hs
        simp only at hs
        cases hz : szOf P f.type with
        | none => rw [hz] at hs; simp at hs
        | some s =>
          rw [hz] at hs
          simp only at hs
          rw [Bool.cond_eq_ite] at hs
          split at hs
          · rename_i hc
            simp only [Option.some.injEq, Prod.mk.injEq] at hs
            obtain ⟨e1, e2⟩ := hs
            simp only [Bool.and_eq_true] at hc
            obtain ⟨⟨⟨⟨_, c2⟩, c3⟩, _⟩, _⟩ := hc
            have hoff : f.offset = off := Nat.eq_of_beq_eq_true c2
            have hsz : szOf P f.type = some k1.length := by rw [hz, Nat.eq_of_beq_eq_true c3]
            subst e1 e2
            refine shp_fold fs (off + k1.length) (ks ++ k1) off' ks' h (by rw [List.length_append, ho]) (fun g hg => hf g (by simp [hg])) ?_
            have h2 := hf f (by simp) k1 hfl hsz
            rw [hoff] at h2
            rw [List.take_add]
            exact shp_join h1 h2
          · cases hs

theorem shp_rdg {P : Program} {W : World} : ∀ (d D : Nat) (T : TypeId) (ks : List SK) (us : List Value), flatT P d T = some ks → szOf P T = some ks.length → d ≤ D → Rdg P W D T us → shp ks us = true
  | 0, _, _, _, _, h, _, _, _ => by simp [flatT] at h
  | d + 1, 0, _, _, _, _, _, h, _ => by omega
  | d + 1, D + 1, T, ks, us, h, hz, hd, hr => by
    unfold flatT at h
    unfold Rdg at hr
    cases hu : P.underlying T with
    | none => rw [hu] at h; cases h
    | some dsc =>
      rw [hu] at h hr
      cases dsc <;> simp only [reduceCtorEq] at h
      case bool =>
        obtain ⟨b, rfl⟩ := hr
        injection h with h; subst h; rfl
      case int k =>
        obtain ⟨n, rfl, _⟩ := hr
        injection h with h; subst h; simp [shp]
      case string =>
        obtain ⟨s, rfl, _⟩ := hr
        injection h with h; subst h; rfl
      case struct fs =>
        cases hst : P.stoodInHeld T with
        | true => rw [hst] at h; simp at h
        | false =>
          rw [hst] at h
          simp only [cond_false, Option.map_eq_some_iff] at h
          obtain ⟨⟨off', ks'⟩, h1, rfl⟩ := h
          obtain ⟨h2, h3⟩ := shp_fold (cs := us) fs.toList 0 [] off' ks' h1 rfl (fun f hf k1 hk hs => by
            have := hr.2 f hf
            rw [cellsOf_sz hs] at this
            exact shp_rdg d D f.type k1 _ hk hs (by omega) this) (by simp [shp])
          have hl := hr.1
          rw [cellsOf_sz hz] at hl
          rw [List.take_of_length_le (by simp only at hl; omega)] at h2
          exact h2

section
variable {α : Type} [Enc α] [EncI α] {P : Program} {W : World}
theorem SlT.of_rdgF {D : Nat} {T e : TypeId} {cs : List Value} (h : Rdg P W (D + 1) T cs) (hT : elOf P T = some e) (hz : szOf P e = some (Enc.k α + 1)) (hf : flatT P 6 e = some (EncI.ks α)) (hD : 6 ≤ D) :
    ∃ v, ∃ xs : List α, cs = [v] ∧ SlT xs v W := by
  obtain ⟨v, xs, h1, h2, _⟩ := SlT.of_rdg (α := α) (fun _ => True) h hT hz (fun us hl hr => by
    have := shp_rdg 6 D e (EncI.ks α) us hf (by rw [hz, EncI.kl]) hD hr
    obtain ⟨x, hx⟩ := EncI.sur us this
    exact ⟨x, hx, trivial⟩)
  exact ⟨v, xs, h1, h2⟩
end
end Go.Proofs.YthodcfdgahfniaaGreat
namespace Go.Proofs.YthodcfdgahfniaaGreat

section
variable {α κ : Type} [Lin κ] (key : α → κ)

theorem Lin.asym {a b : κ} (h : Lin.lt a b = true) : Lin.lt b a = false := by
  cases h2 : Lin.lt b a with
  | false => rfl
  | true => have := Lin.tr h h2; rw [Lin.irr] at this; cases this
theorem Lin.ne {a b : κ} (h : Lin.lt a b = true) : a ≠ b := fun e => by subst e; rw [Lin.irr] at h; cases h
theorem Lin.gt {a b : κ} (h : Lin.lt a b = false) (hn : a ≠ b) : Lin.lt b a = true := by
  cases h2 : Lin.lt b a with
  | true => rfl
  | false => exact absurd (Lin.tri h h2) hn
def cmpF (a b : κ) : Int := if Lin.lt a b = true then -1 else if Lin.lt b a = true then 1 else 0
theorem cmp_lt {a b : κ} (h : Lin.lt a b = true) : cmpF a b = -1 := if_pos h
theorem cmp_ge {a b : κ} (h : Lin.lt a b = false) : ¬ cmpF a b < 0 := by
  unfold cmpF
  rw [if_neg (by rw [h]; decide)]
  split <;> decide
theorem cmp_eq {a b : κ} : cmpF a b = 0 ↔ a = b := by
  unfold cmpF
  constructor
  · intro h
    split at h
    · cases h
    · split at h
      · cases h
      · exact Lin.tri (by simpa using ‹¬ Lin.lt a b = true›) (by simpa using ‹¬ Lin.lt b a = true›)
  · intro h
    subst h
    rw [if_neg (by rw [Lin.irr]; decide), if_neg (by rw [Lin.irr]; decide)]

def putF : List α → α → List α
  | [], e => [e]
  | x :: r, e => if Lin.lt (key e) (key x) = true then e :: x :: r else if key e = key x then e :: r else x :: putF r e
def snapF (l : List α) : List α := l.foldl (putF key) []
def lastF (l : List α) (k : κ) : Option α := l.reverse.find? (fun e => decide (key e = k))
def Rises (s : List α) : Prop := s.Pairwise (fun x y => Lin.lt (key x) (key y) = true)

theorem snap_snoc (l : List α) (e : α) : snapF key (l ++ [e]) = putF key (snapF key l) e := by simp [snapF]
theorem last_snoc (l : List α) (e : α) (k : κ) : lastF key (l ++ [e]) k = if key e = k then some e else lastF key l k := by
  simp only [lastF, List.reverse_append, List.reverse_cons, List.reverse_nil, List.nil_append, List.cons_append, List.find?_cons]
  by_cases h : key e = k <;> simp [h]
theorem last_key {l : List α} {k : κ} {e : α} (h : lastF key l k = some e) : key e = k := by
  have := List.find?_some h
  simpa using this
theorem last_mem {l : List α} {k : κ} {e : α} (h : lastF key l k = some e) : e ∈ l := by
  have := List.mem_of_find?_eq_some h
  simpa using this
theorem last_of_mem {l : List α} {e : α} (h : e ∈ l) : ∃ x, lastF key l (key e) = some x := by
  have : ((l.reverse.find? (fun x => decide (key x = key e))).isSome) = true := by
    rw [List.find?_isSome]
    exact ⟨e, by simpa using h, by simp⟩
  exact Option.isSome_iff_exists.1 this

theorem put_mem : ∀ {s : List α} {e x : α}, Rises key s → (x ∈ putF key s e ↔ x = e ∨ (x ∈ s ∧ key x ≠ key e))
  | [], e, x, _ => by simp [putF]
  | y :: r, e, x, h => by
    have h1 := (List.pairwise_cons.1 h).1
    have h2 := (List.pairwise_cons.1 h).2
    unfold putF
    by_cases hlt : Lin.lt (key e) (key y) = true
    · rw [if_pos hlt]
      have hy : key y ≠ key e := fun h => Lin.ne hlt h.symm
      have hr : ∀ z ∈ r, key z ≠ key e := fun z hz h => Lin.ne (Lin.tr hlt (h1 z hz)) h.symm
      simp only [List.mem_cons]
      constructor
      · rintro (h | h | h)
        · exact .inl h
        · exact .inr ⟨.inl h, by rw [h]; exact hy⟩
        · exact .inr ⟨.inr h, hr x h⟩
      · rintro (h | ⟨h | h, _⟩)
        · exact .inl h
        · exact .inr (.inl h)
        · exact .inr (.inr h)
    · rw [if_neg hlt]
      have hf : Lin.lt (key e) (key y) = false := by simpa using hlt
      by_cases he : key e = key y
      · rw [if_pos he]
        have hr : ∀ z ∈ r, key z ≠ key e := fun z hz h => Lin.ne (h1 z hz) (by rw [h, he])
        simp only [List.mem_cons]
        constructor
        · rintro (h | h)
          · exact .inl h
          · exact .inr ⟨.inr h, hr x h⟩
        · rintro (h | ⟨h | h, hn⟩)
          · exact .inl h
          · exact absurd (by rw [h, he]) hn
          · exact .inr h
      · rw [if_neg he]
        have ih := put_mem (e := e) (x := x) h2
        have hy : key y ≠ key e := fun h => he h.symm
        simp only [List.mem_cons, ih]
        constructor
        · rintro (h | h | ⟨h, hn⟩)
          · exact .inr ⟨.inl h, by rw [h]; exact hy⟩
          · exact .inl h
          · exact .inr ⟨.inr h, hn⟩
        · rintro (h | ⟨h | h, hn⟩)
          · exact .inr (.inl h)
          · exact .inl h
          · exact .inr (.inr ⟨h, hn⟩)

theorem put_rises : ∀ {s : List α} {e : α}, Rises key s → Rises key (putF key s e)
  | [], e, _ => by simp [putF, Rises]
  | y :: r, e, h => by
    have h1 := (List.pairwise_cons.1 h).1
    have h2 := (List.pairwise_cons.1 h).2
    unfold putF
    by_cases hlt : Lin.lt (key e) (key y) = true
    · rw [if_pos hlt]
      exact List.pairwise_cons.2 ⟨fun z hz => by
        rcases List.mem_cons.1 hz with h | h
        · rw [h]; exact hlt
        · exact Lin.tr hlt (h1 z h), h⟩
    · rw [if_neg hlt]
      have hf : Lin.lt (key e) (key y) = false := by simpa using hlt
      by_cases he : key e = key y
      · rw [if_pos he]
        exact List.pairwise_cons.2 ⟨fun z hz => by rw [he]; exact h1 z hz, h2⟩
      · rw [if_neg he]
        refine List.pairwise_cons.2 ⟨fun z hz => ?_, put_rises h2⟩
        rcases (put_mem key h2).1 hz with h | ⟨h, _⟩
        · rw [h]; exact Lin.gt hf he
        · exact h1 z h

theorem snap_rises (l : List α) : Rises key (snapF key l) := by
  have : ∀ (l s : List α), Rises key s → Rises key (l.foldl (putF key) s) := by
    intro l
    induction l with
    | nil => exact fun _ h => h
    | cons x l ih => exact fun s h => ih _ (put_rises key h)
  exact this l [] List.Pairwise.nil

theorem snap_last {l : List α} : ∀ {x : α}, x ∈ snapF key l ↔ lastF key l (key x) = some x := by
  have : ∀ (r : List α) (x : α), x ∈ snapF key r.reverse ↔ lastF key r.reverse (key x) = some x := by
    intro r
    induction r with
    | nil => intro x; simp [snapF, lastF]
    | cons e r ih =>
      intro x
      rw [List.reverse_cons, snap_snoc, last_snoc, put_mem key (snap_rises key _)]
      by_cases h : key e = key x
      · rw [if_pos h]
        constructor
        · rintro (h1 | ⟨_, h2⟩)
          · rw [h1]
          · exact absurd h.symm h2
        · intro h1; injection h1 with h1; exact .inl h1.symm
      · rw [if_neg h, ← ih]
        constructor
        · rintro (h1 | ⟨h1, _⟩)
          · exact absurd (by rw [h1]) h
          · exact h1
        · exact fun h1 => .inr ⟨h1, fun h2 => h h2.symm⟩
  have h := this l.reverse
  simpa using h

theorem rises_ext : ∀ {s t : List α}, Rises key s → Rises key t → (∀ x, x ∈ s ↔ x ∈ t) → s = t
  | [], [], _, _, _ => rfl
  | [], y :: t, _, _, h => absurd ((h y).2 (by simp)) (by simp)
  | x :: s, [], _, _, h => absurd ((h x).1 (by simp)) (by simp)
  | x :: s, y :: t, hs, ht, h => by
    have s1 := (List.pairwise_cons.1 hs).1
    have t1 := (List.pairwise_cons.1 ht).1
    have e : x = y := by
      rcases List.mem_cons.1 ((h x).1 (by simp)) with e | hx
      · exact e
      · rcases List.mem_cons.1 ((h y).2 (by simp)) with e | hy
        · exact e.symm
        · have := Lin.tr (t1 x hx) (s1 y hy)
          rw [Lin.irr] at this; cases this
    subst e
    congr 1
    refine rises_ext (List.pairwise_cons.1 hs).2 (List.pairwise_cons.1 ht).2 (fun z => ?_)
    constructor
    · intro hz
      rcases List.mem_cons.1 ((h z).1 (List.mem_cons_of_mem _ hz)) with e | h'
      · subst e; have := s1 z hz; rw [Lin.irr] at this; cases this
      · exact h'
    · intro hz
      rcases List.mem_cons.1 ((h z).2 (List.mem_cons_of_mem _ hz)) with e | h'
      · subst e; have := t1 z hz; rw [Lin.irr] at this; cases this
      · exact h'

theorem rises_key {s : List α} (h : Rises key s) {x y : α} (hx : x ∈ s) (hy : y ∈ s) (e : key x = key y) : x = y := by
  induction s with
  | nil => cases hx
  | cons z r ih =>
    have h1 := (List.pairwise_cons.1 h).1
    rcases List.mem_cons.1 hx with hx | hx <;> rcases List.mem_cons.1 hy with hy | hy
    · rw [hx, hy]
    · rw [hx] at e; exact absurd e (Lin.ne (h1 y hy))
    · rw [hy] at e; exact absurd e.symm (Lin.ne (h1 x hx))
    · exact ih (List.pairwise_cons.1 h).2 hx hy

theorem rises_last {s : List α} (h : Rises key s) {x : α} (hx : x ∈ s) : lastF key s (key x) = some x := by
  obtain ⟨y, hy⟩ := last_of_mem key hx
  rw [hy, rises_key key h (last_mem key hy) hx (last_key key hy)]

theorem snap_of_rises {s : List α} (h : Rises key s) : snapF key s = s := by
  refine rises_ext key (snap_rises key s) h (fun x => ?_)
  rw [snap_last]
  constructor
  · exact fun h' => last_mem key h'
  · exact fun h' => rises_last key h h'
theorem snap_snap (l : List α) : snapF key (snapF key l) = snapF key l := snap_of_rises key (snap_rises key l)

theorem put_len (s : List α) (e : α) : (putF key s e).length ≤ s.length + 1 := by
  induction s with
  | nil => simp [putF]
  | cons x r ih =>
    unfold putF
    split
    · simp
    · split
      · simp
      · simpa using ih
theorem snap_len (l : List α) : (snapF key l).length ≤ l.length := by
  have : ∀ (l s : List α), (l.foldl (putF key) s).length ≤ s.length + l.length := by
    intro l
    induction l with
    | nil => intro s; simp
    | cons x l ih =>
      intro s
      have h1 := ih (putF key s x)
      have h2 := put_len key s x
      rw [List.foldl_cons, List.length_cons]
      omega
  have h := this l []
  rw [List.length_nil, Nat.zero_add] at h
  exact h

def Found (s : List α) (k : κ) (n : Nat) (f : Bool) : Prop :=
  n ≤ s.length ∧ (∀ i (h : i < s.length), i < n → Lin.lt (key s[i]) k = true) ∧ (∀ i (h : i < s.length), n ≤ i → Lin.lt (key s[i]) k = false) ∧ (f = true ↔ ∃ h : n < s.length, key s[n] = k)

theorem found_set : ∀ {s : List α} {e : α} {n : Nat}, Found key s (key e) n true → n < s.length ∧ s.set n e = putF key s e
  | [], e, n, ⟨_, _, _, h⟩ => by obtain ⟨h, _⟩ := h.1 rfl; simp at h
  | x :: r, e, 0, ⟨_, _, h3, h⟩ => by
    obtain ⟨_, h⟩ := h.1 rfl
    refine ⟨by simp, ?_⟩
    simp only [List.getElem_cons_zero] at h
    unfold putF
    rw [if_neg (by rw [h, Lin.irr]; decide), if_pos h.symm]
    rfl
  | x :: r, e, n + 1, ⟨h1, h2, h3, h⟩ => by
    have hx := h2 0 (by simp) (by omega)
    simp only [List.getElem_cons_zero] at hx
    obtain ⟨h4, h5⟩ := h.1 rfl
    obtain ⟨g1, g2⟩ := found_set (s := r) (e := e) (n := n) ⟨by simpa using h1, fun i hi hin => by have := h2 (i + 1) (by simpa using hi) (by omega); simpa using this,
      fun i hi hin => by have := h3 (i + 1) (by simpa using hi) (by omega); simpa using this, by simpa using ⟨by simpa using h4, h5⟩⟩
    refine ⟨by simpa using g1, ?_⟩
    unfold putF
    rw [if_neg (by rw [Lin.asym hx]; decide), if_neg (fun h => Lin.ne hx h.symm), List.set_cons_succ, g2]

theorem found_ins : ∀ {s : List α} {e : α} {n : Nat}, Found key s (key e) n false → n ≤ s.length ∧ s.take n ++ e :: s.drop n = putF key s e
  | [], e, n, ⟨h, _⟩ => by
    have : n = 0 := by simpa using h
    subst this
    exact ⟨by simp, by simp [putF]⟩
  | x :: r, e, 0, ⟨_, _, h3, h⟩ => by
    refine ⟨by simp, ?_⟩
    have h4 := h3 0 (by simp) (by omega)
    simp only [List.getElem_cons_zero] at h4
    have h5 : key x ≠ key e := fun h6 => by
      have := h.2 ⟨by simp, h6⟩
      cases this
    unfold putF
    rw [if_pos (Lin.gt h4 h5)]
    simp
  | x :: r, e, n + 1, ⟨h1, h2, h3, h⟩ => by
    have hx := h2 0 (by simp) (by omega)
    simp only [List.getElem_cons_zero] at hx
    obtain ⟨g1, g2⟩ := found_ins (s := r) (e := e) (n := n) ⟨by simpa using h1, fun i hi hin => by have := h2 (i + 1) (by simpa using hi) (by omega); simpa using this,
      fun i hi hin => by have := h3 (i + 1) (by simpa using hi) (by omega); simpa using this, by
        constructor
        · intro h; cases h
        · rintro ⟨h4, h5⟩
          exact h.2 ⟨by simpa using h4, by simpa using h5⟩⟩
    refine ⟨by simpa using g1, ?_⟩
    unfold putF
    rw [if_neg (by rw [Lin.asym hx]; decide), if_neg (fun h => Lin.ne hx h.symm), ← g2]
    simp

def aheadB (after : Option κ) (k : κ) : Bool := match after with | none => true | some a => Lin.lt a k
def minStep (after m : Option κ) (k : κ) : Option κ :=
  if aheadB after k = true then (match m with | none => some k | some b => if Lin.lt k b = true then some k else some b) else m
def minF (l : List α) (after : Option κ) : Option κ := l.foldl (fun m e => minStep after m (key e)) none
def minStepE (after : Option κ) (m : Option α) (e : α) : Option α :=
  if aheadB after (key e) = true then (match m with | none => some e | some b => if Lin.lt (key b) (key e) = true then some b else some e) else m
def minE (l : List α) (after : Option κ) : Option α := l.foldl (minStepE key after) none
end
end Go.Proofs.YthodcfdgahfniaaGreat
