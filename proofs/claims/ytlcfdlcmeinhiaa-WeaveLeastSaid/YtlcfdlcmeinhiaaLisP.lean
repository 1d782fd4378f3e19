/- Rising rows, plainly: how long a row may end at each place, the best place of each length, the row itself. -/
import Derived.Test.YtlcfdlcmeinhiaaL1
namespace Go.Proofs.Ytlcfdlcmeinhiaa

def at_ (l : List Int) (j : Nat) : Int := l.getD j 0
def lnK (l : List Int) (f : Nat → Nat) (x : Int) : Nat → Nat
  | 0 => 1
  | k + 1 => if at_ l k < x ∧ lnK l f x k ≤ f k then f k + 1 else lnK l f x k
def lnF (l : List Int) : Nat → Nat → Nat
  | 0, _ => 0
  | i + 1, j => if j = i then lnK l (lnF l i) (at_ l i) i else lnF l i j
def ln (l : List Int) (j : Nat) : Nat := lnF l (j + 1) j
def best (l : List Int) : Nat → Nat → Option Nat
  | 0, _ => none
  | b + 1, n => if ln l b = n ∧ (∀ j, best l b n = some j → at_ l b < at_ l j) then some b else best l b n
def top (l : List Int) : Nat → Nat
  | 0 => 0
  | b + 1 => max (top l b) (ln l b)
/-- The row of n that ends before b, from its end on. -/
def down (l : List Int) : Nat → Nat → List Int
  | _, 0 => []
  | b, n + 1 => match best l b (n + 1) with
    | none => []
    | some j => (j : Int) :: down l j n
def lisF (l : List Int) : List Int := (down l l.length (top l l.length)).reverse

theorem at_getD (l : List Int) (j : Nat) : l.getD j 0 = at_ l j := rfl
theorem at_get {l : List Int} {j : Nat} (h : j < l.length) : l[j] = at_ l j := by simp [at_, List.getD_eq_getElem?_getD, List.getElem?_eq_getElem h]

theorem lnF_ln (l : List Int) : ∀ i j, j < i → lnF l i j = ln l j
  | 0, _, h => by omega
  | i + 1, j, h => by
    by_cases e : j = i
    · subst e; rfl
    · rw [← lnF_ln l i j (by omega)]
      simp only [lnF, if_neg e]

theorem lnK_congr (l : List Int) (f g : Nat → Nat) (x : Int) : ∀ k, (∀ j, j < k → f j = g j) → lnK l f x k = lnK l g x k
  | 0, _ => rfl
  | k + 1, h => by
    simp only [lnK]
    rw [lnK_congr l f g x k (fun j hj => h j (by omega)), h k (by omega)]

theorem ln_eq (l : List Int) (i : Nat) : ln l i = lnK l (ln l) (at_ l i) i := by
  have : ln l i = lnK l (lnF l i) (at_ l i) i := by simp [ln, lnF]
  rw [this]
  exact lnK_congr l _ _ _ i (fun j hj => lnF_ln l i j hj)

theorem lnK_spec (l : List Int) (f : Nat → Nat) (x : Int) : ∀ k, 1 ≤ lnK l f x k ∧ (∀ j, j < k → at_ l j < x → f j + 1 ≤ lnK l f x k) ∧ (lnK l f x k = 1 ∨ ∃ j, j < k ∧ at_ l j < x ∧ f j + 1 = lnK l f x k)
  | 0 => ⟨Nat.le_refl _, fun j h => by omega, .inl rfl⟩
  | k + 1 => by
    obtain ⟨h1, h2, h3⟩ := lnK_spec l f x k
    simp only [lnK]
    split
    · rename_i hc
      refine ⟨by omega, fun j hj hx => ?_, .inr ⟨k, by omega, hc.1, rfl⟩⟩
      by_cases e : j = k
      · subst e; exact Nat.le_refl _
      · have := h2 j (by omega) hx; omega
    · rename_i hc
      refine ⟨h1, fun j hj hx => ?_, h3.elim .inl (fun ⟨j, a, b, c⟩ => .inr ⟨j, by omega, b, c⟩)⟩
      by_cases e : j = k
      · subst e
        have : ¬ lnK l f x j ≤ f j := fun h => hc ⟨hx, h⟩
        omega
      · exact h2 j (by omega) hx

theorem ln_pos (l : List Int) (i : Nat) : 1 ≤ ln l i := by rw [ln_eq]; exact (lnK_spec l _ _ i).1
theorem ln_ge {l : List Int} {i j : Nat} (h : j < i) (hx : at_ l j < at_ l i) : ln l j + 1 ≤ ln l i := by rw [ln_eq l i]; exact (lnK_spec l _ _ i).2.1 j h hx
theorem ln_ex {l : List Int} {i : Nat} (h : ln l i ≠ 1) : ∃ j, j < i ∧ at_ l j < at_ l i ∧ ln l j + 1 = ln l i := by
  have := (lnK_spec l (ln l) (at_ l i) i).2.2
  rw [← ln_eq] at this
  exact this.resolve_left h

theorem best_some {l : List Int} : ∀ {b n j : Nat}, best l b n = some j → j < b ∧ ln l j = n ∧ (∀ k, k < b → ln l k = n → at_ l j ≤ at_ l k) ∧ ∀ k, k < j → ln l k = n → at_ l j < at_ l k
  | 0, n, j, h => by simp [best] at h
  | b + 1, n, j, h => by
    simp only [best] at h
    split at h
    · rename_i hc
      injection h with h; subst h
      have old : ∀ k, k < b → ln l k = n → at_ l b < at_ l k := by
        intro k hk hn
        cases hb : best l b n with
        | none =>
          exfalso
          have : ∀ b k, k < b → ln l k = n → best l b n ≠ none := by
            intro b
            induction b with
            | zero => intro k hk; omega
            | succ b ih =>
              intro k hk hn
              simp only [best]
              split
              · simp
              · rename_i hc
                by_cases e : k = b
                · subst e
                  intro hnone
                  exact hc ⟨hn, fun j hj => by rw [hnone] at hj; cases hj⟩
                · exact ih k (by omega) hn
          exact this b k hk hn hb
        | some j' =>
          have h1 := hc.2 j' hb
          have h2 := (best_some hb).2.2.1 k hk hn
          omega
      refine ⟨by omega, hc.1, fun k hk hn => ?_, fun k hk hn => old k hk hn⟩
      by_cases e : k = b
      · subst e; exact Int.le_refl _
      · exact Int.le_of_lt (old k (by omega) hn)
    · rename_i hc
      obtain ⟨h1, h2, h3, h4⟩ := best_some h
      refine ⟨by omega, h2, fun k hk hn => ?_, h4⟩
      by_cases e : k = b
      · subst e
        have : ¬ ∀ j, best l k n = some j → at_ l k < at_ l j := fun h => hc ⟨hn, h⟩
        have hlt : ¬ at_ l k < at_ l j := fun hlt => this (fun j' hj' => by rw [h] at hj'; injection hj' with hj'; rw [← hj']; exact hlt)
        omega
      · exact h3 k (by omega) hn

theorem best_none {l : List Int} {n : Nat} : ∀ {b : Nat}, best l b n = none → ∀ k, k < b → ln l k ≠ n
  | 0, _, k, hk => by omega
  | b + 1, h, k, hk => by
    simp only [best] at h
    split at h
    · cases h
    · rename_i hc
      by_cases e : k = b
      · subst e
        intro hn
        exact hc ⟨hn, fun j hj => by rw [h] at hj; cases hj⟩
      · exact best_none h k (by omega)

theorem best_ex {l : List Int} {b n k : Nat} (hk : k < b) (hn : ln l k = n) : ∃ j, best l b n = some j := by
  cases h : best l b n with
  | none => exact absurd hn (best_none h k hk)
  | some j => exact ⟨j, rfl⟩

theorem best_zero (l : List Int) (b : Nat) : best l b 0 = none := by
  cases h : best l b 0 with
  | none => rfl
  | some j => have := (best_some h).2.1; have := ln_pos l j; omega

theorem top_ge {l : List Int} : ∀ {b k : Nat}, k < b → ln l k ≤ top l b
  | 0, _, h => by omega
  | b + 1, k, h => by
    simp only [top]
    by_cases e : k = b
    · subst e; omega
    · have := top_ge (l := l) (b := b) (k := k) (by omega); omega

theorem top_ex {l : List Int} : ∀ {b : Nat}, 0 < top l b → ∃ k, k < b ∧ ln l k = top l b
  | 0, h => by simp [top] at h
  | b + 1, h => by
    simp only [top] at h ⊢
    by_cases e : top l b ≤ ln l b
    · exact ⟨b, by omega, by omega⟩
    · obtain ⟨k, h1, h2⟩ := top_ex (l := l) (b := b) (by omega)
      exact ⟨k, by omega, by omega⟩

theorem ln_below {l : List Int} : ∀ (m k : Nat), ln l k ≤ m → ∀ n, 1 ≤ n → n ≤ ln l k → ∃ j, j ≤ k ∧ ln l j = n
  | 0, k, h, n, h1, h2 => by omega
  | m + 1, k, h, n, h1, h2 => by
    by_cases e : n = ln l k
    · exact ⟨k, Nat.le_refl _, e.symm⟩
    · obtain ⟨j, h3, _, h5⟩ := ln_ex (l := l) (i := k) (by omega)
      obtain ⟨q, h6, h7⟩ := ln_below (l := l) m j (by omega) n h1 (by omega)
      exact ⟨q, by omega, h7⟩

theorem best_top {l : List Int} {b n : Nat} (h1 : 1 ≤ n) (h2 : n ≤ top l b) : ∃ j, best l b n = some j := by
  obtain ⟨k, hk, hl⟩ := top_ex (l := l) (b := b) (by omega)
  obtain ⟨j, hj, hn⟩ := ln_below (l := l) (ln l k) k (Nat.le_refl _) n h1 (by omega)
  exact best_ex (by omega) hn

/-- A best place of one more lies at a greater number. -/
theorem best_lt {l : List Int} {b n j q : Nat} (hj : best l b n = some j) (hq : best l b (n + 1) = some q) : at_ l j < at_ l q := by
  obtain ⟨h1, h2, h3, _⟩ := best_some hj
  obtain ⟨g1, g2, _, _⟩ := best_some hq
  obtain ⟨k, k1, k2, k3⟩ := ln_ex (l := l) (i := q) (by have := ln_pos l j; omega)
  have := h3 k (by omega) (by omega)
  omega

theorem best_mono {l : List Int} {b : Nat} : ∀ {n m j q : Nat}, n < m → best l b n = some j → best l b m = some q → at_ l j < at_ l q
  | n, 0, _, _, h, _, _ => by omega
  | n, m + 1, j, q, h, hj, hq => by
    by_cases e : n = m
    · subst e; exact best_lt hj hq
    · obtain ⟨g1, g2, _, _⟩ := best_some hq
      have hn := (best_some hj).2.1
      have := ln_pos l j
      obtain ⟨k, k1, k2⟩ := ln_below (l := l) (ln l q) q (Nat.le_refl _) m (by omega) (by omega)
      obtain ⟨p, hp⟩ := best_ex (l := l) (b := b) (n := m) (k := k) (by omega) k2
      have h1 := best_mono (n := n) (m := m) (by omega) hj hp
      have h2 := best_lt hp hq
      omega

/-! ## The ends of the best rows, and what lies ahead of each -/
def endsF (l : List Int) (i : Nat) : List Int := (List.range (top l i)).map (fun k => (((best l i (k + 1)).getD 0 : Nat) : Int))
def prevF (l : List Int) (j : Nat) : Int := match best l j (ln l j - 1) with | none => -1 | some q => q
def aheadF (l : List Int) (N i : Nat) : List Int := (List.range N).map (fun j => if j < i then prevF l j else 0)

theorem ends_len (l : List Int) (i : Nat) : (endsF l i).length = top l i := by simp [endsF]
theorem ends_get {l : List Int} {i k : Nat} (h : k < (endsF l i).length) : ∃ j, best l i (k + 1) = some j ∧ (endsF l i)[k] = (j : Int) := by
  obtain ⟨j, hj⟩ := best_top (l := l) (b := i) (n := k + 1) (by omega) (by rw [ends_len] at h; omega)
  exact ⟨j, hj, by simp [endsF, hj]⟩
theorem ahead_len (l : List Int) (N i : Nat) : (aheadF l N i).length = N := by simp [aheadF]

theorem ahead_zero (l : List Int) (N : Nat) : aheadF l N 0 = List.replicate N 0 := by
  apply List.ext_getElem
  · simp [aheadF]
  · intro k h1 h2; simp [aheadF]
theorem top_le (l : List Int) : ∀ i, top l i ≤ i
  | 0 => Nat.le_refl _
  | i + 1 => by
    have h1 := top_le l i
    have h2 : ln l i ≤ i + 1 := by
      have : ∀ m i, i ≤ m → ln l i ≤ i + 1 := by
        intro m
        induction m with
        | zero => intro i hi; by_cases e : ln l i = 1
                  · omega
                  · obtain ⟨j, hj, _⟩ := ln_ex e; omega
        | succ m ih =>
          intro i hi
          by_cases e : ln l i = 1
          · omega
          · obtain ⟨j, hj, _, hl⟩ := ln_ex e
            have := ih j (by omega)
            omega
      exact this i i (Nat.le_refl _)
    simp only [top]
    omega

/-- What the search finds is how long a row may be that ends here. -/
theorem ln_found {l : List Int} {i n : Nat} (hn : n ≤ (endsF l i).length) (h1 : ∀ k (h : k < (endsF l i).length), k < n → at_ l (endsF l i)[k].toNat < at_ l i) (h2 : ∀ k (h : k < (endsF l i).length), n ≤ k → at_ l i ≤ at_ l (endsF l i)[k].toNat) : ln l i = n + 1 := by
  have hle : n + 1 ≤ ln l i := by
    cases n with
    | zero => exact ln_pos l i
    | succ n =>
      obtain ⟨j, hj, he⟩ := ends_get (l := l) (i := i) (k := n) (by omega)
      have := h1 n (by omega) (by omega)
      rw [he, Int.toNat_natCast] at this
      obtain ⟨g1, g2, _⟩ := best_some hj
      have := ln_ge g1 this
      omega
  rcases Nat.lt_or_ge (n + 1) (ln l i) with hlt | hge
  · exfalso
    obtain ⟨k, k1, k2, k3⟩ := ln_ex (l := l) (i := i) (by omega)
    have htop := top_ge (l := l) k1
    obtain ⟨m, hm⟩ : ∃ m, ln l k = m + 1 := ⟨ln l k - 1, by have := ln_pos l k; omega⟩
    obtain ⟨j, hj, he⟩ := ends_get (l := l) (i := i) (k := m) (by rw [ends_len]; omega)
    have := h2 m (by rw [ends_len]; omega) (by omega)
    rw [he, Int.toNat_natCast] at this
    have := (best_some hj).2.2.1 k k1 hm
    omega
  · omega

theorem best_other {l : List Int} {i n : Nat} (h : ln l i ≠ n) : best l (i + 1) n = best l i n := by
  simp only [best]
  rw [if_neg (fun e => h e.1)]

/-- The ends, when one more number has come. -/
theorem ends_app {l : List Int} {i : Nat} (h : ln l i = top l i + 1) : endsF l (i + 1) = endsF l i ++ [(i : Int)] := by
  have ht : top l (i + 1) = top l i + 1 := by simp only [top]; omega
  unfold endsF
  rw [ht, List.range_succ, List.map_append]
  congr 1
  · apply List.map_congr_left
    intro k hk
    rw [List.mem_range] at hk
    rw [best_other (by omega)]
  · simp only [List.map_cons, List.map_nil, List.cons.injEq, and_true]
    have hn : best l i (top l i + 1) = none := by
      cases hb : best l i (top l i + 1) with
      | none => rfl
      | some j => obtain ⟨g1, g2, _⟩ := best_some hb; have := top_ge (l := l) g1; omega
    have : best l (i + 1) (top l i + 1) = some i := by
      simp only [best]
      rw [if_pos ⟨h, fun j hj => by rw [hn] at hj; cases hj⟩]
    rw [this]; rfl

theorem ends_set {l : List Int} {i n j : Nat} (h : ln l i = n + 1) (hn : n < top l i) (hj : best l i (n + 1) = some j) (hx : at_ l i < at_ l j) : endsF l (i + 1) = (endsF l i).set n (i : Int) := by
  have ht : top l (i + 1) = top l i := by simp only [top]; omega
  apply List.ext_getElem
  · simp [ends_len, ht]
  · intro k h1 h2
    have hk : k < top l i := by rw [ends_len, ht] at h1; exact h1
    rw [List.getElem_set]
    split
    · rename_i e
      subst e
      have : best l (i + 1) (n + 1) = some i := by
        simp only [best]
        rw [if_pos ⟨h, fun q hq => by rw [hj] at hq; injection hq with hq; rw [← hq]; exact hx⟩]
      simp [endsF, this]
    · simp only [endsF, List.getElem_map, List.getElem_range]
      rw [best_other (by omega)]

theorem ends_same {l : List Int} {i n j : Nat} (h : ln l i = n + 1) (hn : n < top l i) (hj : best l i (n + 1) = some j) (hx : ¬ at_ l i < at_ l j) : endsF l (i + 1) = endsF l i := by
  have ht : top l (i + 1) = top l i := by simp only [top]; omega
  unfold endsF
  rw [ht]
  apply List.map_congr_left
  intro k hk
  by_cases e : k = n
  · subst e
    have : best l (i + 1) (k + 1) = best l i (k + 1) := by
      conv => lhs; simp only [best]
      rw [if_neg (fun e => hx (e.2 j hj))]
    rw [this]
  · rw [best_other (by omega)]

theorem ahead_set {l : List Int} {N i : Nat} : aheadF l N (i + 1) = (aheadF l N i).set i (prevF l i) := by
  apply List.ext_getElem
  · simp [ahead_len]
  · intro k h1 h2
    rw [List.getElem_set]
    simp only [aheadF, List.getElem_map, List.getElem_range]
    by_cases e : i = k
    · subst e; rw [if_pos (by omega), if_pos rfl]
    · rw [if_neg e]
      by_cases e : k < i
      · rw [if_pos e, if_pos (by omega)]
      · rw [if_neg e, if_neg (by omega)]

theorem prev_found {l : List Int} {i n : Nat} (h : ln l i = n + 1) (hn : n ≤ (endsF l i).length) : prevF l i = if h : 0 < n then (endsF l i)[n - 1] else -1 := by
  unfold prevF
  rw [h, Nat.add_sub_cancel]
  split
  · rename_i hb
    by_cases h0 : 0 < n
    · obtain ⟨j, hj, _⟩ := ends_get (l := l) (i := i) (k := n - 1) (by omega)
      rw [show n - 1 + 1 = n by omega, hb] at hj
      cases hj
    · rw [dif_neg h0]
  · rename_i q hb
    by_cases h0 : 0 < n
    · obtain ⟨j, hj, he⟩ := ends_get (l := l) (i := i) (k := n - 1) (by omega)
      rw [show n - 1 + 1 = n by omega, hb] at hj
      injection hj with hj
      rw [dif_pos h0, he, hj]
    · have : n = 0 := by omega
      subst this
      rw [best_zero] at hb; cases hb

theorem down_len (l : List Int) : ∀ n b, (down l b n).length ≤ n
  | 0, _ => Nat.le_refl _
  | n + 1, b => by
    simp only [down]
    split
    · simp
    · rename_i j _; have := down_len l n j; simp only [List.length_cons]; omega

/-- What is still to come, from a place on. -/
def restF (l : List Int) (p : Int) : List Int := if p = -1 then [] else p :: down l p.toNat (ln l p.toNat - 1)

theorem down_rest {l : List Int} {b n q : Nat} (h : best l b (n + 1) = some q) : restF l q = down l b (n + 1) := by
  have h2 := (best_some h).2.1
  unfold restF
  rw [if_neg (by omega), Int.toNat_natCast, h2]
  simp [down, h]

theorem rest_step {l : List Int} {q : Nat} : restF l q = (q : Int) :: restF l (prevF l q) := by
  conv => lhs; unfold restF
  rw [if_neg (by omega), Int.toNat_natCast]
  congr 1
  unfold prevF
  cases hn : ln l q - 1 with
  | zero => rw [best_zero]; simp [down, restF]
  | succ n =>
    cases hb : best l q (n + 1) with
    | none => simp [down, hb, restF]
    | some j => exact (down_rest hb).symm

theorem prev_lt (l : List Int) (q : Nat) : -1 ≤ prevF l q ∧ prevF l q < q := by
  unfold prevF
  split
  · omega
  · rename_i j h; have := (best_some h).1; omega

theorem ahead_get {l : List Int} {q : Nat} (h : q < (aheadF l l.length l.length).length) : (aheadF l l.length l.length)[q] = prevF l q := by
  have : q < l.length := by rw [ahead_len] at h; exact h
  simp [aheadF, this]

/-! ## The document's way -/
def lensF (l : List Int) (i : Nat) : List Int := (List.range i).map (fun j => (ln l j : Int))
theorem lens_len (l : List Int) (i : Nat) : (lensF l i).length = i := by simp [lensF]
theorem lens_succ (l : List Int) (i : Nat) : lensF l (i + 1) = lensF l i ++ [(ln l i : Int)] := by simp [lensF, List.range_succ]
theorem lens_get {l : List Int} {i k : Nat} (h : k < (lensF l i).length) : (lensF l i)[k] = (ln l k : Int) := by simp [lensF]
def pl (o : Option Nat) : Int := match o with | none => -1 | some j => j
/-- The best one among those below a bound. -/
def bestR (l : List Int) (n : Nat) (fit : Int → Bool) : Nat → Option Nat
  | 0 => none
  | i + 1 => if ln l i = n ∧ fit (at_ l i) = true ∧ (∀ j, bestR l n fit i = some j → at_ l i < at_ l j) then some i else bestR l n fit i
theorem bestR_some {l : List Int} {n : Nat} {fit : Int → Bool} : ∀ {i j : Nat}, bestR l n fit i = some j → j < i
  | 0, _, h => by simp [bestR] at h
  | i + 1, j, h => by
    simp only [bestR] at h
    split at h
    · injection h with h; omega
    · have := bestR_some h; omega
theorem bestR_all (l : List Int) (n : Nat) : ∀ i, bestR l n (fun _ => true) i = best l i n
  | 0 => rfl
  | i + 1 => by simp only [bestR, best, bestR_all l n i, true_and]
theorem bestR_lt (l : List Int) (n : Nat) (z : Int) : ∀ i, bestR l n (fun x => decide (x < z)) i = (best l i n).filter (fun j => decide (at_ l j < z))
  | 0 => rfl
  | i + 1 => by
    have ih := bestR_lt l n z i
    simp only [bestR, best, ih]
    by_cases hn : ln l i = n
    · by_cases hz : at_ l i < z
      · cases hb : best l i n with
        | none => simp [hn, hz, Option.filter]
        | some j =>
          by_cases hj : at_ l j < z
          · by_cases hij : at_ l i < at_ l j
            · simp [hn, hz, hj, hij, Option.filter]
            · simp [hz, hj, hij, Option.filter]
          · have hij : at_ l i < at_ l j := by omega
            simp [hn, hz, hj, hij, Option.filter]
      · cases hb : best l i n with
        | none => simp [hn, hz, Option.filter]
        | some j =>
          by_cases hij : at_ l i < at_ l j
          · have hj : ¬ at_ l j < z := by omega
            simp [hn, hz, hj, hij, Option.filter]
          · simp [hz, hij, Option.filter]
    · simp [hn, Option.filter]
theorem bestR_chain {l : List Int} {b n : Nat} (h : ln l b = n + 1) (h1 : 1 ≤ n) : bestR l n (fun x => decide (x < at_ l b)) b = best l b n := by
  rw [bestR_lt]
  obtain ⟨k, k1, k2, k3⟩ := ln_ex (l := l) (i := b) (by omega)
  obtain ⟨j, hj⟩ := best_ex (l := l) (b := b) (n := n) (k := k) k1 (by omega)
  have := (best_some hj).2.2.1 k k1 (by omega)
  rw [hj]
  simp
  omega

theorem down_full {l : List Int} : ∀ (n b : Nat), n ≤ top l b → (∀ m, n = m + 1 → ∃ j, best l b n = some j) → (down l b n).length = n
  | 0, _, _, _ => rfl
  | n + 1, b, h, hb => by
    obtain ⟨j, hj⟩ := hb n rfl
    have h2 := (best_some hj).2.1
    simp only [down, hj, List.length_cons]
    congr 1
    refine down_full n j ?_ ?_
    · cases n with
      | zero => omega
      | succ n =>
        obtain ⟨k, k1, _, k3⟩ := ln_ex (l := l) (i := j) (by omega)
        have := top_ge (l := l) k1
        omega
    · rintro m rfl
      obtain ⟨k, k1, _, k3⟩ := ln_ex (l := l) (i := j) (by omega)
      exact best_ex k1 (by omega)
theorem lis_len (l : List Int) : (lisF l).length = top l l.length := by
  rw [lisF, List.length_reverse]
  exact down_full _ _ (Nat.le_refl _) (fun m hm => best_top (by omega) (Nat.le_refl _))

theorem ln_le (l : List Int) : ∀ m i, i ≤ m → ln l i ≤ i + 1
  | 0, i, h => by
    by_cases e : ln l i = 1
    · omega
    · obtain ⟨j, hj, _⟩ := ln_ex e; omega
  | m + 1, i, h => by
    by_cases e : ln l i = 1
    · omega
    · obtain ⟨j, hj, _, hl⟩ := ln_ex e
      have := ln_le l m j (by omega)
      omega
theorem lnK_le (l : List Int) (x : Int) (k : Nat) : lnK l (ln l) x k ≤ k + 1 := by
  rcases (lnK_spec l (ln l) x k).2.2 with h | ⟨j, h1, _, h3⟩
  · omega
  · have := ln_le l j j (Nat.le_refl _); omega

theorem lnK_step (l : List Int) (x : Int) (k : Nat) : lnK l (ln l) x (k + 1) = if at_ l k < x ∧ lnK l (ln l) x k ≤ ln l k then ln l k + 1 else lnK l (ln l) x k := rfl

/-! ## The row rises -/
theorem down_mem {l : List Int} : ∀ {n b : Nat} {x : Int}, x ∈ down l b n → 0 ≤ x ∧ x < b
  | 0, _, _, h => by simp [down] at h
  | n + 1, b, x, h => by
    simp only [down] at h
    split at h
    · cases h
    · rename_i j hj
      have h1 := (best_some hj).1
      rcases List.mem_cons.1 h with rfl | h
      · omega
      · have := down_mem h; omega
theorem down_falls {l : List Int} : ∀ {n b i : Nat} (h : i + 1 < (down l b n).length), 0 ≤ (down l b n)[i + 1] ∧ (down l b n)[i + 1] < (down l b n)[i] ∧ (down l b n)[i] < b ∧ at_ l (down l b n)[i + 1].toNat < at_ l (down l b n)[i].toNat
  | 0, _, _, h => by simp [down] at h
  | n + 1, b, i, h => by
    cases hb : best l b (n + 1) with
    | none => simp [down, hb] at h
    | some j =>
      have e : down l b (n + 1) = (j : Int) :: down l j n := by simp [down, hb]
      simp only [e] at h ⊢
      obtain ⟨g1, g2, _⟩ := best_some hb
      cases i with
      | zero =>
        cases n with
        | zero => simp [down] at h
        | succ n =>
          cases hb' : best l j (n + 1) with
          | none => simp [down, hb'] at h
          | some q =>
            have e' : down l j (n + 1) = (q : Int) :: down l q n := by simp [down, hb']
            simp only [e', List.getElem_cons_zero, List.getElem_cons_succ, Int.toNat_natCast]
            obtain ⟨k1, k2, k3, _⟩ := best_some hb'
            obtain ⟨p, p1, p2, p3⟩ := ln_ex (l := l) (i := j) (by omega)
            have := k3 p p1 (by omega)
            omega
      | succ i =>
        simp only [List.getElem_cons_succ]
        have := down_falls (l := l) (n := n) (b := j) (i := i) (by simpa using h)
        omega
theorem lis_rises {l : List Int} {i : Nat} (h : i + 1 < (lisF l).length) : 0 ≤ (lisF l)[i] ∧ (lisF l)[i] < (lisF l)[i + 1] ∧ (lisF l)[i + 1] < l.length ∧ at_ l (lisF l)[i].toNat < at_ l (lisF l)[i + 1].toNat := by
  have hl : (lisF l).length = (down l l.length (top l l.length)).length := by simp [lisF]
  have := down_falls (l := l) (b := l.length) (n := top l l.length) (i := (lisF l).length - 1 - (i + 1)) (by omega)
  have e1 : (lisF l)[i + 1] = (down l l.length (top l l.length))[(lisF l).length - 1 - (i + 1)]'(by omega) := by
    simp only [lisF, List.getElem_reverse, List.length_reverse]
  have e2 : (lisF l)[i] = (down l l.length (top l l.length))[(lisF l).length - 1 - (i + 1) + 1]'(by omega) := by
    simp only [lisF, List.getElem_reverse, List.length_reverse]
    congr 1
    simp only [lisF, List.length_reverse] at h
    omega
  rw [e1, e2]
  exact this
theorem lis_in {l : List Int} {i : Nat} (h : i < (lisF l).length) : 0 ≤ (lisF l)[i] ∧ (lisF l)[i] < l.length := by
  have : (lisF l)[i] ∈ down l l.length (top l l.length) := by
    have h1 := List.getElem_mem h
    have h2 : ∀ x, x ∈ lisF l → x ∈ down l l.length (top l l.length) := fun x hx => by unfold lisF at hx; exact List.mem_reverse.1 hx
    exact h2 _ h1
  exact down_mem this
theorem top_pos {l : List Int} (h : 0 < l.length) : 0 < top l l.length := by
  have := top_ge (l := l) (b := l.length) (k := 0) h
  have := ln_pos l 0
  omega

/-! ## Lists that rise -/
def Rises (xs : List Int) : Prop := ∀ i j (h : i < j) (hj : j < xs.length), xs[i] < xs[j]
theorem lis_Rises (l : List Int) : Rises (lisF l) := by
  intro i j h hj
  have : ∀ d (hd : i + 1 + d < (lisF l).length), (lisF l)[i] < (lisF l)[i + 1 + d] := by
    intro d
    induction d with
    | zero => intro hd; exact (lis_rises hd).2.1
    | succ d ih =>
      intro hd
      have h1 := ih (by omega)
      have h2 := (lis_rises (l := l) (i := i + 1 + d) hd).2.1
      exact Int.lt_trans h1 h2
  have e := this (j - (i + 1)) (by omega)
  have e2 : i + 1 + (j - (i + 1)) = j := by omega
  simp only [e2] at e
  exact e
theorem Rises.of_pairwise {xs : List Int} (h : xs.Pairwise (· < ·)) : Rises xs := fun i j hij hj => List.pairwise_iff_getElem.1 h i j (by omega) hj hij
/-- a stands where the first number lies that is no less than x. -/
def Stands (xs : List Int) (x : Int) (a : Nat) : Prop := a ≤ xs.length ∧ (∀ k (h : k < xs.length), k < a → xs[k] < x) ∧ (∀ k (h : k < xs.length), a ≤ k → x ≤ xs[k])
theorem Stands.mem {xs : List Int} {x : Int} {a : Nat} (hs : Rises xs) (h : Stands xs x a) (hx : x ∈ xs) : ∃ ha : a < xs.length, xs[a] = x := by
  obtain ⟨k, hk, rfl⟩ := List.getElem_of_mem hx
  obtain ⟨h1, h2, h3⟩ := h
  have hak : ¬ k < a := fun h => by have := h2 k hk h; omega
  have ha : a < xs.length := by omega
  refine ⟨ha, ?_⟩
  by_cases e : a = k
  · subst e; rfl
  · have := hs a k (by omega) hk
    have := h3 a ha (Nat.le_refl _)
    omega
theorem Stands.next {xs : List Int} {x : Int} {a : Nat} (hs : Rises xs) (h : Stands xs x a) (ha : a < xs.length) (he : xs[a] = x) : Stands xs (x + 1) (a + 1) := by
  obtain ⟨h1, h2, h3⟩ := h
  refine ⟨by omega, fun k hk hka => ?_, fun k hk hka => ?_⟩
  · by_cases e : k = a
    · subst e; omega
    · have := h2 k hk (by omega); omega
  · have := hs a k (by omega) hk
    omega
theorem Stands.same {xs : List Int} {x : Int} {a : Nat} (h : Stands xs x a) (hx : x ∉ xs) : Stands xs (x + 1) a := by
  obtain ⟨h1, h2, h3⟩ := h
  refine ⟨h1, fun k hk hka => ?_, fun k hk hka => ?_⟩
  · have := h2 k hk hka; omega
  · have h4 := h3 k hk hka
    have : xs[k] ≠ x := fun e => hx (e ▸ List.getElem_mem hk)
    omega
theorem Stands.zero {xs : List Int} (h : ∀ x ∈ xs, 0 ≤ x) : Stands xs 0 0 := ⟨by omega, fun k _ hk => by omega, fun k hk _ => h _ (List.getElem_mem hk)⟩
theorem Stands.full {xs : List Int} {x : Int} {a : Nat} (h : Stands xs x a) (hx : ∀ y ∈ xs, y < x) : a = xs.length := by
  obtain ⟨h1, h2, h3⟩ := h
  rcases Nat.lt_or_ge a xs.length with h | h
  · have := h3 a h (Nat.le_refl _)
    have := hx _ (List.getElem_mem h)
    omega
  · omega

def othersN (l : List Int) (i : Nat) : List Int := ((List.range i).filter (fun (j : Nat) => !decide ((j : Int) ∈ lisF l))).map (fun (j : Nat) => (j : Int))
theorem others_succ (l : List Int) (i : Nat) : othersN l (i + 1) = if (i : Int) ∈ lisF l then othersN l i else othersN l i ++ [(i : Int)] := by
  unfold othersN
  rw [List.range_succ, List.filter_append, List.map_append]
  by_cases h : (i : Int) ∈ lisF l
  · simp [h]
  · simp [h]
theorem others_len (l : List Int) (i : Nat) : (othersN l i).length ≤ i := by
  unfold othersN
  rw [List.length_map]
  exact Nat.le_trans (List.length_filter_le _ _) (by simp)
theorem others_mem {l : List Int} {i : Nat} {x : Int} : x ∈ othersN l i ↔ 0 ≤ x ∧ x < i ∧ x ∉ lisF l := by
  unfold othersN
  simp only [List.mem_map, List.mem_filter, List.mem_range, Bool.not_eq_true', decide_eq_false_iff_not]
  constructor
  · rintro ⟨j, ⟨h1, h2⟩, rfl⟩
    exact ⟨by omega, by omega, h2⟩
  · rintro ⟨h1, h2, h3⟩
    exact ⟨x.toNat, ⟨by omega, by rw [Int.toNat_of_nonneg h1]; exact h3⟩, by omega⟩
theorem others_Rises (l : List Int) (i : Nat) : Rises (othersN l i) := by
  apply Rises.of_pairwise
  unfold othersN
  rw [List.pairwise_map]
  refine List.Pairwise.filter _ ?_
  have := List.pairwise_lt_range (n := i)
  exact this.imp (fun h => by omega)
theorem lis_mem {l : List Int} {x : Int} (h : x ∈ lisF l) : 0 ≤ x ∧ x < l.length := by
  obtain ⟨k, hk, rfl⟩ := List.getElem_of_mem h
  exact lis_in hk
end Go.Proofs.Ytlcfdlcmeinhiaa
