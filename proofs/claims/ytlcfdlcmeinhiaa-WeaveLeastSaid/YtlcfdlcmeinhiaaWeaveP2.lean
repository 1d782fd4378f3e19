/- Layer 12: the longest row doesn't ask how high the numbers lie. -/
import Derived.Test.YtlcfdlcmeinhiaaLisP
namespace Go.Proofs.Ytlcfdlcmeinhiaa

theorem at_sh {l : List Int} (c : Int) {j : Nat} (h : j < l.length) : at_ (l.map (· + c)) j = at_ l j + c := by
  rw [← at_get (l := l) h, ← at_get (l := l.map (· + c)) (by rw [List.length_map]; exact h), List.getElem_map]
theorem lnK_sh {l : List Int} (c x : Int) (f g : Nat → Nat) : ∀ k, k ≤ l.length → (∀ j, j < k → f j = g j) → lnK (l.map (· + c)) f (x + c) k = lnK l g x k
  | 0, _, _ => rfl
  | k + 1, hk, hf => by
    have ih := lnK_sh (l := l) c x f g k (by omega) (fun j hj => hf j (by omega))
    simp only [lnK]
    rw [ih, at_sh (l := l) c (show k < l.length by omega), hf k (by omega)]
    have : at_ l k + c < x + c ↔ at_ l k < x := by omega
    simp only [this]
theorem lnF_sh {l : List Int} (c : Int) : ∀ i, i ≤ l.length → ∀ j, lnF (l.map (· + c)) i j = lnF l i j
  | 0, _, _ => rfl
  | i + 1, hi, j => by
    have ih := lnF_sh (l := l) c i (by omega)
    simp only [lnF]
    by_cases e : j = i
    · rw [if_pos e, if_pos e, at_sh (l := l) c (show i < l.length by omega)]
      exact lnK_sh (l := l) c _ _ _ i (by omega) (fun j _ => ih j)
    · rw [if_neg e, if_neg e]; exact ih j
theorem ln_sh {l : List Int} (c : Int) {j : Nat} (h : j < l.length) : ln (l.map (· + c)) j = ln l j := lnF_sh (l := l) c (j + 1) (by omega) j
theorem bestLt {l : List Int} : ∀ (b n j : Nat), best l b n = some j → j < b
  | 0, _, _, h => by simp [best] at h
  | b + 1, n, j, h => by
    simp only [best] at h
    split at h
    · cases h; omega
    · have := bestLt b n j h; omega
theorem best_sh {l : List Int} (c : Int) (n : Nat) : ∀ b, b ≤ l.length → best (l.map (· + c)) b n = best l b n
  | 0, _ => rfl
  | b + 1, hb => by
    have ih := best_sh (l := l) c n b (by omega)
    simp only [best]
    rw [ih, ln_sh (l := l) c (show b < l.length by omega)]
    have : (∀ j, best l b n = some j → at_ (l.map (· + c)) b < at_ (l.map (· + c)) j) ↔ (∀ j, best l b n = some j → at_ l b < at_ l j) := by
      constructor
      · intro h j hj
        have h1 := bestLt b n j hj
        have := h j hj
        rw [at_sh (l := l) c (show b < l.length by omega), at_sh (l := l) c (show j < l.length by omega)] at this
        omega
      · intro h j hj
        have h1 := bestLt b n j hj
        have := h j hj
        rw [at_sh (l := l) c (show b < l.length by omega), at_sh (l := l) c (show j < l.length by omega)]
        omega
    simp only [this]
theorem top_sh {l : List Int} (c : Int) : ∀ b, b ≤ l.length → top (l.map (· + c)) b = top l b
  | 0, _ => rfl
  | b + 1, hb => by
    simp only [top]
    rw [top_sh (l := l) c b (by omega), ln_sh (l := l) c (show b < l.length by omega)]
theorem down_sh {l : List Int} (c : Int) : ∀ n b, b ≤ l.length → down (l.map (· + c)) b n = down l b n
  | 0, _, _ => rfl
  | n + 1, b, hb => by
    simp only [down]
    rw [best_sh c (n + 1) b hb]
    cases h : best l b (n + 1) with
    | none => rfl
    | some j =>
      have h1 := bestLt b (n + 1) j h
      simp only
      rw [down_sh (l := l) c n j (by omega)]
theorem lisF_shift (l : List Int) (c : Int) : lisF (l.map (· + c)) = lisF l := by
  unfold lisF
  rw [List.length_map, top_sh c _ (Nat.le_refl _), down_sh c _ _ (Nat.le_refl _)]
end Go.Proofs.Ytlcfdlcmeinhiaa
