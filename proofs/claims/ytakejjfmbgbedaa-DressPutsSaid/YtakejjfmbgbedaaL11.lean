/- Loops that count. -/
import Derived.Test.YtakejjfmbgbedaaL10
namespace Go.Proofs.Ytakejjfmbgbedaa
variable {df : List Deferred}
variable {rr : Option Nat}
open Go.RowKit

/-- What is kept of the known slots. -/
inductive KP (l : List (Nat × Value)) : List Nat → List (Nat × Value) → Prop
  | nil : KP l [] []
  | cons {t : Nat} {v : Value} {ts : List Nat} {r : List (Nat × Value)} (h : lk l t = some v) (hr : KP l ts r) : KP l (t :: ts) ((t, v) :: r)

theorem KP.sub {l : List (Nat × Value)} {ts : List Nat} {r : List (Nat × Value)} (h : KP l ts r) : subK l r := by
  induction h with
  | nil => trivial
  | cons h _ ih => exact ⟨h, ih⟩

theorem Kn.keep {n : Nat} {a : Act} {l r : List (Nat × Value)} {ts : List Nat} (hk : Kn df n a l) (h : KP l ts r) : Kn df n a r := hk.sub h.sub

/-- Each slot of the list, at its first place, is as in l. -/
def subD (l : List (Nat × Value)) : List Nat → List (Nat × Value) → Prop
  | _, [] => True
  | seen, (x, v) :: r => (match seen.contains x with | true => True | false => lk l x = some v) ∧ subD l (x :: seen) r

theorem subD.get {l : List (Nat × Value)} : ∀ {r : List (Nat × Value)} {seen : List Nat}, subD l seen r → ∀ x v, seen.contains x = false → lk r x = some v → lk l x = some v
  | [], _, _, _, _, _, h => by simp [lk] at h
  | (y, u) :: r, seen, ⟨h1, h2⟩, x, v, hs, h => by
    by_cases hx : y = x
    · subst hx
      rw [lk_cons_same] at h
      injection h with h
      subst h
      rw [hs] at h1
      exact h1
    · rw [lk_cons_ne u r hx] at h
      refine subD.get h2 x v ?_ h
      simp only [List.contains_cons, hs, Bool.or_false, beq_eq_false_iff_ne, ne_eq]
      exact fun e => hx e.symm

theorem Kn.subD {n : Nat} {a : Act} {l r : List (Nat × Value)} (hk : Kn df n a l) (h : Proofs.Ytakejjfmbgbedaa.subD l [] r) : Kn df n a r :=
  ⟨hk.size, fun x v hx => hk.get x v (h.get x v rfl hx), hk.defers⟩

section
variable {P : Program} {Q : Exit → Act → World → Prop} {a : Act} {w : World} {w0 : Bs} {n : Nat} {l0 : List (Nat × Value)}

theorem lk_app {V l : List (Nat × Value)} {x : Nat} {v : Value} : lk (V ++ l) x = some v → lk V x = some v ∨ (lk V x = none ∧ lk l x = some v) := by
  induction V with
  | nil => intro h; exact .inr ⟨rfl, h⟩
  | cons p V ih =>
    obtain ⟨y, u⟩ := p
    intro h
    by_cases hx : y = x
    · subst hx
      simp only [List.cons_append, lk_cons_same] at h ⊢
      exact .inl h
    · simp only [List.cons_append, lk_cons_ne _ _ hx] at h ⊢
      exact ih h

theorem Kn.app {V : List (Nat × Value)} (hk : Kn df n a l0) (hV : subK l0 V) : Kn df n a (V ++ l0) :=
  ⟨hk.size, fun x v hx => by
    rcases lk_app hx with h | ⟨_, h⟩
    · exact hk.get x v (hV.lk x v h)
    · exact hk.get x v h, hk.defers⟩

/-- A loop over i, from 0 to at most N. V: the slots that it turns; Ls: what is owned; F: what is so. -/
theorem wp_for {ι : Type} {c : Code} (N : Nat) (V : Nat → ι → List (Nat × Value)) (Ls : Nat → ι → List HP) (F : Nat → ι → Prop) (x0 : ι) (hk : Kn df n a l0) (hV : subK l0 (V 0 x0)) (hS : St w0 (Ls 0 x0) w) (hF : F 0 x0)
    (step : ∀ (i : Nat) (x : ι) (a : Act) (w : World), i ≤ N → Kn df n a (V i x ++ l0) → St w0 (Ls i x) w → F i x →
      c.wpIn (FR rr) 0 P (Exit.then (fun a' w' => i < N ∧ ∃ x', Kn df n a' (V (i + 1) x' ++ l0) ∧ St w0 (Ls (i + 1) x') w' ∧ F (i + 1) x') Q) a w) : (Code.loop c).wpIn (FR rr) 0 P Q a w := by
  refine wp_loopN (fun k a w => ∃ i x, i ≤ N ∧ k = N - i ∧ Kn df n a (V i x ++ l0) ∧ St w0 (Ls i x) w ∧ F i x) (k := N) ⟨0, x0, by omega, by omega, hk.app hV, hS, hF⟩ ?_
  rintro k a w ⟨i, x, hi, rfl, hk, hS, hF⟩
  refine wpIn_mono (step i x a w hi hk hS hF) ?_
  intro e a' w' hq
  cases e with
  | normal =>
    obtain ⟨hlt, x', h1, h2, h3⟩ := hq
    exact ⟨N - (i + 1), by omega, i + 1, x', by omega, rfl, h1, h2, h3⟩
  | exit i => exact hq
  | goto i => exact hq
  | ret => exact hq
  | panic c => exact hq
  | outgrown => exact hq
end
end Go.Proofs.Ytakejjfmbgbedaa
