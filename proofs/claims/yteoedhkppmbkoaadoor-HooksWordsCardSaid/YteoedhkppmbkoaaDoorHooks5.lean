/- Layer 19: enters and leaves, by turns. -/
import Derived.Test.YteoedhkppmbkoaaDoorHooks4
namespace Go.Proofs.YteoedhkppmbkoaaDoor
open Go.RowKit
set_option maxRecDepth 100000
attribute [local irreducible] Go.Code.wp Go.wpList Go.Calls Gives Go.Exit.then Go.Exit.inBlock Done ObxE

def ind (s t : Int) : Int := if s = t then 1 else 0
def CI (s n1 n2 a L n6 al : Int) : Prop := 0 ≤ s ∧ s ≤ 6 ∧ n1 = n2 + ind s 1 ∧ n2 = a + ind s 2 ∧ L = n6 + ind s 4 ∧ n6 = al + ind s 5 ∧ if s = 0 then a = 0 ∧ al = 0 else if s = 1 ∨ s = 2 ∨ s = 6 then a = al ∨ a + 1 = al else a = al + 1 ∨ a = al
theorem CI.le {s n1 n2 a L n6 al : Int} (h : CI s n1 n2 a L n6 al) : n2 ≤ n1 ∧ a ≤ n2 ∧ n6 ≤ L ∧ al ≤ n6 ∧ n1 ≤ al + 1 ∧ L ≤ a + 1 := by
  obtain ⟨h0, h6, h1, h2, h3, h4, h5⟩ := h
  have hs : s = 0 ∨ s = 1 ∨ s = 2 ∨ s = 3 ∨ s = 4 ∨ s = 5 ∨ s = 6 := by omega
  rcases hs with rfl | rfl | rfl | rfl | rfl | rfl | rfl <;> simp [ind] at h1 h2 h3 h4 h5 <;> omega
theorem nextF_in {s h : Int} (hn : nextF s h ≠ -1) : 1 ≤ h ∧ h ≤ 8 := by
  unfold nextF at hn; (repeat' split at hn) <;> omega
theorem nextF_1 {s : Int} (hn : nextF s 1 ≠ -1) : (s = 0 ∨ s = 6) ∧ nextF s 1 = 1 := by
  unfold nextF at *; (repeat' split) <;> (repeat' split at hn) <;> omega
theorem nextF_2 {s : Int} (hn : nextF s 2 ≠ -1) : s = 1 ∧ nextF s 2 = 2 := by
  unfold nextF at *; (repeat' split) <;> (repeat' split at hn) <;> omega
theorem nextF_3 {s : Int} (hn : nextF s 3 ≠ -1) : s = 2 ∧ nextF s 3 = 3 := by
  unfold nextF at *; (repeat' split) <;> (repeat' split at hn) <;> omega
theorem nextF_4 {s : Int} (hn : nextF s 4 ≠ -1) : s = 2 ∧ nextF s 4 = 3 := by
  unfold nextF at *; (repeat' split) <;> (repeat' split at hn) <;> omega
theorem nextF_5 {s : Int} (hn : nextF s 5 ≠ -1) : (s = 0 ∨ s = 3) ∧ nextF s 5 = 4 := by
  unfold nextF at *; (repeat' split) <;> (repeat' split at hn) <;> omega
theorem nextF_6 {s : Int} (hn : nextF s 6 ≠ -1) : s = 4 ∧ nextF s 6 = 5 := by
  unfold nextF at *; (repeat' split) <;> (repeat' split at hn) <;> omega
theorem nextF_7 {s : Int} (hn : nextF s 7 ≠ -1) : s = 5 ∧ nextF s 7 = 6 := by
  unfold nextF at *; (repeat' split) <;> (repeat' split at hn) <;> omega
theorem nextF_8 {s : Int} (hn : nextF s 8 ≠ -1) : s = 5 ∧ nextF s 8 = 6 := by
  unfold nextF at *; (repeat' split) <;> (repeat' split at hn) <;> omega
theorem CI_1 {s n1 n2 a L n6 al : Int} (h : CI s n1 n2 a L n6 al) (hn : nextF s 1 ≠ -1) : CI (nextF s 1) (n1 + 1) n2 a L n6 al := by
  obtain ⟨h1, h2⟩ := nextF_1 hn
  rw [h2]
  clear h2 hn
  obtain ⟨_, _, g1, g2, g3, g4, g5⟩ := h
  first
    | (subst h1; simp [ind] at g1 g2 g3 g4 g5; simp [CI, ind]; omega)
    | (rcases h1 with h1 | h1 <;> (subst h1; simp [ind] at g1 g2 g3 g4 g5; simp [CI, ind]; omega))
theorem CI_2 {s n1 n2 a L n6 al : Int} (h : CI s n1 n2 a L n6 al) (hn : nextF s 2 ≠ -1) : CI (nextF s 2) n1 (n2 + 1) a L n6 al := by
  obtain ⟨h1, h2⟩ := nextF_2 hn
  rw [h2]
  clear h2 hn
  obtain ⟨_, _, g1, g2, g3, g4, g5⟩ := h
  first
    | (subst h1; simp [ind] at g1 g2 g3 g4 g5; simp [CI, ind]; omega)
    | (rcases h1 with h1 | h1 <;> (subst h1; simp [ind] at g1 g2 g3 g4 g5; simp [CI, ind]; omega))
theorem CI_3 {s n1 n2 a L n6 al : Int} (h : CI s n1 n2 a L n6 al) (hn : nextF s 3 ≠ -1) : CI (nextF s 3) n1 n2 (a + 1) L n6 al := by
  obtain ⟨h1, h2⟩ := nextF_3 hn
  rw [h2]
  clear h2 hn
  obtain ⟨_, _, g1, g2, g3, g4, g5⟩ := h
  first
    | (subst h1; simp [ind] at g1 g2 g3 g4 g5; simp [CI, ind]; omega)
    | (rcases h1 with h1 | h1 <;> (subst h1; simp [ind] at g1 g2 g3 g4 g5; simp [CI, ind]; omega))
theorem CI_4 {s n1 n2 a L n6 al : Int} (h : CI s n1 n2 a L n6 al) (hn : nextF s 4 ≠ -1) : CI (nextF s 4) n1 n2 (a + 1) L n6 al := by
  obtain ⟨h1, h2⟩ := nextF_4 hn
  rw [h2]
  clear h2 hn
  obtain ⟨_, _, g1, g2, g3, g4, g5⟩ := h
  first
    | (subst h1; simp [ind] at g1 g2 g3 g4 g5; simp [CI, ind]; omega)
    | (rcases h1 with h1 | h1 <;> (subst h1; simp [ind] at g1 g2 g3 g4 g5; simp [CI, ind]; omega))
theorem CI_5 {s n1 n2 a L n6 al : Int} (h : CI s n1 n2 a L n6 al) (hn : nextF s 5 ≠ -1) : CI (nextF s 5) n1 n2 a (L + 1) n6 al := by
  obtain ⟨h1, h2⟩ := nextF_5 hn
  rw [h2]
  clear h2 hn
  obtain ⟨_, _, g1, g2, g3, g4, g5⟩ := h
  first
    | (subst h1; simp [ind] at g1 g2 g3 g4 g5; simp [CI, ind]; omega)
    | (rcases h1 with h1 | h1 <;> (subst h1; simp [ind] at g1 g2 g3 g4 g5; simp [CI, ind]; omega))
theorem CI_6 {s n1 n2 a L n6 al : Int} (h : CI s n1 n2 a L n6 al) (hn : nextF s 6 ≠ -1) : CI (nextF s 6) n1 n2 a L (n6 + 1) al := by
  obtain ⟨h1, h2⟩ := nextF_6 hn
  rw [h2]
  clear h2 hn
  obtain ⟨_, _, g1, g2, g3, g4, g5⟩ := h
  first
    | (subst h1; simp [ind] at g1 g2 g3 g4 g5; simp [CI, ind]; omega)
    | (rcases h1 with h1 | h1 <;> (subst h1; simp [ind] at g1 g2 g3 g4 g5; simp [CI, ind]; omega))
theorem CI_7 {s n1 n2 a L n6 al : Int} (h : CI s n1 n2 a L n6 al) (hn : nextF s 7 ≠ -1) : CI (nextF s 7) n1 n2 a L n6 (al + 1) := by
  obtain ⟨h1, h2⟩ := nextF_7 hn
  rw [h2]
  clear h2 hn
  obtain ⟨_, _, g1, g2, g3, g4, g5⟩ := h
  first
    | (subst h1; simp [ind] at g1 g2 g3 g4 g5; simp [CI, ind]; omega)
    | (rcases h1 with h1 | h1 <;> (subst h1; simp [ind] at g1 g2 g3 g4 g5; simp [CI, ind]; omega))
theorem CI_8 {s n1 n2 a L n6 al : Int} (h : CI s n1 n2 a L n6 al) (hn : nextF s 8 ≠ -1) : CI (nextF s 8) n1 n2 a L n6 (al + 1) := by
  obtain ⟨h1, h2⟩ := nextF_8 hn
  rw [h2]
  clear h2 hn
  obtain ⟨_, _, g1, g2, g3, g4, g5⟩ := h
  first
    | (subst h1; simp [ind] at g1 g2 g3 g4 g5; simp [CI, ind]; omega)
    | (rcases h1 with h1 | h1 <;> (subst h1; simp [ind] at g1 g2 g3 g4 g5; simp [CI, ind]; omega))
end Go.Proofs.YteoedhkppmbkoaaDoor
