/- Layer 23: what is left never grows: the plain law. -/
import Derived.Test.YtbjbpgjbpigjaaaFlipRef
namespace Go.Proofs.Ytbjbpgjbpigjaaa
open Go.RowKit

theorem and_bd (p : Int) (m : Nat) (hm : m < 4611686018427387904) : 0 ≤ bits .and .i64 p (m : Int) ∧ bits .and .i64 p (m : Int) ≤ (m : Int) := by
  have h1 : (BitVec.ofInt 64 p &&& BitVec.ofInt 64 (m : Int)).toNat ≤ m := by
    rw [BitVec.toNat_and]
    refine Nat.le_trans Nat.and_le_right ?_
    rw [BitVec.ofInt_natCast, BitVec.toNat_ofNat, Nat.mod_eq_of_lt (by omega)]
    exact Nat.le_refl m
  have h2 : bits .and .i64 p (m : Int) = ((BitVec.ofInt 64 p &&& BitVec.ofInt 64 (m : Int)).toNat : Int) := by
    show IntKind.i64.wrap ((BitVec.ofInt 64 p &&& BitVec.ofInt 64 (m : Int)).toNat : Int) = _
    exact IntWalk.i64_in _ ⟨by omega, by omega⟩
  rw [h2]
  omega

theorem fl_ediv {a b : Int} (hb : 0 < b) : flF a b = a / b := by
  obtain ⟨h1, h2, h3, h4⟩ := tmod_facts (a := a) (b := b) (by omega)
  have e1 := Int.mul_ediv_add_emod a b
  have e2 := Int.emod_nonneg a (show b ≠ 0 by omega)
  have e3 := Int.emod_lt_of_pos a hb
  unfold flF
  generalize a.tmod b = r at *
  generalize a.tdiv b = q at *
  have key : ∀ c s : Int, b * c + s = a → 0 ≤ s → s < b → c = a / b := by
    intro c s hc h0 h1
    have : a / b = c := by
      rw [← hc, Int.add_comm, Int.add_mul_ediv_left _ _ (by omega), Int.ediv_eq_zero_of_lt h0 h1, Int.zero_add]
    exact this.symm
  by_cases hr : r < 0
  · rw [if_pos (by simp [hr, show ¬ b < 0 by omega]; omega)]
    exact key (q - 1) (r + b) (by rw [Int.mul_sub, Int.mul_one]; omega) (by omega) (by omega)
  · rw [if_neg (by simp [hr, show ¬ b < 0 by omega])]
    exact key q r h1 (by omega) (by omega)

/-- What is left of D. -/
def gF (D dur t : Int) : Int := D * (dur - t) / dur

theorem gF_left {D dur t : Int} (hD : -2000000 ≤ D ∧ D ≤ 2000000) (hd : 1 ≤ dur ∧ dur ≤ 512) (ht : 0 ≤ t ∧ t ≤ dur) : leftF (1, D, -D) t dur = (1, gF D dur t, gF (-D) dur t) := by
  have hd0 : dur ≠ 0 := by omega
  have one : ∀ E : Int, -2000000 ≤ E ∧ E ≤ 2000000 → 1 ≤ t → t < dur → divF (mulF E (dur - t)) dur = gF E dur t := by
    intro E hE h1 h2
    have e1 : satF E = E := by unfold satF; omega
    have e2 : satF (dur - t) = dur - t := by unfold satF; omega
    have hpn : (E * (dur - t)).natAbs ≤ 2000000 * 512 := by
      rw [Int.natAbs_mul]
      exact Nat.mul_le_mul (by omega) (by omega)
    have hp : -2147483648 ≤ E * (dur - t) ∧ E * (dur - t) ≤ 2147483647 := by omega
    have e3 : satF (E * (dur - t)) = E * (dur - t) := by unfold satF; omega
    have e4 : satF dur = dur := by unfold satF; omega
    unfold divF mulF gF
    rw [if_neg hd0, e1, e2, e3, e3, e4, fl_ediv (by omega)]
    have this : (E * (dur - t) / dur).natAbs ≤ 2000000 * 512 := Nat.le_trans (Int.natAbs_ediv_le_natAbs _ _) hpn
    generalize E * (dur - t) / dur = q at *
    unfold satF
    omega
  unfold leftF
  by_cases h1 : dur ≤ t
  · have : t = dur := by omega
    subst this
    rw [if_pos (.inr (by omega))]
    simp [gF]
  · rw [if_neg (by omega)]
    by_cases h2 : t < 1
    · have : t = 0 := by omega
      subst this
      rw [if_pos h2]
      simp only [gF, Int.sub_zero]
      rw [Int.mul_ediv_cancel _ hd0, Int.mul_ediv_cancel _ hd0]
    · rw [if_neg h2]
      simp only
      rw [one D hD (by omega) (by omega), one (-D) (by omega) (by omega) (by omega)]

def farF (n : Int) : Int := if n < 0 then -n else n

theorem gF_pos {D dur t : Int} (hd : 1 ≤ dur) (ht : t ≤ dur) (hD : 0 ≤ D) : 0 ≤ gF D dur t := Int.ediv_nonneg (Int.mul_nonneg hD (by omega)) (by omega)
theorem gF_neg {D dur t : Int} (hd : 1 ≤ dur) (ht : t ≤ dur) (hD : D ≤ 0) : gF D dur t ≤ 0 := by
  have h : D * (dur - t) ≤ 0 := Int.mul_nonpos_of_nonpos_of_nonneg hD (by omega)
  have h2 := Int.ediv_le_ediv (show 0 < dur by omega) h
  simpa [gF] using h2
theorem far_pos {m n : Int} (h0 : 0 ≤ m) (h : m ≤ n) : farF m ≤ farF n := by unfold farF; rw [if_neg (by omega), if_neg (by omega)]; exact h
theorem far_neg {m n : Int} (h0 : m ≤ 0) (h : n ≤ m) : farF m ≤ farF n := by unfold farF; split <;> split <;> omega
theorem gF_step {D dur t : Int} (hd : 1 ≤ dur) (ht : t + 1 ≤ dur) : farF (gF D dur (t + 1)) ≤ farF (gF D dur t) := by
  rcases Int.le_total 0 D with hD | hD
  · refine far_pos (gF_pos hd ht hD) ?_
    exact Int.ediv_le_ediv (show 0 < dur by omega) (Int.mul_le_mul_of_nonneg_left (show dur - (t + 1) ≤ dur - t by omega) hD)
  · refine far_neg (gF_neg hd ht hD) ?_
    exact Int.ediv_le_ediv (show 0 < dur by omega) (Int.mul_le_mul_of_nonpos_left hD (show dur - (t + 1) ≤ dur - t by omega))
theorem gF_bd {D dur t : Int} (hd : 1 ≤ dur) (ht : 0 ≤ t ∧ t ≤ dur) : (gF D dur t).natAbs ≤ D.natAbs := by
  obtain ⟨k, rfl⟩ : ∃ k : Nat, t = k := ⟨t.toNat, by omega⟩
  have : ∀ k : Nat, (k : Int) ≤ dur → farF (gF D dur k) ≤ farF D := by
    intro k
    induction k with
    | zero =>
      intro _
      simp only [gF, Int.natCast_zero, Int.sub_zero]
      rw [Int.mul_ediv_cancel _ (show dur ≠ 0 by omega)]
      exact Int.le_refl _
    | succ k ih =>
      intro h
      have e : ((k + 1 : Nat) : Int) = (k : Int) + 1 := by omega
      rw [e] at h ⊢
      exact Int.le_trans (gF_step hd h) (ih (by omega))
  have h := this k ht.2
  unfold farF at h
  split at h <;> split at h <;> omega
end Go.Proofs.Ytbjbpgjbpigjaaa
