/- Layer 20, plain: looks that may be, and aren't the same, are marked otherwise. -/
import Derived.Test.YtakejjfmbgbedaaDressPut
namespace Go.Proofs.Ytakejjfmbgbedaa

open Classical in
theorem clnC_nodup : ∀ (l : List ByteArray), l.Nodup → clnC l = l := by
  intro l
  suffices h : ∀ n, n ≤ l.length → l.Nodup → clnC (l.take n) = l.take n by
    intro hn
    have := h l.length (Nat.le_refl _) hn
    rwa [List.take_length] at this
  intro n
  induction n with
  | zero => intro _ _; rfl
  | succ n ih =>
    intro hn hd
    have hx : l[n]? = some l[n] := List.getElem?_eq_getElem (by omega)
    rw [take_snocC hx, clnC_snoc, ih (by omega) hd]
    unfold addC
    rw [if_neg]
    intro hm
    obtain ⟨j, hj, he⟩ := List.getElem_of_mem hm
    rw [List.length_take] at hj
    rw [List.getElem_take] at he
    have := (List.getElem_inj hd).1 he
    omega

def looksV : List (Int × Int) := [(0, 0), (1, 0), (2, 0), (3, 0), (4, 0), (5, 0), (6, 0), (0, 1), (0, 2)]
theorem may_mem {k m x y : Int} (h : mayL k m x y = true) : (k, m) ∈ looksV := by
  unfold mayL at h
  simp only [decide_eq_true_eq] at h
  simp only [looksV, List.mem_cons, Prod.mk.injEq, List.not_mem_nil, or_false]
  omega
theorem looks_nodup : ∀ p ∈ looksV, (clsL p.1 p.2).Nodup := by decide +kernel
theorem looks_inj : ∀ p ∈ looksV, ∀ q ∈ looksV, clsL p.1 p.2 = clsL q.1 q.2 → p.1 = q.1 ∧ (p.2 = 0 ↔ q.2 = 0) := by decide +kernel

theorem mov_snap (m x y : Int) : snapF nmI (movP m x y) = movP m x y := by
  refine snap_of_rises nmI ?_
  unfold movP
  split
  · refine List.Pairwise.cons (fun p hp => ?_) (List.Pairwise.cons (fun p hp => by cases hp) List.Pairwise.nil)
    rw [List.mem_singleton] at hp
    subst hp
    show Lin.lt (⟨#[116, 45, 100, 120]⟩ : ByteArray) ⟨#[116, 45, 100, 121]⟩ = true
    decide +kernel
  · exact List.Pairwise.nil

theorem apart_eq {k m x y k' m' x' y' : Int} (h : mayL k m x y = true) (h' : mayL k' m' x' y' = true) :
    (clnC (clsL k m) = clnC (clsL k' m') ∧ snapF nmS (ghoP k) = snapF nmS (ghoP k') ∧ snapF nmI (movP m x y) = snapF nmI (movP m' x' y')) ↔ (k = k' ∧ m = m' ∧ x = x' ∧ y = y') := by
  have hm := may_mem h
  have hm' := may_mem h'
  rw [clnC_nodup _ (looks_nodup _ hm), clnC_nodup _ (looks_nodup _ hm'), mov_snap, mov_snap]
  constructor
  · rintro ⟨h1, _, h3⟩
    obtain ⟨e1, e2⟩ := looks_inj _ hm _ hm' h1
    simp only at e1 e2
    unfold mayL at h h'
    simp only [decide_eq_true_eq] at h h'
    unfold movP at h3
    split at h3
    · split at h3
      · simp only [List.cons.injEq, Prod.mk.injEq, true_and, and_true] at h3
        omega
      · cases h3
    · split at h3
      · cases h3
      · omega
  · rintro ⟨rfl, rfl, rfl, rfl⟩
    exact ⟨rfl, rfl, rfl⟩
end Go.Proofs.Ytakejjfmbgbedaa
