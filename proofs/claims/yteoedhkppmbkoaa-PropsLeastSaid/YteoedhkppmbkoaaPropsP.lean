/- Layer 4: no steps are fewer: the plain law. -/
import Derived.Test.YteoedhkppmbkoaaPropsLaw
namespace Go.Proofs.Yteoedhkppmbkoaa

/-- What stands in another list, each once, is no more. -/
theorem nodup_le {β : Type} [DecidableEq β] : ∀ {l m : List β}, l.Nodup → (∀ x ∈ l, x ∈ m) → l.length ≤ m.length
  | [], _, _, _ => by simp
  | x :: l, m, hn, h => by
    have hx : x ∈ m := h x (by simp)
    have hn' := List.nodup_cons.1 hn
    have := nodup_le (m := m.erase x) hn'.2 (fun y hy => by
      have hne : y ≠ x := fun e => hn'.1 (by rw [← e]; exact hy)
      exact (List.mem_erase_of_ne hne).2 (h y (by simp [hy])))
    rw [List.length_erase_of_mem hx] at this
    have := List.length_pos_of_mem hx
    simp only [List.length_cons]
    omega

/-- The names at which two maps differ. -/
def diffs (A B : List PrI) : List ByteArray := (turn1I B A).map (fun s => s.2.1) ++ (turn2I A B).map (fun s => s.2.1)
theorem diffs_len (A B : List PrI) : (diffs A B).length = (turn1I B A ++ turn2I A B).length := by simp [diffs]

theorem mem_turn1 {A B : List PrI} {n : ByteArray} : n ∈ (turn1I B A).map (fun s => s.2.1) ↔ (∃ p ∈ A, p.1 = n) ∧ lastF nmI B n = none := by
  simp only [turn1I, List.map_map, List.mem_map, List.mem_filter, Function.comp_apply]
  constructor
  · rintro ⟨p, ⟨h1, h2⟩, rfl⟩
    exact ⟨⟨p, h1, rfl⟩, by simpa using h2⟩
  · rintro ⟨⟨p, h1, rfl⟩, h2⟩
    exact ⟨p, ⟨h1, by simp [h2]⟩, rfl⟩
theorem mem_turn2 {A B : List PrI} {n : ByteArray} : n ∈ (turn2I A B).map (fun s => s.2.1) ↔ ∃ p ∈ B, p.1 = n ∧ lastF nmI A n ≠ some p := by
  simp only [turn2I, List.map_map, List.mem_map, List.mem_filter, Function.comp_apply]
  constructor
  · rintro ⟨p, ⟨h1, h2⟩, rfl⟩
    exact ⟨p, h1, rfl, by simpa using h2⟩
  · rintro ⟨p, h1, rfl, h2⟩
    exact ⟨p, ⟨h1, by simpa using h2⟩, rfl⟩

theorem mem_diffs {A B : List PrI} (hA : Rises nmI A) (hB : Rises nmI B) {n : ByteArray} : n ∈ diffs A B ↔ lastF nmI A n ≠ lastF nmI B n := by
  unfold diffs
  rw [List.mem_append, mem_turn1, mem_turn2]
  constructor
  · rintro (⟨⟨p, h1, rfl⟩, h2⟩ | ⟨p, h1, rfl, h2⟩)
    · rw [h2, rises_last nmI hA h1]
      simp
    · rw [rises_last nmI hB h1]
      exact h2
  · intro h
    cases hb : lastF nmI B n with
    | some p =>
      right
      refine ⟨p, last_mem nmI hb, last_key nmI hb, ?_⟩
      rw [hb] at h; exact h
    | none =>
      left
      cases ha : lastF nmI A n with
      | some p => exact ⟨⟨p, last_mem nmI ha, last_key nmI ha⟩, rfl⟩
      | none => rw [ha, hb] at h; exact absurd rfl h

theorem names_nodup {A : List PrI} (hA : Rises nmI A) (q : PrI → Bool) : ((A.filter q).map nmI).Nodup := by
  rw [List.Nodup, List.pairwise_map]
  exact (List.Pairwise.filter q hA).imp (fun h => Lin.ne h)

theorem diffs_nodup {A B : List PrI} (hA : Rises nmI A) (hB : Rises nmI B) : (diffs A B).Nodup := by
  unfold diffs
  rw [List.nodup_append]
  refine ⟨?_, ?_, ?_⟩
  · have := names_nodup hA (fun p => (lastF nmI B p.1).isNone)
    simpa [turn1I, List.map_map, Function.comp_def] using this
  · have := names_nodup hB (fun p => decide (lastF nmI A p.1 ≠ some p))
    simpa [turn2I, List.map_map, Function.comp_def] using this
  · intro x hx y hy e
    subst e
    obtain ⟨_, h2⟩ := mem_turn1.1 hx
    obtain ⟨p, h3, rfl, _⟩ := mem_turn2.1 hy
    rw [rises_last nmI hB h3] at h2
    cases h2

theorem drop_last (M : List PrI) (k n : ByteArray) (hM : Rises nmI M) (h : n ≠ k) : lastF nmI (dropI M k) n = lastF nmI M n := by
  have hr := dropI_rises M k
  have hs : snapF nmI M = M := snap_of_rises nmI hM
  cases hl : lastF nmI M n with
  | some p =>
    have hk := last_key nmI hl
    subst hk
    refine rises_last nmI hr ?_
    unfold dropI
    rw [hs, List.mem_filter]
    exact ⟨last_mem nmI hl, by simpa using h⟩
  | none =>
    refine last_none nmI (fun p hp e => ?_)
    unfold dropI at hp
    rw [hs, List.mem_filter] at hp
    subst e
    rw [rises_last nmI hM hp.1] at hl
    cases hl
theorem put_last (M : List PrI) (p : PrI) (n : ByteArray) (hM : Rises nmI M) (h : n ≠ p.1) : lastF nmI (putF nmI M p) n = lastF nmI M n := by
  rw [← snap_app nmI hM, snap_last_eq, last_snoc, if_neg (fun e => h e.symm)]

theorem step_diffs {M B : List PrI} (hM : Rises nmI M) (hB : Rises nmI B) (s : SpI) : (diffs M B).length ≤ (diffs (stepI M s) B).length + 1 := by
  have hs := stepI_rises hM s
  have := nodup_le (m := s.2.1 :: diffs (stepI M s) B) (diffs_nodup hM hB) (fun n hn => by
    by_cases e : n = s.2.1
    · rw [e]; simp
    · refine List.mem_cons_of_mem _ ((mem_diffs hs hB).2 ?_)
      have h1 := (mem_diffs hM hB).1 hn
      have : lastF nmI (stepI M s) n = lastF nmI M n := by
        unfold stepI
        split
        · exact drop_last M s.2.1 n hM e
        · exact put_last M s.2 n hM e
      rw [this]
      exact h1)
  simpa using this

theorem diffs_self {B : List PrI} (hB : Rises nmI B) : diffs B B = [] := by
  apply List.eq_nil_iff_forall_not_mem.2
  intro n hn
  exact (mem_diffs hB hB).1 hn rfl

theorem least (a b : List PrI) (t : List SpI) (h : applyI a t = snapF nmI b) : (turnI a b).length ≤ t.length := by
  have hB := snap_rises nmI b
  have : ∀ (t : List SpI) (M : List PrI), Rises nmI M → t.foldl stepI M = snapF nmI b → (diffs M (snapF nmI b)).length ≤ t.length := by
    intro t
    induction t with
    | nil =>
      intro M _ h
      rw [List.foldl_nil] at h
      rw [h, diffs_self hB]
      simp
    | cons s t ih =>
      intro M hM h
      rw [List.foldl_cons] at h
      have h1 := ih _ (stepI_rises hM s) h
      have h2 := step_diffs hM hB s
      rw [List.length_cons]
      omega
  have h1 := this t _ (snap_rises nmI a) h
  rw [diffs_len] at h1
  exact h1
theorem turn_le (a b : List PrI) : (turnI a b).length ≤ (snapF nmI a).length + (snapF nmI b).length := by
  unfold turnI
  rw [List.length_append]
  have := turn1I_len (snapF nmI b) (snapF nmI a)
  have := turn2I_len (snapF nmI a) (snapF nmI b)
  omega
end Go.Proofs.Yteoedhkppmbkoaa
