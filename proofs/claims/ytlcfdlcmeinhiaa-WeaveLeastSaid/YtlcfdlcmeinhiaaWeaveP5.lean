/- Layer 12: how many steps there are, how many are moves; no others are fewer: in plain words. -/
import Derived.Test.YtlcfdlcmeinhiaaWeaveP4
namespace Go.Proofs.Ytlcfdlcmeinhiaa

/-! ## Counts -/
def mvP (f t : List Int) (x : Int) : Bool := decide (x ∈ f) && !decide (x ∈ staysF f t)
theorem moves_app (a c : List StepW) : movesF (a ++ c) = movesF a + movesF c := by unfold movesF; rw [List.countP_append]
theorem moves_drops (f t : List Int) : movesF (dropsF f t) = 0 := by
  unfold movesF dropsF
  rw [List.countP_map, List.countP_eq_zero]
  intro x _
  simp
theorem count_run {f t : List Int} (ht : t.Nodup) : ∀ k, k ≤ t.length →
    movesF (stW f t (t.length - k)).2 = (t.drop (t.length - k)).countP (mvP f t) ∧
    (stW f t (t.length - k)).2.length = (dropsF f t).length + (t.drop (t.length - k)).countP (fun x => !decide (x ∈ staysF f t)) ∧
    ((stW f t (t.length - k)).2.map (fun s => s.2.1)).Nodup = ((dropsF f t).map (fun s => s.2.1)).Nodup ∧
    (∀ x ∈ (stW f t (t.length - k)).2.map (fun s => s.2.1), x ∈ (dropsF f t).map (fun s => s.2.1) ∨ x ∈ t.drop (t.length - k))
  | 0, _ => by
    rw [Nat.sub_zero, st_end]
    simp [moves_drops]
  | k + 1, hk => by
    have ih := count_run (f := f) ht k (by omega)
    have hi : t.length - (k + 1) < t.length := by omega
    rw [show t.length - k = t.length - (k + 1) + 1 by omega] at ih
    obtain ⟨id, hid⟩ : ∃ id, t[t.length - (k + 1)]? = some id := ⟨_, List.getElem?_eq_getElem hi⟩
    generalize t.length - (k + 1) = i at *
    obtain ⟨hd1, hd2, hd3, hd4⟩ := nodup_drop ht hid
    obtain ⟨ih1, ih2, ih3, ih4⟩ := ih
    by_cases hs : id ∈ staysF f t
    · rw [st_stays hid hs, hd3]
      have e1 : mvP f t id = false := by unfold mvP; simp [hs]
      refine ⟨by rw [List.countP_cons_of_neg (by rw [e1]; simp)]; exact ih1, by rw [List.countP_cons_of_neg (by simp [hs])]; exact ih2, ih3, fun x hx => (ih4 x hx).imp (fun h => h) (fun h => List.mem_cons_of_mem _ h)⟩
    · rw [st_put hid hs, hd3]
      refine ⟨?_, ?_, ?_, ?_⟩
      · simp only
        rw [moves_app, ih1, List.countP_cons]
        congr 1
        unfold movesF mvP
        by_cases hin : id ∈ f <;> simp [hin, hs]
      · simp only
        rw [List.length_append, ih2, List.countP_cons_of_pos (by simp [hs])]
        simp; omega
      · simp only
        rw [List.map_append, ← ih3]
        refine propext ⟨fun h => (List.nodup_append.1 h).1, fun h => List.nodup_append.2 ⟨h, by simp, ?_⟩⟩
        intro x hx y hy e
        simp only [List.map_cons, List.map_nil, List.mem_singleton] at hy
        subst hy; subst e
        rcases ih4 x hx with h | h
        · unfold dropsF at h
          rw [List.map_map] at h
          obtain ⟨z, hz, e⟩ := List.mem_map.1 h
          simp only [Function.comp] at e
          subst e
          have := (List.mem_filter.1 hz).2
          simp [List.mem_of_getElem? hid] at this
        · exact hd1 h
      · simp only
        intro x hx
        rw [List.map_append] at hx
        rcases List.mem_append.1 hx with hx | hx
        · exact (ih4 x hx).imp (fun h => h) (fun h => List.mem_cons_of_mem _ h)
        · simp only [List.map_cons, List.map_nil, List.mem_singleton] at hx
          exact .inr (by rw [hx]; exact List.mem_cons_self)
theorem cnt_split {α : Type} (p : α → Bool) : ∀ l : List α, l.countP p + l.countP (fun x => !p x) = l.length
  | [] => rfl
  | x :: l => by
    have := cnt_split p l
    rw [List.countP_cons, List.countP_cons, List.length_cons]
    cases p x <;> simp <;> omega
theorem count_split {l s : List Int} (hl : l.Nodup) (hs : s.Sublist l) : l.countP (fun x => !decide (x ∈ s)) + s.length = l.length := by
  have h1 : l.countP (fun x => decide (x ∈ s)) = s.length := by rw [List.countP_eq_length_filter, filter_sub hs hl]
  have h2 := cnt_split (fun x => decide (x ∈ s)) l
  omega
theorem ids_nodup {f t : List Int} (ht : t.Nodup) : (idsF f t).Nodup := ht.sublist (ids_sub f t)
/-- **As many moves as numbers in both, less the longest row.** -/
theorem moves_steps {f t : List Int} (ht : t.Nodup) : movesF (stepsF f t) + top (oldF f t) (oldF f t).length = (idsF f t).length := by
  have h := (count_run (f := f) ht t.length (Nat.le_refl _)).1
  rw [Nat.sub_self, List.drop_zero] at h
  have h2 := count_split (ids_nodup (f := f) ht) (stays_ids f t)
  rw [stays_len] at h2
  have h3 : t.countP (mvP f t) = (idsF f t).countP (fun x => !decide (x ∈ staysF f t)) := by
    unfold idsF
    rw [List.countP_filter]
    refine List.countP_congr (fun x _ => ?_)
    unfold mvP
    simp [and_comm]
  show movesF (stW f t 0).2 + _ = _
  rw [h, h3]
  exact h2
theorem now_ids {f t : List Int} (hf : f.Nodup) (ht : t.Nodup) : (nowF f t).length = (idsF f t).length := by
  refine Nat.le_antisymm (same_len (hf.sublist List.filter_sublist) (fun x hx => ?_)) (same_len (ids_nodup ht) (fun x hx => ?_))
  · obtain ⟨h1, h2⟩ := List.mem_filter.1 hx
    exact List.mem_filter.2 ⟨by simpa using h2, by simpa using h1⟩
  · obtain ⟨h1, h2⟩ := List.mem_filter.1 hx
    exact List.mem_filter.2 ⟨by simpa using h2, by simpa using h1⟩
theorem len_steps {f t : List Int} (hf : f.Nodup) (ht : t.Nodup) : (stepsF f t).length + (idsF f t).length + top (oldF f t) (oldF f t).length = f.length + t.length := by
  have h := (count_run (f := f) ht t.length (Nat.le_refl _)).2.1
  rw [Nat.sub_self, List.drop_zero] at h
  have h2 := count_split ht ((stays_ids f t).trans (ids_sub f t))
  rw [stays_len] at h2
  have h3 : (dropsF f t).length + (nowF f t).length = f.length := by
    unfold dropsF nowF
    rw [List.length_map, ← List.countP_eq_length_filter, ← List.countP_eq_length_filter]
    have := cnt_split (fun x => decide (x ∈ t)) f
    omega
  rw [now_ids hf ht] at h3
  show (stW f t 0).2.length + _ + _ = _
  omega
theorem once_same {l : List Int} (h : l.Nodup) : onceI l = l := by
  have key : ∀ n, n ≤ l.length → onceN l n = l.take n := by
    intro n
    induction n with
    | zero => intro _; rfl
    | succ n ih =>
      intro hn
      have hg : l[n]? = some (l[n]'(by omega)) := List.getElem?_eq_getElem (by omega)
      rw [once_succ hg, ih (by omega), take_snocW hg, if_neg (nodup_drop h hg).2.1]
  rw [onceI, key _ (Nat.le_refl _), List.take_length]
theorem ids_steps {f t : List Int} (hf : f.Nodup) (ht : t.Nodup) : ((stepsF f t).map (fun s => s.2.1)).Nodup := by
  have h := (count_run (f := f) ht t.length (Nat.le_refl _)).2.2.1
  rw [Nat.sub_self] at h
  show ((stW f t 0).2.map (fun s => s.2.1)).Nodup
  rw [h]
  unfold dropsF
  rw [List.map_map]
  have : ((fun s : StepW => s.2.1) ∘ fun x : Int => ((1, x, 0) : StepW)) = id := by funext x; rfl
  rw [this, List.map_id]
  exact hf.sublist List.filter_sublist

/-! ## No others are fewer -/
def cntP (f : List Int) (s : StepW) : Bool := decide (s.1 = 3) || (decide (s.1 = 2) && decide (s.2.1 ∈ f))
def othersF (f : List Int) (s : List StepW) : Nat := s.countP (fun s => !decide (s.1 = 3) && (decide (s.1 = 2) && decide (s.2.1 ∈ f)))
theorem cnt_len (f : List Int) : ∀ s : List StepW, s.countP (cntP f) = movesF s + othersF f s
  | [] => rfl
  | s :: r => by
    have ih := cnt_len f r
    unfold movesF othersF at *
    rw [List.countP_cons, List.countP_cons, List.countP_cons, ih]
    unfold cntP
    by_cases h3 : s.1 = 3
    · simp [h3]; omega
    · simp [h3]; omega
theorem step_keeps {f o o' : List Int} {U : Int → Bool} {s : StepW} (h : stepW o s = some o') (hU : cntP f s = true → U s.2.1 = false) (hf : ∀ x, U x = true → x ∈ f) : (o'.filter U).Sublist (o.filter U) := by
  obtain ⟨k, id, q⟩ := s
  unfold stepW at h
  have hw : ((woF o id).filter U).Sublist (o.filter U) := List.Sublist.filter _ List.filter_sublist
  split at h
  · cases h
  · split at h
    · rename_i hb hk
      simp only at hb hk h hU
      split at h
      · cases h
      · injection h with h
        subst h
        have hu : U id = false := by
          by_cases e : k = 3
          · exact hU (by unfold cntP; simp [e])
          · have e2 : k = 2 := by omega
            cases hx : U id with
            | false => rfl
            | true => exact absurd (hU (by unfold cntP; simp [e2, hf id hx])) (by simp [hx])
        unfold insF
        rw [List.filter_append, List.filter_cons_of_neg (by rw [hu]; simp), ← List.filter_append, List.take_append_drop]
        exact hw
    · injection h with h
      subst h
      exact hw
theorem apply_keeps {f : List Int} {U : Int → Bool} (hf : ∀ x, U x = true → x ∈ f) : ∀ (s : List StepW) (o o' : List Int), applyW o s = some o' → (∀ x ∈ s, cntP f x = true → U x.2.1 = false) → (o'.filter U).Sublist (o.filter U)
  | [], o, o', h, _ => by
    have : o = o' := by simpa [applyW] using h
    rw [this]; exact List.Sublist.refl _
  | x :: s, o, o', h, hU => by
    rw [← List.singleton_append, apply_app, apply_one] at h
    cases h1 : stepW o x with
    | none => rw [h1] at h; cases h
    | some o1 =>
      rw [h1, Option.bind_some] at h
      exact (apply_keeps hf s o1 o' h (fun y hy => hU y (by simp [hy]))).trans (step_keeps h1 (hU x (by simp)) hf)
/-- **No steps that come to the new list have fewer moves.** -/
theorem least {f t : List Int} (hf : f.Nodup) (ht : t.Nodup) {s : List StepW} (h : applyW f s = some t) : movesF (stepsF f t) ≤ movesF s + othersF f s := by
  obtain ⟨C, hC⟩ : ∃ C : List Int, C = (s.filter (cntP f)).map (fun x => x.2.1) := ⟨_, rfl⟩
  have hCl : C.length = movesF s + othersF f s := by rw [hC, List.length_map, ← List.countP_eq_length_filter, cnt_len]
  obtain ⟨U, hUd⟩ : ∃ U : Int → Bool, U = fun x => decide (x ∈ f) && !decide (x ∈ C) := ⟨_, rfl⟩
  have hUf : ∀ x, U x = true → x ∈ f := fun x hx => by rw [hUd] at hx; simp at hx; exact hx.1
  have hsub := apply_keeps (f := f) (U := U) hUf s f t h (fun x hx hc => by
    rw [hUd]
    have : x.2.1 ∈ C := by rw [hC]; exact List.mem_map.2 ⟨x, List.mem_filter.2 ⟨hx, hc⟩, rfl⟩
    simp [this])
  -- the untouched ones: a row of both lists
  have hu1 : (t.filter U).Sublist f := hsub.trans List.filter_sublist
  have hu2 : (t.filter U).Sublist (idsF f t) := by
    unfold idsF
    have : t.filter U = (t.filter (fun x => decide (x ∈ f))).filter U := by
      rw [List.filter_filter]
      refine List.filter_congr (fun x _ => ?_)
      by_cases hx : U x = true
      · simp [hx, hUf x hx]
      · simp [hx]
    rw [this]
    exact List.filter_sublist
  have hrow : (t.filter U).length ≤ top (oldF f t) (oldF f t).length := by
    have h1 : ((t.filter U).map (fun x => ((posI f x : Nat) : Int))).Sublist (oldF f t) := hu2.map _
    have h2 : ((t.filter U).map (fun x => ((posI f x : Nat) : Int))).Pairwise (· < ·) := by
      rw [List.pairwise_map]
      have hp : f.Pairwise (fun x y => ((posI f x : Nat) : Int) < ((posI f y : Nat) : Int)) := by
        rw [List.pairwise_iff_getElem]
        intro i j hi hj hij
        have e1 := (pos_first (List.getElem?_eq_getElem hi)).2 (nodup_drop hf (List.getElem?_eq_getElem hi)).2.1
        have e2 := (pos_first (List.getElem?_eq_getElem hj)).2 (nodup_drop hf (List.getElem?_eq_getElem hj)).2.1
        rw [e1, e2]; omega
      exact hp.sublist hu1
    have := row_le h1 h2
    rwa [List.length_map] at this
  have hsplit : (idsF f t).length ≤ (t.filter U).length + C.length := by
    have h1 := List.length_eq_countP_add_countP (p := U) (l := idsF f t)
    have h2 : (idsF f t).countP U = (t.filter U).length := by
      unfold idsF
      rw [List.countP_filter, ← List.countP_eq_length_filter]
      refine List.countP_congr (fun x _ => ?_)
      by_cases hx : U x = true
      · simp [hx, hUf x hx]
      · simp [hx]
    have h3 : (idsF f t).countP (fun a => decide ¬ U a = true) ≤ C.length := by
      rw [List.countP_eq_length_filter]
      refine same_len ((ids_nodup ht).sublist List.filter_sublist) (fun x hx => ?_)
      obtain ⟨g1, g2⟩ := List.mem_filter.1 hx
      have g3 : x ∈ f := by have := (List.mem_filter.1 g1).2; simpa using this
      rw [hUd] at g2
      simpa [g3] using g2
    omega
  have hm := moves_steps (f := f) ht
  omega
theorem moves_le {f t : List Int} (ht : t.Nodup) : movesF (stepsF f t) ≤ t.length := by
  have h1 := moves_steps (f := f) ht
  have h2 := (ids_sub f t).length_le
  omega
end Go.Proofs.Ytlcfdlcmeinhiaa
