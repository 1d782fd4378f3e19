/- Layer 12: what the steps come to, how many of them are moves; no others are fewer: in plain words. -/
import Derived.Test.YtlcfdlcmeinhiaaWeave11
namespace Go.Proofs.Ytlcfdlcmeinhiaa

/-! ## Rows that rise -/
theorem sub_row {l : List Int} : ∀ n, n ≤ l.length → ∀ s : List Int, s.Sublist (l.take n) → s.Pairwise (· < ·) → s = [] ∨ ∃ k, k < n ∧ s.length ≤ ln l k ∧ ∃ h : s ≠ [], s.getLast h = at_ l k
  | 0, _, s, hs, _ => by
    rw [List.take_zero] at hs
    exact .inl (List.sublist_nil.1 hs)
  | n + 1, hn, s, hs, hp => by
    have hg : l[n]? = some (l[n]'(by omega)) := List.getElem?_eq_getElem (by omega)
    rw [take_snocW hg, List.sublist_append_iff] at hs
    obtain ⟨s1, s2, rfl, h1, h2⟩ := hs
    have hp1 : s1.Pairwise (· < ·) := (List.pairwise_append.1 hp).1
    have ih := sub_row n (by omega) s1 h1 hp1
    cases s2 with
    | nil =>
      rw [List.append_nil]
      rcases ih with h | ⟨k, hk, h⟩
      · exact .inl h
      · exact .inr ⟨k, by omega, h⟩
    | cons x s2 =>
      have hx : x = l[n]'(by omega) ∧ s2 = [] := by
        have := h2.length_le
        cases s2 with
        | cons y s2 => simp at this
        | nil => exact ⟨by simpa using h2, rfl⟩
      obtain ⟨hx, rfl⟩ := hx
      refine .inr ⟨n, by omega, ?_, by simp, by simp [hx, at_get]⟩
      rcases ih with rfl | ⟨k, hk, hl, hne, hlast⟩
      · simpa using ln_pos l n
      · have hlt : at_ l k < at_ l n := by
          rw [← hlast, ← at_get (l := l) (by omega), ← hx]
          exact (List.pairwise_append.1 hp).2.2 _ (List.getLast_mem hne) _ (by simp)
        have := ln_ge hk hlt
        simp only [List.length_append, List.length_cons, List.length_nil]
        omega
theorem row_le {l s : List Int} (hs : s.Sublist l) (hp : s.Pairwise (· < ·)) : s.length ≤ top l l.length := by
  rcases sub_row l.length (Nat.le_refl _) s (by rw [List.take_length]; exact hs) hp with rfl | ⟨k, hk, hl, _⟩
  · exact Nat.zero_le _
  · exact Nat.le_trans hl (top_ge hk)
theorem at_sub {l : List Int} : ∀ n, n ≤ l.length → ∀ ps : List Int, ps.Pairwise (· < ·) → (∀ p ∈ ps, 0 ≤ p ∧ p < n) → (ps.map (fun p => at_ l p.toNat)).Sublist (l.take n)
  | 0, _, ps, _, hb => by
    cases ps with
    | nil => simp
    | cons p ps => have := hb p (by simp); omega
  | n + 1, hn, ps, hp, hb => by
    have hg : l[n]? = some (l[n]'(by omega)) := List.getElem?_eq_getElem (by omega)
    rw [take_snocW hg]
    rcases List.eq_nil_or_concat ps with rfl | ⟨qs, q, rfl⟩
    · simp
    · rw [List.concat_eq_append] at hp hb ⊢
      obtain ⟨h1, _, h3⟩ := List.pairwise_append.1 hp
      have hq := hb q (by simp)
      have hlt : ∀ p ∈ qs, p < q := fun p hm => h3 p hm q (by simp)
      by_cases e : q = n
      · have := at_sub (l := l) n (by omega) qs h1 (fun p hm => ⟨(hb p (by simp [hm])).1, by have := hlt p hm; omega⟩)
        rw [List.map_append]
        refine List.Sublist.append this ?_
        have : at_ l q.toNat = l[n]'(by omega) := by rw [show q.toNat = n by omega, ← at_get (l := l) (by omega)]
        simp [this]
      · have := at_sub (l := l) n (by omega) (qs ++ [q]) hp (fun p hm => ⟨(hb p hm).1, by
          rcases List.mem_append.1 hm with h | h
          · have := hlt p h; omega
          · rw [List.mem_singleton] at h; omega⟩)
        exact this.trans (List.sublist_append_left _ _)
theorem filter_sub {l s : List Int} (h : s.Sublist l) : l.Nodup → l.filter (fun x => decide (x ∈ s)) = s := by
  induction h with
  | slnil => intro _; rfl
  | cons a hs ih =>
    intro hn
    obtain ⟨h1, h2⟩ := List.nodup_cons.1 hn
    rw [List.filter_cons_of_neg (by simpa using fun h => h1 (hs.subset h))]
    exact ih h2
  | cons_cons a hs ih =>
    rename_i s' l'
    intro hn
    obtain ⟨h1, h2⟩ := List.nodup_cons.1 hn
    rw [List.filter_cons_of_pos (by simp)]
    have e : l'.filter (fun x => decide (x ∈ a :: s')) = l'.filter (fun x => decide (x ∈ s')) := by
      refine List.filter_congr (fun x hx => ?_)
      have : x ≠ a := fun e => h1 (e ▸ hx)
      simp [this]
    rw [e, ih h2]
theorem same_len {a c : List Int} (ha : a.Nodup) (hs : ∀ x ∈ a, x ∈ c) : a.length ≤ c.length := by
  induction a generalizing c with
  | nil => exact Nat.zero_le _
  | cons x a ih =>
    obtain ⟨h1, h2⟩ := List.nodup_cons.1 ha
    have hx := hs x (by simp)
    have := ih (c := c.erase x) h2 (fun y hy => by
      have hne : y ≠ x := fun e => h1 (e ▸ hy)
      exact (List.mem_erase_of_ne hne).2 (hs y (by simp [hy])))
    rw [List.length_erase_of_mem hx] at this
    have hp : 0 < c.length := List.length_pos_of_mem hx
    simp only [List.length_cons]
    omega

/-! ## Those that stay -/
theorem lis_pair (l : List Int) : (lisF l).Pairwise (· < ·) := by
  rw [List.pairwise_iff_getElem]
  intro i j hi hj hij
  exact lis_Rises l i j hij hj
theorem stays_eq (f t : List Int) : staysF f t = (lisF (oldF f t)).map (fun p => at_ (idsF f t) p.toNat) := by
  unfold staysF staysN
  rw [List.take_length]
theorem stays_ids (f t : List Int) : (staysF f t).Sublist (idsF f t) := by
  rw [stays_eq]
  have := at_sub (l := idsF f t) _ (Nat.le_refl _) (lisF (oldF f t)) (lis_pair _) (fun p hp => by
    have := lis_mem hp
    have e : (oldF f t).length = (idsF f t).length := by unfold oldF; rw [List.length_map]
    rw [e] at this; exact this)
  rwa [List.take_length] at this
theorem ids_sub (f t : List Int) : (idsF f t).Sublist t := List.filter_sublist
theorem stays_len (f t : List Int) : (staysF f t).length = top (oldF f t) (oldF f t).length := by
  rw [stays_eq, List.length_map, lis_len]
theorem at_idx {l : List Int} {x : Int} (h : x ∈ l) : at_ l (idxI l x).toNat = x := by
  obtain ⟨h1, h2⟩ := idx_in h
  rw [h1, Int.toNat_natCast, ← at_get h2]
  exact List.getElem_idxOf h2
theorem old_at {f t : List Int} {j : Nat} (h : j < (idsF f t).length) : at_ (oldF f t) j = ((posI f (at_ (idsF f t) j) : Nat) : Int) := by
  have h' : j < (oldF f t).length := by unfold oldF; rw [List.length_map]; exact h
  rw [← at_get h', ← at_get h]
  simp [oldF]
theorem stays_f (f t : List Int) : (staysF f t).Sublist f := by
  have hm : ∀ x ∈ staysF f t, x ∈ f := fun x hx => (stays_mem hx).2
  have e : (staysF f t) = ((staysF f t).map (fun x => idxI f x)).map (fun p => at_ f p.toNat) := by
    rw [List.map_map]
    refine Eq.symm (Eq.trans (List.map_congr_left (g := id) (fun x hx => ?_)) (List.map_id _))
    exact at_idx (hm x hx)
  rw [e]
  have := at_sub (l := f) _ (Nat.le_refl _) ((staysF f t).map (fun x => idxI f x)) ?_ (fun p hp => by
    obtain ⟨x, hx, rfl⟩ := List.mem_map.1 hp
    obtain ⟨h1, h2⟩ := idx_in (hm x hx)
    omega)
  · rwa [List.take_length] at this
  · rw [stays_eq, List.map_map, List.pairwise_map, List.pairwise_iff_getElem]
    intro i j hi hj hij
    have hol : (oldF f t).length = (idsF f t).length := by unfold oldF; rw [List.length_map]
    have key : ∀ i j, (hij : i < j) → ∀ (hj : j < (lisF (oldF f t)).length), at_ (oldF f t) ((lisF (oldF f t))[i]'(by omega)).toNat < at_ (oldF f t) ((lisF (oldF f t))[j]).toNat := by
      intro i j hij
      induction j with
      | zero => omega
      | succ j ih =>
        intro hj
        have h1 := (lis_rises hj).2.2.2
        by_cases e : i = j
        · subst e; exact h1
        · have := ih (by omega) (by omega); omega
    have h1 := key i j hij hj
    have b1 := lis_in (l := oldF f t) hi
    have b2 := lis_in (l := oldF f t) hj
    rw [old_at (by omega), old_at (by omega)] at h1
    simp only [Function.comp]
    rw [idx_pos, idx_pos]
    omega

/-! ## The steps come to the new list -/
theorem apply_app (o : List Int) (a c : List StepW) : applyW o (a ++ c) = (applyW o a).bind (applyW · c) := by
  unfold applyW
  rw [List.foldl_append]
  cases a.foldl (fun a s => a.bind (stepW · s)) (some o) with
  | none => exact apply_none a c
  | some x => rfl
theorem apply_one (o : List Int) (s : StepW) : applyW o [s] = stepW o s := rfl
theorem step_drop {o : List Int} {x : Int} (h : x ∈ o) (q : Int) : stepW o (1, x, q) = some (woF o x) := by
  unfold stepW
  rw [if_neg (by simp [h]), if_neg (by simp)]
theorem apply_drops : ∀ (D o : List Int), D.Nodup → (∀ x ∈ D, x ∈ o) → applyW o (D.map (fun x => (1, x, 0))) = some (o.filter (fun x => !decide (x ∈ D)))
  | [], o, _, _ => by
    have : o.filter (fun x => !decide (x ∈ ([] : List Int))) = o := by rw [List.filter_eq_self]; simp
    rw [this]; rfl
  | x :: D, o, hn, hm => by
    obtain ⟨h1, h2⟩ := List.nodup_cons.1 hn
    have ih := apply_drops D (woF o x) h2 (fun y hy => by
      unfold woF
      rw [List.mem_filter]
      exact ⟨hm y (by simp [hy]), by have : y ≠ x := fun e => h1 (e ▸ hy); simp [this]⟩)
    rw [List.map_cons, ← List.singleton_append, apply_app, apply_one, step_drop (hm x (by simp)), Option.bind_some, ih]
    unfold woF
    rw [List.filter_filter]
    congr 1
    refine List.filter_congr (fun y _ => ?_)
    by_cases e : y = x
    · simp [e]
    · simp [e]
theorem drops_now (f t : List Int) (hf : f.Nodup) : applyW f (dropsF f t) = some (nowF f t) := by
  unfold dropsF
  rw [apply_drops _ f (hf.sublist List.filter_sublist) (fun x hx => (List.mem_filter.1 hx).1)]
  unfold nowF
  congr 1
  refine List.filter_congr (fun x hx => ?_)
  simp [List.mem_filter, hx]
theorem st_from {f t : List Int} : ∀ k, k ≤ t.length → ∀ x ∈ (runW f t k).1, x ∈ f ∨ x ∈ t.drop (t.length - k)
  | 0, _ => fun x hx => .inl (List.mem_filter.1 hx).1
  | k + 1, hk => by
    have ih := st_from (f := f) (t := t) k (by omega)
    have hi : t[t.length - (k + 1)]? = some (t[t.length - (k + 1)]'(by omega)) := List.getElem?_eq_getElem (by omega)
    have hd : t.drop (t.length - (k + 1)) = t[t.length - (k + 1)]'(by omega) :: t.drop (t.length - k) := by
      rw [List.drop_eq_getElem_cons (by omega), show t.length - (k + 1) + 1 = t.length - k by omega]
    generalize t[t.length - (k + 1)]'(by omega) = id at hi hd
    rw [hd]
    simp only [runW, rndW, hi]
    have key : ∀ x ∈ (runW f t k).1, x ∈ f ∨ x ∈ id :: t.drop (t.length - k) := fun x hx => (ih x hx).imp (fun h => h) (fun h => List.mem_cons_of_mem _ h)
    by_cases hs : id ∈ staysF f t
    · rw [if_pos hs]; exact key
    · rw [if_neg hs]
      intro x hx
      rcases mem_ins.1 hx with rfl | hx
      · exact .inr List.mem_cons_self
      · exact key x (less_sub hx)
theorem st_from' {f t : List Int} {i : Nat} (h : i ≤ t.length) : ∀ x ∈ (stW f t i).1, x ∈ f ∨ x ∈ t.drop i := by
  have := st_from (f := f) (t := t) (t.length - i) (by omega)
  rwa [show t.length - (t.length - i) = i by omega] at this
theorem st_mem' {f t : List Int} {i : Nat} (h : i ≤ t.length) : (∀ x ∈ (stW f t i).1, x ∈ t) ∧ (∀ x, x ∈ t → x ∈ f → x ∈ (stW f t i).1) ∧ (∀ x ∈ t.drop i, x ∈ (stW f t i).1) := by
  have := st_mem (f := f) (t := t) (t.length - i) (by omega)
  rwa [show t.length - (t.length - i) = i by omega] at this
theorem nodup_drop {t : List Int} (ht : t.Nodup) {i : Nat} {id : Int} (h : t[i]? = some id) : id ∉ t.drop (i + 1) ∧ id ∉ t.take i ∧ t.drop i = id :: t.drop (i + 1) ∧ t = t.take i ++ id :: t.drop (i + 1) := by
  obtain ⟨hi, hg⟩ := List.getElem?_eq_some_iff.1 h
  have hd : t.drop i = id :: t.drop (i + 1) := by rw [List.drop_eq_getElem_cons hi, hg]
  have hs : t = t.take i ++ id :: t.drop (i + 1) := by rw [← hd, List.take_append_drop]
  have hn := ht
  rw [hs] at hn
  obtain ⟨_, h2, h3⟩ := List.nodup_append.1 hn
  exact ⟨(List.nodup_cons.1 h2).1, fun hm => h3 id hm id (by simp) rfl, hd, hs⟩
/-- The list without the number is the list's others, whether it stood there or not. -/
theorem less_wo {f t : List Int} (ht : t.Nodup) {i : Nat} {id : Int} (h : t[i]? = some id) : lessF f (stW f t (i + 1)).1 id = woF (stW f t (i + 1)).1 id ∧ (id ∈ (stW f t (i + 1)).1 ↔ id ∈ f) := by
  have hi := (List.getElem?_eq_some_iff.1 h).1
  obtain ⟨h1, _, _, _⟩ := nodup_drop ht h
  have hiff : id ∈ (stW f t (i + 1)).1 ↔ id ∈ f := by
    constructor
    · intro hm
      rcases st_from' (by omega) id hm with h | h
      · exact h
      · exact absurd h h1
    · exact fun hf => (st_mem' (by omega)).2.1 id (List.mem_of_getElem? h) hf
  refine ⟨?_, hiff⟩
  unfold lessF
  by_cases hin : id ∈ f
  · rw [if_pos hin]
  · rw [if_neg hin, wo_out (fun hm => hin (hiff.1 hm))]
theorem place_in {f t : List Int} (ht : t.Nodup) {i : Nat} {id : Int} (h : t[i]? = some id) : ∃ p : Nat, placeF t (lessF f (stW f t (i + 1)).1 id) i = p ∧ p ≤ (lessF f (stW f t (i + 1)).1 id).length := by
  unfold placeF
  cases hy : t[i + 1]? with
  | none => exact ⟨_, rfl, Nat.le_refl _⟩
  | some y =>
    obtain ⟨h1, h2⟩ := idx_in (next_in (f := f) ht h hy)
    exact ⟨_, h1, Nat.le_of_lt h2⟩
theorem apply_run {f t : List Int} (hf : f.Nodup) (ht : t.Nodup) : ∀ k, k ≤ t.length → applyW f (stW f t (t.length - k)).2 = some (stW f t (t.length - k)).1
  | 0, _ => by
    rw [Nat.sub_zero, st_end]
    exact drops_now f t hf
  | k + 1, hk => by
    have ih := apply_run hf ht k (by omega)
    have hi : t.length - (k + 1) < t.length := by omega
    rw [show t.length - k = t.length - (k + 1) + 1 by omega] at ih
    obtain ⟨id, hid⟩ : ∃ id, t[t.length - (k + 1)]? = some id := ⟨_, List.getElem?_eq_getElem hi⟩
    generalize t.length - (k + 1) = i at *
    by_cases hs : id ∈ staysF f t
    · rw [st_stays hid hs]; exact ih
    · obtain ⟨hw, hiff⟩ := less_wo (f := f) ht hid
      obtain ⟨p, hp, hpl⟩ := place_in (f := f) ht hid
      rw [st_put hid hs, apply_app, ih, Option.bind_some, apply_one, hp]
      rw [hw] at hpl ⊢
      unfold stepW
      by_cases hin : id ∈ f
      · rw [if_pos hin, if_neg (by simp [hiff.2 hin]), if_pos (by simp), if_neg (by simp only; omega)]
      · have hn : id ∉ (stW f t (i + 1)).1 := fun h => hin (hiff.1 h)
        rw [if_neg hin, if_neg (by simp [hn]), if_pos (by simp), if_neg (by simp only; omega)]
theorem app_cut {y : Int} : ∀ {a c b d : List Int}, y ∉ a → y ∉ c → a ++ y :: b = c ++ y :: d → a = c ∧ b = d
  | [], [], _, _, _, _, h => by simpa using h
  | [], z :: c, _, _, _, hc, h => by simp at h; exact absurd (by simp [h.1]) hc
  | z :: a, [], _, _, ha, _, h => by simp at h; exact absurd (by simp [h.1]) ha
  | z :: a, u :: c, _, _, ha, hc, h => by
    simp only [List.cons_append, List.cons.injEq] at h
    obtain ⟨h1, h2⟩ := app_cut (by simp at ha; exact ha.2) (by simp at hc; exact hc.2) h.2
    exact ⟨by rw [h.1, h1], h2⟩
def ordP (f t : List Int) (i : Nat) (x : Int) : Bool := decide (x ∈ staysF f t ∨ x ∈ t.drop i)
theorem order {f t : List Int} (hf : f.Nodup) (ht : t.Nodup) : ∀ k, k ≤ t.length → (stW f t (t.length - k)).1.filter (ordP f t (t.length - k)) = t.filter (ordP f t (t.length - k))
  | 0, _ => by
    rw [Nat.sub_zero, st_end]
    have e : ordP f t t.length = fun x => decide (x ∈ staysF f t) := by funext x; simp [ordP]
    rw [e, filter_sub ((stays_ids f t).trans (ids_sub f t)) ht]
    show (nowF f t).filter _ = _
    unfold nowF
    rw [List.filter_filter]
    have : f.filter (fun a => decide (a ∈ staysF f t) && decide (a ∈ t)) = f.filter (fun a => decide (a ∈ staysF f t)) := by
      refine List.filter_congr (fun x _ => ?_)
      by_cases h : x ∈ staysF f t
      · simp [h, (stays_mem h).1]
      · simp [h]
    rw [this, filter_sub (stays_f f t) hf]
  | k + 1, hk => by
    have ih := order hf ht k (by omega)
    have hi : t.length - (k + 1) < t.length := by omega
    rw [show t.length - k = t.length - (k + 1) + 1 by omega] at ih
    obtain ⟨id, hid⟩ : ∃ id, t[t.length - (k + 1)]? = some id := ⟨_, List.getElem?_eq_getElem hi⟩
    generalize t.length - (k + 1) = i at *
    obtain ⟨hd1, hd2, hd3, hd4⟩ := nodup_drop ht hid
    by_cases hs : id ∈ staysF f t
    · have e : ordP f t i = ordP f t (i + 1) := by
        funext x
        unfold ordP
        rw [hd3]
        by_cases ex : x = id
        · simp [ex, hs]
        · simp [ex]
      rw [st_stays hid hs, e]; exact ih
    · obtain ⟨hw, _⟩ := less_wo (f := f) ht hid
      rw [st_put hid hs]
      have hpl : ∀ y, t[i + 1]? = some y → y ∈ lessF f (stW f t (i + 1)).1 id := fun y hy => next_in ht hid hy
      simp only
      rw [hw] at hpl ⊢
      generalize hX : (stW f t (i + 1)).1 = X at *
      have hidn : id ∉ woF X id := by unfold woF; simp [List.mem_filter]
      have hne : ordP f t (i + 1) id = false := by unfold ordP; simp [hs, hd1]
      have hpos : ordP f t i id = true := by unfold ordP; rw [hd3]; simp
      -- of the others nothing has turned
      have hfw : (woF X id).filter (ordP f t (i + 1)) = t.filter (ordP f t (i + 1)) := by
        rw [← ih]
        unfold woF
        rw [List.filter_filter]
        refine List.filter_congr (fun x _ => ?_)
        by_cases ex : x = id
        · rw [ex, hne]; rfl
        · simp [ex]
      have hcong : ∀ l : List Int, id ∉ l → l.filter (ordP f t i) = l.filter (ordP f t (i + 1)) := fun l hl => by
        refine List.filter_congr (fun x hx => ?_)
        have ex : x ≠ id := fun e => hl (e ▸ hx)
        unfold ordP
        rw [hd3]
        simp [ex]
      have hdall : ∀ j, i + 1 ≤ j → (t.drop j).filter (ordP f t (i + 1)) = t.drop j := fun j hj => by
        rw [List.filter_eq_self]
        intro x hx
        unfold ordP
        have : x ∈ t.drop (i + 1) := by
          rw [show j = (i + 1) + (j - (i + 1)) by omega, ← List.drop_drop] at hx
          exact List.mem_of_mem_drop hx
        simp [this]
      have htl : t.filter (ordP f t (i + 1)) = (t.take i).filter (ordP f t (i + 1)) ++ t.drop (i + 1) := by
        refine (congrArg (List.filter (ordP f t (i + 1))) hd4).trans ?_
        rw [List.filter_append, List.filter_cons_of_neg (by rw [hne]; simp), hdall (i + 1) (Nat.le_refl _)]
      have hti : t.filter (ordP f t i) = (t.take i).filter (ordP f t (i + 1)) ++ id :: t.drop (i + 1) := by
        refine (congrArg (List.filter (ordP f t i)) hd4).trans ?_
        rw [List.filter_append, List.filter_cons_of_pos hpos, hcong _ hd2, hcong _ hd1, hdall (i + 1) (Nat.le_refl _)]
      rw [htl] at hfw
      rw [hti]
      have hsplit : ∀ p, (insF (woF X id) p id).filter (ordP f t i) = ((woF X id).take p).filter (ordP f t (i + 1)) ++ id :: ((woF X id).drop p).filter (ordP f t (i + 1)) := fun p => by
        unfold insF
        rw [List.filter_append, List.filter_cons_of_pos hpos, hcong _ (fun h => hidn (List.mem_of_mem_take h)), hcong _ (fun h => hidn (List.mem_of_mem_drop h))]
      rw [hsplit]
      unfold placeF
      cases hy : t[i + 1]? with
      | none =>
        have hnil : t.drop (i + 1) = [] := by
          rw [List.drop_eq_nil_iff]
          exact List.getElem?_eq_none_iff.1 hy
        simp only [Int.toNat_natCast]
        rw [List.take_length, List.drop_length, hfw, hnil]
        simp
      | some y =>
        obtain ⟨h1, h2⟩ := idx_in (hpl y hy)
        obtain ⟨g1, g2, g3, g4⟩ := nodup_drop ht hy
        simp only [h1, Int.toNat_natCast]
        have hcut : (woF X id) = (woF X id).take ((woF X id).idxOf y) ++ y :: (woF X id).drop ((woF X id).idxOf y + 1) := by
          conv => lhs; rw [← List.take_append_drop ((woF X id).idxOf y) (woF X id)]
          rw [List.drop_eq_getElem_cons h2, List.getElem_idxOf h2]
        have hyn : y ∉ (woF X id).take ((woF X id).idxOf y) := fun hm => by
          obtain ⟨q, hq, e⟩ := List.mem_iff_getElem.1 hm
          rw [List.length_take] at hq
          rw [List.getElem_take] at e
          have : (woF X id)[q]? = some y := by rw [List.getElem?_eq_getElem (by omega), e]
          have hle : (woF X id).idxOf y ≤ q := by
            have := List.idxOf_lt_length_iff.2 (hpl y hy)
            rcases Nat.lt_or_ge q ((woF X id).idxOf y) with hlt | hge
            · exact absurd e (by
                have := List.not_of_lt_findIdx (p := (· == y)) (xs := woF X id) (i := q) hlt
                simpa using this)
            · exact hge
          omega
        have hypos : ordP f t (i + 1) y = true := by unfold ordP; rw [g3]; simp
        have hdy : (woF X id).drop ((woF X id).idxOf y) = y :: (woF X id).drop ((woF X id).idxOf y + 1) := by rw [List.drop_eq_getElem_cons h2, List.getElem_idxOf h2]
        have hfw2 := hfw
        rw [hcut, List.filter_append, List.filter_cons_of_pos hypos, g3] at hfw2
        obtain ⟨e1, e2⟩ := app_cut (fun h => hyn (List.mem_filter.1 h).1) (fun h => g2 (by
          have := (List.mem_filter.1 h).1
          rw [take_snocW hid]
          exact List.mem_append_left _ this)) hfw2
        rw [hdy, List.filter_cons_of_pos hypos, e1, e2, ← g3]
theorem st_full {f t : List Int} (hf : f.Nodup) (ht : t.Nodup) : (stW f t 0).1 = t := by
  have h := order hf ht t.length (Nat.le_refl _)
  rw [Nat.sub_self] at h
  have h1 : (stW f t 0).1.filter (ordP f t 0) = (stW f t 0).1 := by
    rw [List.filter_eq_self]
    intro x hx
    have := (st_mem' (f := f) (t := t) (Nat.zero_le _)).1 x hx
    simp [ordP, this]
  have h2 : t.filter (ordP f t 0) = t := by
    rw [List.filter_eq_self]
    intro x hx
    simp [ordP, hx]
  rw [h1, h2] at h
  exact h
/-- **The steps come to the new list.** -/
theorem steps_come {f t : List Int} (hf : f.Nodup) (ht : t.Nodup) : applyW f (stepsF f t) = some t := by
  have := apply_run hf ht t.length (Nat.le_refl _)
  rw [Nat.sub_self, st_full hf ht] at this
  exact this
end Go.Proofs.Ytlcfdlcmeinhiaa
