/- Layer 12: what the steps come to, how many of them are moves; no others are fewer: in plain words. Layer 12: how many steps there are, how many are moves; no others are fewer: in plain words. The top (flips): kids of a node in another order: what a Dom is behind each step, in plain words. Layer 5: nodes by numbers, as they lie in memory. Layer 3: lists of texts, each once. -/
import Derived.Test.YtbpkddpkcnlmhaaGreatF10
import Derived.Test.YtbpkddpkcnlmhaaGreatF08
set_option linter.all false
namespace Go.Proofs.YtbpkddpkcnlmhaaGreat
theorem sub_row {l : List Int} : ∀ n, n ≤ l.length → ∀ s : List Int, s.Sublist (l.take n) → s.Pairwise (· < ·) → s = [] ∨ ∃ k, k < n ∧ s.length ≤ ln l k ∧ ∃ h : s ≠ [], s.getLast h = at_ l k
 | 0, _, s, hs, _ => by
  rw [List.take_zero] at hs
  exact .inl (List.sublist_nil.1 hs)
 | n + 1, hn, s, hs, hp => by
  have hg : l[n]? = some (l[n]'(by omega)) := List.getElem?_eq_getElem (by omega)
  rw [take_snocW hg, List.sublist_append_iff] at hs
  obtain ⟨s1, s2, rfl, h1, h2⟩ := hs
  have hp1 : s1.Pairwise (· < ·) := (List.pairwise_append.1 hp).1
  have ih := sub_row n (by omega) s1 h1 hp1
  cases s2 with
  | nil =>
   rw [List.append_nil]
   rcases ih with h | ⟨k, hk, h⟩
   ·exact .inl h
   ·exact .inr ⟨k, by omega, h⟩
  | cons x s2 =>
   have hx : x = l[n]'(by omega) ∧ s2 = [] := by
    have := h2.length_le
    cases s2 with
    | cons y s2 => simp at this
    | nil => exact ⟨by simpa using h2, rfl⟩
   obtain ⟨hx, rfl⟩ := hx
   refine .inr ⟨n, by omega, ?_, by simp, by simp [hx, at_get]⟩
   rcases ih with rfl | ⟨k, hk, hl, hne, hlast⟩
   ·simpa using ln_pos l n
   ·have hlt : at_ l k < at_ l n := by
     rw [← hlast, ← at_get (l := l) (by omega), ← hx]
     exact (List.pairwise_append.1 hp).2.2 _ (List.getLast_mem hne) _ (by simp)
    have := ln_ge hk hlt
    simp only [List.length_append, List.length_cons, List.length_nil]
    omega
theorem row_le {l s : List Int} (hs : s.Sublist l) (hp : s.Pairwise (· < ·)) : s.length ≤ top l l.length := by
 rcases sub_row l.length (Nat.le_refl _) s (by rw [List.take_length];exact hs) hp with rfl | ⟨k, hk, hl, _⟩
 ·exact Nat.zero_le _
 ·exact Nat.le_trans hl (top_ge hk)
theorem at_sub {l : List Int} : ∀ n, n ≤ l.length → ∀ ps : List Int, ps.Pairwise (· < ·) → (∀ p ∈ ps, 0 ≤ p ∧ p < n) → (ps.map (fun p => at_ l p.toNat)).Sublist (l.take n)
 | 0, _, ps, _, hb => by
  cases ps with
  | nil => simp
  | cons p ps => have := hb p (by simp);omega
 | n + 1, hn, ps, hp, hb => by
  have hg : l[n]? = some (l[n]'(by omega)) := List.getElem?_eq_getElem (by omega)
  rw [take_snocW hg]
  rcases List.eq_nil_or_concat ps with rfl | ⟨qs, q, rfl⟩
  ·simp
  ·rw [List.concat_eq_append] at hp hb ⊢
   obtain ⟨h1, _, h3⟩ := List.pairwise_append.1 hp
   have hq := hb q (by simp)
   have hlt : ∀ p ∈ qs, p < q := fun p hm => h3 p hm q (by simp)
   by_cases e : q = n
   ·have := at_sub (l := l) n (by omega) qs h1 (fun p hm => ⟨(hb p (by simp [hm])).1, by have := hlt p hm;omega⟩)
    rw [List.map_append]
    refine List.Sublist.append this ?_
    have : at_ l q.toNat = l[n]'(by omega) := by rw [show q.toNat = n by omega, ← at_get (l := l) (by omega)]
    simp [this]
   ·have := at_sub (l := l) n (by omega) (qs ++ [q]) hp (fun p hm => ⟨(hb p hm).1, by
     rcases List.mem_append.1 hm with h | h
     ·have := hlt p h;omega
     ·rw [List.mem_singleton] at h;omega⟩)
    exact this.trans (List.sublist_append_left _ _)
theorem filter_sub {l s : List Int} (h : s.Sublist l) : l.Nodup → l.filter (fun x => decide (x ∈ s)) = s := by
 induction h with
 | slnil => intro _;rfl
 | cons a hs ih =>
  intro hn
  obtain ⟨h1, h2⟩ := List.nodup_cons.1 hn
  rw [List.filter_cons_of_neg (by simpa using fun h => h1 (hs.subset h))]
  exact ih h2
 | cons_cons a hs ih =>
  rename_i s' l'
  intro hn
  obtain ⟨h1, h2⟩ := List.nodup_cons.1 hn
  rw [List.filter_cons_of_pos (by simp)]
  have e : l'.filter (fun x => decide (x ∈ a :: s')) = l'.filter (fun x => decide (x ∈ s')) := by
   refine List.filter_congr (fun x hx => ?_)
   have : x ≠ a := fun e => h1 (e ▸ hx)
   simp [this]
  rw [e, ih h2]
theorem same_len {a c : List Int} (ha : a.Nodup) (hs : ∀ x ∈ a, x ∈ c) : a.length ≤ c.length := by
 induction a generalizing c with
 | nil => exact Nat.zero_le _
 | cons x a ih =>
  obtain ⟨h1, h2⟩ := List.nodup_cons.1 ha
  have hx := hs x (by simp)
  have := ih (c := c.erase x) h2 (fun y hy => by
   have hne : y ≠ x := fun e => h1 (e ▸ hy)
   exact (List.mem_erase_of_ne hne).2 (hs y (by simp [hy])))
  rw [List.length_erase_of_mem hx] at this
  have hp : 0 < c.length := List.length_pos_of_mem hx
  simp only [List.length_cons]
  omega
theorem lis_pair (l : List Int) : (lisF l).Pairwise (· < ·) := by
 rw [List.pairwise_iff_getElem]
 intro i j hi hj hij
 exact lis_Rises l i j hij hj
theorem stays_eq (f t : List Int) : staysF f t = (lisF (oldF f t)).map (fun p => at_ (idsF f t) p.toNat) := by
 unfold staysF staysN
 rw [List.take_length]
theorem stays_ids (f t : List Int) : (staysF f t).Sublist (idsF f t) := by
 rw [stays_eq]
 have := at_sub (l := idsF f t) _ (Nat.le_refl _) (lisF (oldF f t)) (lis_pair _) (fun p hp => by
  have := lis_mem hp
  have e : (oldF f t).length = (idsF f t).length := by unfold oldF;rw [List.length_map]
  rw [e] at this;exact this)
 rwa [List.take_length] at this
theorem ids_sub (f t : List Int) : (idsF f t).Sublist t := List.filter_sublist
theorem stays_len (f t : List Int) : (staysF f t).length = top (oldF f t) (oldF f t).length := by
 rw [stays_eq, List.length_map, lis_len]
theorem at_idx {l : List Int} {x : Int} (h : x ∈ l) : at_ l (idxI l x).toNat = x := by
 obtain ⟨h1, h2⟩ := idx_in h
 rw [h1, Int.toNat_natCast, ← at_get h2]
 exact List.getElem_idxOf h2
theorem old_at {f t : List Int} {j : Nat} (h : j < (idsF f t).length) : at_ (oldF f t) j = ((posI f (at_ (idsF f t) j) : Nat) : Int) := by
 have h' : j < (oldF f t).length := by unfold oldF;rw [List.length_map];exact h
 rw [← at_get h', ← at_get h]
 simp [oldF]
theorem stays_f (f t : List Int) : (staysF f t).Sublist f := by
 have hm : ∀ x ∈ staysF f t, x ∈ f := fun x hx => (stays_mem hx).2
 have e : (staysF f t) = ((staysF f t).map (fun x => idxI f x)).map (fun p => at_ f p.toNat) := by
  rw [List.map_map]
  refine Eq.symm (Eq.trans (List.map_congr_left (g := id) (fun x hx => ?_)) (List.map_id _))
  exact at_idx (hm x hx)
 rw [e]
 have := at_sub (l := f) _ (Nat.le_refl _) ((staysF f t).map (fun x => idxI f x)) ?_ (fun p hp => by
  obtain ⟨x, hx, rfl⟩ := List.mem_map.1 hp
  obtain ⟨h1, h2⟩ := idx_in (hm x hx)
  omega)
 ·rwa [List.take_length] at this
 ·rw [stays_eq, List.map_map, List.pairwise_map, List.pairwise_iff_getElem]
  intro i j hi hj hij
  have hol : (oldF f t).length = (idsF f t).length := by unfold oldF;rw [List.length_map]
  have key : ∀ i j, (hij : i < j) → ∀ (hj : j < (lisF (oldF f t)).length), at_ (oldF f t) ((lisF (oldF f t))[i]'(by omega)).toNat < at_ (oldF f t) ((lisF (oldF f t))[j]).toNat := by
   intro i j hij
   induction j with
   | zero => omega
   | succ j ih =>
    intro hj
    have h1 := (lis_rises hj).2.2.2
    by_cases e : i = j
    ·subst e;exact h1
    ·have := ih (by omega) (by omega);omega
  have h1 := key i j hij hj
  have b1 := lis_in (l := oldF f t) hi
  have b2 := lis_in (l := oldF f t) hj
  rw [old_at (by omega), old_at (by omega)] at h1
  simp only [Function.comp]
  rw [idx_pos, idx_pos]
  omega
theorem apply_app (o : List Int) (a c : List StepW) : applyW o (a ++ c) = (applyW o a).bind (applyW · c) := by
 unfold applyW
 rw [List.foldl_append]
 cases a.foldl (fun a s => a.bind (stepW · s)) (some o) with
 | none => exact apply_none a c
 | some x => rfl
theorem apply_one (o : List Int) (s : StepW) : applyW o [s] = stepW o s := rfl
theorem step_drop {o : List Int} {x : Int} (h : x ∈ o) (q : Int) : stepW o (1, x, q) = some (woF o x) := by
 unfold stepW
 rw [if_neg (by simp [h]), if_neg (by simp)]
theorem apply_drops : ∀ (D o : List Int), D.Nodup → (∀ x ∈ D, x ∈ o) → applyW o (D.map (fun x => (1, x, 0))) = some (o.filter (fun x => !decide (x ∈ D)))
 | [], o, _, _ => by
  have : o.filter (fun x => !decide (x ∈ ([] : List Int))) = o := by rw [List.filter_eq_self];simp
  rw [this];rfl
 | x :: D, o, hn, hm => by
  obtain ⟨h1, h2⟩ := List.nodup_cons.1 hn
  have ih := apply_drops D (woF o x) h2 (fun y hy => by
   unfold woF
   rw [List.mem_filter]
   exact ⟨hm y (by simp [hy]), by have : y ≠ x := fun e => h1 (e ▸ hy);simp [this]⟩)
  rw [List.map_cons, ← List.singleton_append, apply_app, apply_one, step_drop (hm x (by simp)), Option.bind_some, ih]
  unfold woF
  rw [List.filter_filter]
  congr 1
  refine List.filter_congr (fun y _ => ?_)
  by_cases e : y = x
  ·simp [e]
  ·simp [e]
theorem drops_now (f t : List Int) (hf : f.Nodup) : applyW f (dropsF f t) = some (nowF f t) := by
 unfold dropsF
 rw [apply_drops _ f (hf.sublist List.filter_sublist) (fun x hx => (List.mem_filter.1 hx).1)]
 unfold nowF
 congr 1
 refine List.filter_congr (fun x hx => ?_)
 simp [List.mem_filter, hx]
theorem st_from {f t : List Int} : ∀ k, k ≤ t.length → ∀ x ∈ (runW f t k).1, x ∈ f ∨ x ∈ t.drop (t.length - k)
 | 0, _ => fun x hx => .inl (List.mem_filter.1 hx).1
 | k + 1, hk => by
  have ih := st_from (f := f) (t := t) k (by omega)
  have hi : t[t.length - (k + 1)]? = some (t[t.length - (k + 1)]'(by omega)) := List.getElem?_eq_getElem (by omega)
  have hd : t.drop (t.length - (k + 1)) = t[t.length - (k + 1)]'(by omega) :: t.drop (t.length - k) := by
   rw [List.drop_eq_getElem_cons (by omega), show t.length - (k + 1) + 1 = t.length - k by omega]
  generalize t[t.length - (k + 1)]'(by omega) = id at hi hd
  rw [hd]
  simp only [runW, rndW, hi]
  have key : ∀ x ∈ (runW f t k).1, x ∈ f ∨ x ∈ id :: t.drop (t.length - k) := fun x hx => (ih x hx).imp (fun h => h) (fun h => List.mem_cons_of_mem _ h)
  by_cases hs : id ∈ staysF f t
  ·rw [if_pos hs];exact key
  ·rw [if_neg hs]
   intro x hx
   rcases mem_ins.1 hx with rfl | hx
   ·exact .inr List.mem_cons_self
   ·exact key x (less_sub hx)
theorem st_from' {f t : List Int} {i : Nat} (h : i ≤ t.length) : ∀ x ∈ (stW f t i).1, x ∈ f ∨ x ∈ t.drop i := by
 have := st_from (f := f) (t := t) (t.length - i) (by omega)
 rwa [show t.length - (t.length - i) = i by omega] at this
theorem st_mem' {f t : List Int} {i : Nat} (h : i ≤ t.length) : (∀ x ∈ (stW f t i).1, x ∈ t) ∧ (∀ x, x ∈ t → x ∈ f → x ∈ (stW f t i).1) ∧ (∀ x ∈ t.drop i, x ∈ (stW f t i).1) := by
 have := st_mem (f := f) (t := t) (t.length - i) (by omega)
 rwa [show t.length - (t.length - i) = i by omega] at this
theorem nodup_drop {t : List Int} (ht : t.Nodup) {i : Nat} {id : Int} (h : t[i]? = some id) : id ∉ t.drop (i + 1) ∧ id ∉ t.take i ∧ t.drop i = id :: t.drop (i + 1) ∧ t = t.take i ++ id :: t.drop (i + 1) := by
 obtain ⟨hi, hg⟩ := List.getElem?_eq_some_iff.1 h
 have hd : t.drop i = id :: t.drop (i + 1) := by rw [List.drop_eq_getElem_cons hi, hg]
 have hs : t = t.take i ++ id :: t.drop (i + 1) := by rw [← hd, List.take_append_drop]
 have hn := ht
 rw [hs] at hn
 obtain ⟨_, h2, h3⟩ := List.nodup_append.1 hn
 exact ⟨(List.nodup_cons.1 h2).1, fun hm => h3 id hm id (by simp) rfl, hd, hs⟩
theorem less_wo {f t : List Int} (ht : t.Nodup) {i : Nat} {id : Int} (h : t[i]? = some id) : lessF f (stW f t (i + 1)).1 id = woF (stW f t (i + 1)).1 id ∧ (id ∈ (stW f t (i + 1)).1 ↔ id ∈ f) := by
 have hi := (List.getElem?_eq_some_iff.1 h).1
 obtain ⟨h1, _, _, _⟩ := nodup_drop ht h
 have hiff : id ∈ (stW f t (i + 1)).1 ↔ id ∈ f := by
  constructor
  ·intro hm
   rcases st_from' (by omega) id hm with h | h
   ·exact h
   ·exact absurd h h1
  ·exact fun hf => (st_mem' (by omega)).2.1 id (List.mem_of_getElem? h) hf
 refine ⟨?_, hiff⟩
 unfold lessF
 by_cases hin : id ∈ f
 ·rw [if_pos hin]
 ·rw [if_neg hin, wo_out (fun hm => hin (hiff.1 hm))]
theorem place_in {f t : List Int} (ht : t.Nodup) {i : Nat} {id : Int} (h : t[i]? = some id) : ∃ p : Nat, placeF t (lessF f (stW f t (i + 1)).1 id) i = p ∧ p ≤ (lessF f (stW f t (i + 1)).1 id).length := by
 unfold placeF
 cases hy : t[i + 1]? with
 | none => exact ⟨_, rfl, Nat.le_refl _⟩
 | some y =>
  obtain ⟨h1, h2⟩ := idx_in (next_in (f := f) ht h hy)
  exact ⟨_, h1, Nat.le_of_lt h2⟩
theorem apply_run {f t : List Int} (hf : f.Nodup) (ht : t.Nodup) : ∀ k, k ≤ t.length → applyW f (stW f t (t.length - k)).2 = some (stW f t (t.length - k)).1
 | 0, _ => by
  rw [Nat.sub_zero, st_end]
  exact drops_now f t hf
 | k + 1, hk => by
  have ih := apply_run hf ht k (by omega)
  have hi : t.length - (k + 1) < t.length := by omega
  rw [show t.length - k = t.length - (k + 1) + 1 by omega] at ih
  obtain ⟨id, hid⟩ : ∃ id, t[t.length - (k + 1)]? = some id := ⟨_, List.getElem?_eq_getElem hi⟩
  generalize t.length - (k + 1) = i at *
  by_cases hs : id ∈ staysF f t
  ·rw [st_stays hid hs];exact ih
  ·obtain ⟨hw, hiff⟩ := less_wo (f := f) ht hid
   obtain ⟨p, hp, hpl⟩ := place_in (f := f) ht hid
   rw [st_put hid hs, apply_app, ih, Option.bind_some, apply_one, hp]
   rw [hw] at hpl ⊢
   unfold stepW
   by_cases hin : id ∈ f
   ·rw [if_pos hin, if_neg (by simp [hiff.2 hin]), if_pos (by simp), if_neg (by simp only;omega)]
   ·have hn : id ∉ (stW f t (i + 1)).1 := fun h => hin (hiff.1 h)
    rw [if_neg hin, if_neg (by simp [hn]), if_pos (by simp), if_neg (by simp only;omega)]
theorem app_cut {y : Int} : ∀ {a c b d : List Int}, y ∉ a → y ∉ c → a ++ y :: b = c ++ y :: d → a = c ∧ b = d
 | [], [], _, _, _, _, h => by simpa using h
 | [], z :: c, _, _, _, hc, h => by simp at h;exact absurd (by simp [h.1]) hc
 | z :: a, [], _, _, ha, _, h => by simp at h;exact absurd (by simp [h.1]) ha
 | z :: a, u :: c, _, _, ha, hc, h => by
  simp only [List.cons_append, List.cons.injEq] at h
  obtain ⟨h1, h2⟩ := app_cut (by simp at ha;exact ha.2) (by simp at hc;exact hc.2) h.2
  exact ⟨by rw [h.1, h1], h2⟩
def ordP (f t : List Int) (i : Nat) (x : Int) : Bool := decide (x ∈ staysF f t ∨ x ∈ t.drop i)
theorem order {f t : List Int} (hf : f.Nodup) (ht : t.Nodup) : ∀ k, k ≤ t.length → (stW f t (t.length - k)).1.filter (ordP f t (t.length - k)) = t.filter (ordP f t (t.length - k))
 | 0, _ => by
  rw [Nat.sub_zero, st_end]
  have e : ordP f t t.length = fun x => decide (x ∈ staysF f t) := by funext x;simp [ordP]
  rw [e, filter_sub ((stays_ids f t).trans (ids_sub f t)) ht]
  show (nowF f t).filter _ = _
  unfold nowF
  rw [List.filter_filter]
  have : f.filter (fun a => decide (a ∈ staysF f t) && decide (a ∈ t)) = f.filter (fun a => decide (a ∈ staysF f t)) := by
   refine List.filter_congr (fun x _ => ?_)
   by_cases h : x ∈ staysF f t
   ·simp [h, (stays_mem h).1]
   ·simp [h]
  rw [this, filter_sub (stays_f f t) hf]
 | k + 1, hk => by
  have ih := order hf ht k (by omega)
  have hi : t.length - (k + 1) < t.length := by omega
  rw [show t.length - k = t.length - (k + 1) + 1 by omega] at ih
  obtain ⟨id, hid⟩ : ∃ id, t[t.length - (k + 1)]? = some id := ⟨_, List.getElem?_eq_getElem hi⟩
  generalize t.length - (k + 1) = i at *
  obtain ⟨hd1, hd2, hd3, hd4⟩ := nodup_drop ht hid
  by_cases hs : id ∈ staysF f t
  ·have e : ordP f t i = ordP f t (i + 1) := by
    funext x
    unfold ordP
    rw [hd3]
    by_cases ex : x = id
    ·simp [ex, hs]
    ·simp [ex]
   rw [st_stays hid hs, e];exact ih
  ·obtain ⟨hw, _⟩ := less_wo (f := f) ht hid
   rw [st_put hid hs]
   have hpl : ∀ y, t[i + 1]? = some y → y ∈ lessF f (stW f t (i + 1)).1 id := fun y hy => next_in ht hid hy
   simp only
   rw [hw] at hpl ⊢
   generalize hX : (stW f t (i + 1)).1 = X at *
   have hidn : id ∉ woF X id := by unfold woF;simp [List.mem_filter]
   have hne : ordP f t (i + 1) id = false := by unfold ordP;simp [hs, hd1]
   have hpos : ordP f t i id = true := by unfold ordP;rw [hd3];simp
   -- of the others nothing has turned
   have hfw : (woF X id).filter (ordP f t (i + 1)) = t.filter (ordP f t (i + 1)) := by
    rw [← ih]
    unfold woF
    rw [List.filter_filter]
    refine List.filter_congr (fun x _ => ?_)
    by_cases ex : x = id
    ·rw [ex, hne];rfl
    ·simp [ex]
   have hcong : ∀ l : List Int, id ∉ l → l.filter (ordP f t i) = l.filter (ordP f t (i + 1)) := fun l hl => by
    refine List.filter_congr (fun x hx => ?_)
    have ex : x ≠ id := fun e => hl (e ▸ hx)
    unfold ordP
    rw [hd3]
    simp [ex]
   have hdall : ∀ j, i + 1 ≤ j → (t.drop j).filter (ordP f t (i + 1)) = t.drop j := fun j hj => by
    rw [List.filter_eq_self]
    intro x hx
    unfold ordP
    have : x ∈ t.drop (i + 1) := by
     rw [show j = (i + 1) + (j - (i + 1)) by omega, ← List.drop_drop] at hx
     exact List.mem_of_mem_drop hx
    simp [this]
   have htl : t.filter (ordP f t (i + 1)) = (t.take i).filter (ordP f t (i + 1)) ++ t.drop (i + 1) := by
    refine (congrArg (List.filter (ordP f t (i + 1))) hd4).trans ?_
    rw [List.filter_append, List.filter_cons_of_neg (by rw [hne];simp), hdall (i + 1) (Nat.le_refl _)]
   have hti : t.filter (ordP f t i) = (t.take i).filter (ordP f t (i + 1)) ++ id :: t.drop (i + 1) := by
    refine (congrArg (List.filter (ordP f t i)) hd4).trans ?_
    rw [List.filter_append, List.filter_cons_of_pos hpos, hcong _ hd2, hcong _ hd1, hdall (i + 1) (Nat.le_refl _)]
   rw [htl] at hfw
   rw [hti]
   have hsplit : ∀ p, (insF (woF X id) p id).filter (ordP f t i) = ((woF X id).take p).filter (ordP f t (i + 1)) ++ id :: ((woF X id).drop p).filter (ordP f t (i + 1)) := fun p => by
    unfold insF
    rw [List.filter_append, List.filter_cons_of_pos hpos, hcong _ (fun h => hidn (List.mem_of_mem_take h)), hcong _ (fun h => hidn (List.mem_of_mem_drop h))]
   rw [hsplit]
   unfold placeF
   cases hy : t[i + 1]? with
   | none =>
    have hnil : t.drop (i + 1) = [] := by
     rw [List.drop_eq_nil_iff]
     exact List.getElem?_eq_none_iff.1 hy
    simp only [Int.toNat_natCast]
    rw [List.take_length, List.drop_length, hfw, hnil]
    simp
   | some y =>
    obtain ⟨h1, h2⟩ := idx_in (hpl y hy)
    obtain ⟨g1, g2, g3, g4⟩ := nodup_drop ht hy
    simp only [h1, Int.toNat_natCast]
    have hcut : (woF X id) = (woF X id).take ((woF X id).idxOf y) ++ y :: (woF X id).drop ((woF X id).idxOf y + 1) := by
     conv => lhs;rw [← List.take_append_drop ((woF X id).idxOf y) (woF X id)]
     rw [List.drop_eq_getElem_cons h2, List.getElem_idxOf h2]
    have hyn : y ∉ (woF X id).take ((woF X id).idxOf y) := fun hm => by
     obtain ⟨q, hq, e⟩ := List.mem_iff_getElem.1 hm
     rw [List.length_take] at hq
     rw [List.getElem_take] at e
     have : (woF X id)[q]? = some y := by rw [List.getElem?_eq_getElem (by omega), e]
     have hle : (woF X id).idxOf y ≤ q := by
      have := List.idxOf_lt_length_iff.2 (hpl y hy)
      rcases Nat.lt_or_ge q ((woF X id).idxOf y) with hlt | hge
      ·exact absurd e (by
        have := List.not_of_lt_findIdx (p := (· == y)) (xs := woF X id) (i := q) hlt
        simpa using this)
      ·exact hge
     omega
    have hypos : ordP f t (i + 1) y = true := by unfold ordP;rw [g3];simp
    have hdy : (woF X id).drop ((woF X id).idxOf y) = y :: (woF X id).drop ((woF X id).idxOf y + 1) := by rw [List.drop_eq_getElem_cons h2, List.getElem_idxOf h2]
    have hfw2 := hfw
    rw [hcut, List.filter_append, List.filter_cons_of_pos hypos, g3] at hfw2
    obtain ⟨e1, e2⟩ := app_cut (fun h => hyn (List.mem_filter.1 h).1) (fun h => g2 (by
     have := (List.mem_filter.1 h).1
     rw [take_snocW hid]
     exact List.mem_append_left _ this)) hfw2
    rw [hdy, List.filter_cons_of_pos hypos, e1, e2, ← g3]
theorem st_full {f t : List Int} (hf : f.Nodup) (ht : t.Nodup) : (stW f t 0).1 = t := by
 have h := order hf ht t.length (Nat.le_refl _)
 rw [Nat.sub_self] at h
 have h1 : (stW f t 0).1.filter (ordP f t 0) = (stW f t 0).1 := by
  rw [List.filter_eq_self]
  intro x hx
  have := (st_mem' (f := f) (t := t) (Nat.zero_le _)).1 x hx
  simp [ordP, this]
 have h2 : t.filter (ordP f t 0) = t := by
  rw [List.filter_eq_self]
  intro x hx
  simp [ordP, hx]
 rw [h1, h2] at h
 exact h
theorem steps_come {f t : List Int} (hf : f.Nodup) (ht : t.Nodup) : applyW f (stepsF f t) = some t := by
 have := apply_run hf ht t.length (Nat.le_refl _)
 rw [Nat.sub_self, st_full hf ht] at this
 exact this
end Go.Proofs.YtbpkddpkcnlmhaaGreat
namespace Go.Proofs.YtbpkddpkcnlmhaaGreat
def mvP (f t : List Int) (x : Int) : Bool := decide (x ∈ f) && !decide (x ∈ staysF f t)
theorem moves_app (a c : List StepW) : movesF (a ++ c) = movesF a + movesF c := by unfold movesF; rw [List.countP_append]
theorem moves_drops (f t : List Int) : movesF (dropsF f t) = 0 := by
 unfold movesF dropsF
 rw [List.countP_map, List.countP_eq_zero]
 intro x _
 simp
theorem count_run {f t : List Int} (ht : t.Nodup) : ∀ k, k ≤ t.length →
  movesF (stW f t (t.length - k)).2 = (t.drop (t.length - k)).countP (mvP f t) ∧
  (stW f t (t.length - k)).2.length = (dropsF f t).length + (t.drop (t.length - k)).countP (fun x => !decide (x ∈ staysF f t)) ∧
  ((stW f t (t.length - k)).2.map (fun s => s.2.1)).Nodup = ((dropsF f t).map (fun s => s.2.1)).Nodup ∧
  (∀ x ∈ (stW f t (t.length - k)).2.map (fun s => s.2.1), x ∈ (dropsF f t).map (fun s => s.2.1) ∨ x ∈ t.drop (t.length - k))
 | 0, _ => by
  rw [Nat.sub_zero, st_end]
  simp [moves_drops]
 | k + 1, hk => by
  have ih := count_run (f := f) ht k (by omega)
  have hi : t.length - (k + 1) < t.length := by omega
  rw [show t.length - k = t.length - (k + 1) + 1 by omega] at ih
  obtain ⟨id, hid⟩ : ∃ id, t[t.length - (k + 1)]? = some id := ⟨_, List.getElem?_eq_getElem hi⟩
  generalize t.length - (k + 1) = i at *
  obtain ⟨hd1, hd2, hd3, hd4⟩ := nodup_drop ht hid
  obtain ⟨ih1, ih2, ih3, ih4⟩ := ih
  by_cases hs : id ∈ staysF f t
  ·rw [st_stays hid hs, hd3]
   have e1 : mvP f t id = false := by unfold mvP;simp [hs]
   refine ⟨by rw [List.countP_cons_of_neg (by rw [e1];simp)];exact ih1, by rw [List.countP_cons_of_neg (by simp [hs])];exact ih2, ih3, fun x hx => (ih4 x hx).imp (fun h => h) (fun h => List.mem_cons_of_mem _ h)⟩
  ·rw [st_put hid hs, hd3]
   refine ⟨?_, ?_, ?_, ?_⟩
   ·simp only
    rw [moves_app, ih1, List.countP_cons]
    congr 1
    unfold movesF mvP
    by_cases hin : id ∈ f <;> simp [hin, hs]
   ·simp only
    rw [List.length_append, ih2, List.countP_cons_of_pos (by simp [hs])]
    simp;omega
   ·simp only
    rw [List.map_append, ← ih3]
    refine propext ⟨fun h => (List.nodup_append.1 h).1, fun h => List.nodup_append.2 ⟨h, by simp, ?_⟩⟩
    intro x hx y hy e
    simp only [List.map_cons, List.map_nil, List.mem_singleton] at hy
    subst hy;subst e
    rcases ih4 x hx with h | h
    ·unfold dropsF at h
     rw [List.map_map] at h
     obtain ⟨z, hz, e⟩ := List.mem_map.1 h
     simp only [Function.comp] at e
     subst e
     have := (List.mem_filter.1 hz).2
     simp [List.mem_of_getElem? hid] at this
    ·exact hd1 h
   ·simp only
    intro x hx
    rw [List.map_append] at hx
    rcases List.mem_append.1 hx with hx | hx
    ·exact (ih4 x hx).imp (fun h => h) (fun h => List.mem_cons_of_mem _ h)
    ·simp only [List.map_cons, List.map_nil, List.mem_singleton] at hx
     exact .inr (by rw [hx];exact List.mem_cons_self)
theorem cnt_split {α : Type} (p : α → Bool) : ∀ l : List α, l.countP p + l.countP (fun x => !p x) = l.length
 | [] => rfl
 | x :: l => by
  have := cnt_split p l
  rw [List.countP_cons, List.countP_cons, List.length_cons]
  cases p x <;> simp <;> omega
theorem count_split {l s : List Int} (hl : l.Nodup) (hs : s.Sublist l) : l.countP (fun x => !decide (x ∈ s)) + s.length = l.length := by
 have h1 : l.countP (fun x => decide (x ∈ s)) = s.length := by rw [List.countP_eq_length_filter, filter_sub hs hl]
 have h2 := cnt_split (fun x => decide (x ∈ s)) l
 omega
theorem ids_nodup {f t : List Int} (ht : t.Nodup) : (idsF f t).Nodup := ht.sublist (ids_sub f t)
theorem moves_steps {f t : List Int} (ht : t.Nodup) : movesF (stepsF f t) + top (oldF f t) (oldF f t).length = (idsF f t).length := by
 have h := (count_run (f := f) ht t.length (Nat.le_refl _)).1
 rw [Nat.sub_self, List.drop_zero] at h
 have h2 := count_split (ids_nodup (f := f) ht) (stays_ids f t)
 rw [stays_len] at h2
 have h3 : t.countP (mvP f t) = (idsF f t).countP (fun x => !decide (x ∈ staysF f t)) := by
  unfold idsF
  rw [List.countP_filter]
  refine List.countP_congr (fun x _ => ?_)
  unfold mvP
  simp [and_comm]
 show movesF (stW f t 0).2 + _ = _
 rw [h, h3]
 exact h2
theorem once_same {l : List Int} (h : l.Nodup) : onceI l = l := by
 have key : ∀ n, n ≤ l.length → onceN l n = l.take n := by
  intro n
  induction n with
  | zero => intro _;rfl
  | succ n ih =>
   intro hn
   have hg : l[n]? = some (l[n]'(by omega)) := List.getElem?_eq_getElem (by omega)
   rw [once_succ hg, ih (by omega), take_snocW hg, if_neg (nodup_drop h hg).2.1]
 rw [onceI, key _ (Nat.le_refl _), List.take_length]
def cntP (f : List Int) (s : StepW) : Bool := decide (s.1 = 3) || (decide (s.1 = 2) && decide (s.2.1 ∈ f))
def othersF (f : List Int) (s : List StepW) : Nat := s.countP (fun s => !decide (s.1 = 3) && (decide (s.1 = 2) && decide (s.2.1 ∈ f)))
theorem cnt_len (f : List Int) : ∀ s : List StepW, s.countP (cntP f) = movesF s + othersF f s
 | [] => rfl
 | s :: r => by
  have ih := cnt_len f r
  unfold movesF othersF at *
  rw [List.countP_cons, List.countP_cons, List.countP_cons, ih]
  unfold cntP
  by_cases h3 : s.1 = 3
  ·simp [h3];omega
  ·simp [h3];omega
theorem step_keeps {f o o' : List Int} {U : Int → Bool} {s : StepW} (h : stepW o s = some o') (hU : cntP f s = true → U s.2.1 = false) (hf : ∀ x, U x = true → x ∈ f) : (o'.filter U).Sublist (o.filter U) := by
 obtain ⟨k, id, q⟩ := s
 unfold stepW at h
 have hw : ((woF o id).filter U).Sublist (o.filter U) := List.Sublist.filter _ List.filter_sublist
 split at h
 ·cases h
 ·split at h
  ·rename_i hb hk
   simp only at hb hk h hU
   split at h
   ·cases h
   ·injection h with h
    subst h
    have hu : U id = false := by
     by_cases e : k = 3
     ·exact hU (by unfold cntP;simp [e])
     ·have e2 : k = 2 := by omega
      cases hx : U id with
      | false => rfl
      | true => exact absurd (hU (by unfold cntP;simp [e2, hf id hx])) (by simp [hx])
    unfold insF
    rw [List.filter_append, List.filter_cons_of_neg (by rw [hu];simp), ← List.filter_append, List.take_append_drop]
    exact hw
  ·injection h with h
   subst h
   exact hw
theorem apply_keeps {f : List Int} {U : Int → Bool} (hf : ∀ x, U x = true → x ∈ f) : ∀ (s : List StepW) (o o' : List Int), applyW o s = some o' → (∀ x ∈ s, cntP f x = true → U x.2.1 = false) → (o'.filter U).Sublist (o.filter U)
 | [], o, o', h, _ => by
  have : o = o' := by simpa [applyW] using h
  rw [this];exact List.Sublist.refl _
 | x :: s, o, o', h, hU => by
  rw [← List.singleton_append, apply_app, apply_one] at h
  cases h1 : stepW o x with
  | none => rw [h1] at h;cases h
  | some o1 =>
   rw [h1, Option.bind_some] at h
   exact (apply_keeps hf s o1 o' h (fun y hy => hU y (by simp [hy]))).trans (step_keeps h1 (hU x (by simp)) hf)
theorem least {f t : List Int} (hf : f.Nodup) (ht : t.Nodup) {s : List StepW} (h : applyW f s = some t) : movesF (stepsF f t) ≤ movesF s + othersF f s := by
 obtain ⟨C, hC⟩ : ∃ C : List Int, C = (s.filter (cntP f)).map (fun x => x.2.1) := ⟨_, rfl⟩
 have hCl : C.length = movesF s + othersF f s := by rw [hC, List.length_map, ← List.countP_eq_length_filter, cnt_len]
 obtain ⟨U, hUd⟩ : ∃ U : Int → Bool, U = fun x => decide (x ∈ f) && !decide (x ∈ C) := ⟨_, rfl⟩
 have hUf : ∀ x, U x = true → x ∈ f := fun x hx => by rw [hUd] at hx;simp at hx;exact hx.1
 have hsub := apply_keeps (f := f) (U := U) hUf s f t h (fun x hx hc => by
  rw [hUd]
  have : x.2.1 ∈ C := by rw [hC];exact List.mem_map.2 ⟨x, List.mem_filter.2 ⟨hx, hc⟩, rfl⟩
  simp [this])
 -- the untouched ones: a row of both lists
 have hu1 : (t.filter U).Sublist f := hsub.trans List.filter_sublist
 have hu2 : (t.filter U).Sublist (idsF f t) := by
  unfold idsF
  have : t.filter U = (t.filter (fun x => decide (x ∈ f))).filter U := by
   rw [List.filter_filter]
   refine List.filter_congr (fun x _ => ?_)
   by_cases hx : U x = true
   ·simp [hx, hUf x hx]
   ·simp [hx]
  rw [this]
  exact List.filter_sublist
 have hrow : (t.filter U).length ≤ top (oldF f t) (oldF f t).length := by
  have h1 : ((t.filter U).map (fun x => ((posI f x : Nat) : Int))).Sublist (oldF f t) := hu2.map _
  have h2 : ((t.filter U).map (fun x => ((posI f x : Nat) : Int))).Pairwise (· < ·) := by
   rw [List.pairwise_map]
   have hp : f.Pairwise (fun x y => ((posI f x : Nat) : Int) < ((posI f y : Nat) : Int)) := by
    rw [List.pairwise_iff_getElem]
    intro i j hi hj hij
    have e1 := (pos_first (List.getElem?_eq_getElem hi)).2 (nodup_drop hf (List.getElem?_eq_getElem hi)).2.1
    have e2 := (pos_first (List.getElem?_eq_getElem hj)).2 (nodup_drop hf (List.getElem?_eq_getElem hj)).2.1
    rw [e1, e2];omega
   exact hp.sublist hu1
  have := row_le h1 h2
  rwa [List.length_map] at this
 have hsplit : (idsF f t).length ≤ (t.filter U).length + C.length := by
  have h1 := List.length_eq_countP_add_countP (p := U) (l := idsF f t)
  have h2 : (idsF f t).countP U = (t.filter U).length := by
   unfold idsF
   rw [List.countP_filter, ← List.countP_eq_length_filter]
   refine List.countP_congr (fun x _ => ?_)
   by_cases hx : U x = true
   ·simp [hx, hUf x hx]
   ·simp [hx]
  have h3 : (idsF f t).countP (fun a => decide ¬ U a = true) ≤ C.length := by
   rw [List.countP_eq_length_filter]
   refine same_len ((ids_nodup ht).sublist List.filter_sublist) (fun x hx => ?_)
   obtain ⟨g1, g2⟩ := List.mem_filter.1 hx
   have g3 : x ∈ f := by have := (List.mem_filter.1 g1).2;simpa using this
   rw [hUd] at g2
   simpa [g3] using g2
  omega
 have hm := moves_steps (f := f) ht
 omega
end Go.Proofs.YtbpkddpkcnlmhaaGreat
namespace Go.Proofs.YtbpkddpkcnlmhaaGreat
abbrev ulS : ByteArray := ⟨#[117, 108]⟩
abbrev liS : ByteArray := ⟨#[108, 105]⟩
structure FkD (D : DomP) (m : Nat) (ks : List Int) (K : Nat) : Prop where
 wf : WfD D
 bnd : Bnd K D
 most : D.most = 40
 next : D.next = 2 + m
 len : D.l.length = m + 2
 root : ∃ r, D.f 0 = some r ∧ r.kind = 2 ∧ r.par = -1 ∧ r.kids = [1]
 ul : ∃ u, D.f 1 = some u ∧ u.kind = 2 ∧ u.par = 0 ∧ u.kids = ks
 li : ∀ i : Int, 2 ≤ i → i < 2 + m → ∃ n, D.f i = some n ∧ n.kind = 2 ∧ n.kids = [] ∧ n.par = if i ∈ ks then 1 else -1
 mem : ∀ i ∈ ks, 2 ≤ i ∧ i < 2 + m
section
variable {D D' : DomP} {m : Nat} {ks : List Int} {K K' : Nat}
theorem FkD.nod (h : FkD D m ks K) : ks.Nodup := by
 obtain ⟨u, hu, -, -, e⟩ := h.ul
 rw [← e];exact h.wf.wf.nod 1 u hu
theorem FkD.same (h : FkD D m ks K) (hs : ∀ i, (D'.f i).map shN = (D.f i).map shN) (hm : D'.most = D.most) (hn : D'.next = D.next) (hl : D'.l.length = D.l.length) (hw : WfD D') (hb : Bnd K' D') : FkD D' m ks K' := by
 have back : ∀ i n, D.f i = some n → ∃ n', D'.f i = some n' ∧ shN n' = shN n := fun i n hi => by
  have := hs i
  rw [hi] at this
  cases hf : D'.f i with
  | none => rw [hf] at this;cases this
  | some n' => rw [hf] at this;exact ⟨n', rfl, by simpa using this⟩
 refine ⟨hw, hb, hm.trans h.most, hn.trans h.next, hl.trans h.len, ?_, ?_, fun i h1 h2 => ?_, h.mem⟩
 ·obtain ⟨r, hr, a, b, c⟩ := h.root
  obtain ⟨n', hn', e⟩ := back 0 r hr
  simp only [Prod.mk.injEq] at e
  exact ⟨n', hn', by rw [e.2.1, a], by rw [e.2.2.1, b], by rw [e.2.2.2, c]⟩
 ·obtain ⟨r, hr, a, b, c⟩ := h.ul
  obtain ⟨n', hn', e⟩ := back 1 r hr
  simp only [Prod.mk.injEq] at e
  exact ⟨n', hn', by rw [e.2.1, a], by rw [e.2.2.1, b], by rw [e.2.2.2, c]⟩
 ·obtain ⟨r, hr, a, b, c⟩ := h.li i h1 h2
  obtain ⟨n', hn', e⟩ := back i r hr
  simp only [Prod.mk.injEq] at e
  exact ⟨n', hn', by rw [e.2.1, a], by rw [e.2.2.2, b], by rw [e.2.2.1, c]⟩
theorem setP_sh (D : DomP) (kind id : Int) (name v : ByteArray) (num : Int) : (∀ i, ((setP D kind id name v num).1.f i).map shN = (D.f i).map shN) ∧ (setP D kind id name v num).1.most = D.most ∧ (setP D kind id name v num).1.next = D.next ∧ (setP D kind id name v num).1.l.length = D.l.length := by
 unfold setP
 split
 ·exact ⟨fun _ => rfl, rfl, rfl, rfl⟩
 ·rename_i n hn
  split
  ·exact ⟨fun _ => rfl, rfl, rfl, rfl⟩
  ·split
   ·exact ⟨fun _ => rfl, rfl, rfl, rfl⟩
   ·rename_i n' hc
    exact ⟨shN_put hn (chg_shN hc), rfl, rfl, put_len0 _ _⟩
theorem FkD.set (h : FkD D m ks K) (kind id : Int) (name v : ByteArray) (num : Int) : FkD (setP D kind id name v num).1 m ks (K + 1) := by
 obtain ⟨h1, h2, h3, h4⟩ := setP_sh D kind id name v num
 exact h.same h1 h2 h3 h4 (setP_wf h.wf ..) (setP_bnd h.bnd ..)
theorem FkD.up (h : FkD D m ks K) (hk : K ≤ K') : FkD D m ks K' := { h with bnd := h.bnd.up hk }
theorem FkD.more (h : FkD D m ks K) (hm : m ≤ 30) : (elemP D liS).2.1 = 2 + (m : Int) ∧ (elemP D liS).2.2 = 0 ∧ FkD (elemP D liS).1 (m + 1) ks (K + 1) := by
 have hw := elemP_wf h.wf liS
 have hb := elemP_bnd h.bnd liS
 have hlen := h.len
 have hmost := h.most
 have e : elemP D liS = ({ D with next := D.next + 1, l := D.l ++ [⟨D.next, 2, liS, ⟨#[]⟩, [], [], [], -1, []⟩] }, D.next, 0) := by
  unfold elemP addP
  rw [if_pos (by decide), if_neg (by omega)]
 rw [e] at hw hb ⊢
 have hnx := h.next
 have hf : ∀ i n, D.f i = some n → fnP (D.l ++ [⟨D.next, 2, liS, ⟨#[]⟩, [], [], [], -1, []⟩]) i = some n := fun i n hi => by rw [fnd_app];rw [show fnP D.l i = some n from hi]
 refine ⟨hnx, rfl, hw, hb, h.most, by simp only;rw [hnx];push_cast;omega, by simp [hlen], ?_, ?_, fun i h1 h2 => ?_, fun i hi => by have := h.mem i hi;push_cast;omega⟩
 ·obtain ⟨r, hr, a⟩ := h.root
  exact ⟨r, hf 0 r hr, a⟩
 ·obtain ⟨r, hr, a⟩ := h.ul
  exact ⟨r, hf 1 r hr, a⟩
 ·by_cases hi : i < 2 + (m : Int)
  ·obtain ⟨r, hr, a⟩ := h.li i h1 hi
   exact ⟨r, hf i r hr, a⟩
  ·have hi : i = D.next := by push_cast at h2;omega
   subst hi
   refine ⟨⟨D.next, 2, liS, ⟨#[]⟩, [], [], [], -1, []⟩, ?_, rfl, rfl, ?_⟩
   ·show fnP (D.l ++ [⟨D.next, 2, liS, ⟨#[]⟩, [], [], [], -1, []⟩]) D.next = _
    rw [fnd_app, show fnP D.l D.next = none from h.wf.wf.big (Int.le_refl _)]
    simp only
    rw [if_pos trivial]
   ·rw [if_neg (fun hin => by have := h.mem _ hin;omega)]
theorem FkD.nowin (h : FkD D m ks K) {id : Int} (hi : 2 ≤ id) : ¬ Win D.f id 1 := fun hw => by
 obtain ⟨u, hu, -, hp, -⟩ := h.ul
 obtain ⟨r, hr, -, hq, -⟩ := h.root
 rcases (win_iff hu).1 hw with e | hw
 ·omega
 ·rw [hp] at hw
  rcases (win_iff hr).1 hw with e | hw
  ·omega
  ·rw [hq] at hw
   exact win_none (h.wf.wf.neg (by decide)) hw
theorem FkD.put (h : FkD D m ks K) {id at_ : Int} (h1 : 2 ≤ id) (h2 : id < 2 + m) (hn : id ∉ ks) (a0 : 0 ≤ at_) (a1 : at_ ≤ ks.length) : (insP D 1 at_ id).2 = 0 ∧ FkD (insP D 1 at_ id).1 m (insF ks at_.toNat id) (K + 1) := by
 have hw := insP_wf h.wf 1 at_ id
 have hb := insP_bnd h.bnd 1 at_ id
 obtain ⟨u, hu, u1, u2, u3⟩ := h.ul
 obtain ⟨n, hl, n1, n2, n3⟩ := h.li id h1 h2
 rw [if_neg hn] at n3
 have en : n.id = id := fnd_id hl
 have eu : u.id = 1 := fnd_id hu
 have e : insP D 1 at_ id = ({ D with l := putP (putP D.l { u with kids := insF u.kids at_.toNat id }) { n with par := 1 } }, 0) := by
  unfold insP
  rw [hu, hl]
  simp only
  rw [if_neg (by rw [u1];decide), if_neg]
  rintro (k | k | k | k | k)
  ·omega
  ·exact k n3
  ·exact h.nowin h1 k
  ·omega
  ·rw [u3] at k;omega
 rw [u3] at e
 rw [e] at hw hb ⊢
 have f1 : ∀ i, fnP (putP D.l { u with kids := insF ks at_.toNat id }) i = if i = 1 then some { u with kids := insF ks at_.toNat id } else D.f i := fun i => by
  rw [fnd_put_some (n := { u with kids := insF ks at_.toNat id }) (m := u) (by simp only [eu];exact hu)]
  simp only [eu]
 have f2 : ∀ i, fnP (putP (putP D.l { u with kids := insF ks at_.toNat id }) { n with par := 1 }) i = if i = id then some { n with par := 1 } else if i = 1 then some { u with kids := insF ks at_.toNat id } else D.f i := fun i => by
  rw [fnd_put_some (n := { n with par := 1 }) (m := n) (by rw [f1];simp only [en];rw [if_neg (by omega)];exact hl), f1]
  simp only [en]
 have hmi : ∀ x, x ∈ insF ks at_.toNat id ↔ x = id ∨ x ∈ ks := fun x => mem_ins
 refine ⟨rfl, hw, hb, h.most, h.next, ?_, ?_, ?_, fun i i1 i2 => ?_, fun i hi => ?_⟩
 ·rw [put_len0, put_len0];exact h.len
 ·obtain ⟨r, hr, a⟩ := h.root
  exact ⟨r, by show fnP _ 0 = _;rw [f2, if_neg (by omega), if_neg (by decide)];exact hr, a⟩
 ·exact ⟨{ u with kids := insF ks at_.toNat id }, by show fnP _ 1 = _;rw [f2, if_neg (by omega), if_pos rfl], u1, u2, rfl⟩
 ·by_cases hi : i = id
  ·subst hi
   exact ⟨{ n with par := 1 }, by show fnP _ i = _;rw [f2, if_pos rfl], n1, n2, by rw [if_pos ((hmi i).2 (.inl rfl))]⟩
  ·obtain ⟨r, hr, a, b, c⟩ := h.li i i1 i2
   refine ⟨r, by show fnP _ i = _;rw [f2, if_neg hi, if_neg (by omega)];exact hr, a, b, ?_⟩
   rw [c]
   by_cases hk : i ∈ ks
   ·rw [if_pos hk, if_pos ((hmi i).2 (.inr hk))]
   ·rw [if_neg hk, if_neg (fun k => ((hmi i).1 k).elim hi hk)]
 ·rcases (hmi i).1 hi with rfl | hi
  ·exact ⟨h1, h2⟩
  ·exact h.mem i hi
theorem FkD.move (h : FkD D m ks K) {id at_ : Int} (hn : id ∈ ks) (a0 : 0 ≤ at_) (a1 : at_ < ks.length) : (movDP D id at_).2 = 0 ∧ FkD (movDP D id at_).1 m (insF (woP ks id) at_.toNat id) (K + 1) := by
 have hw := movP_wf h.wf id at_
 have hb := movP_bnd h.bnd id at_
 obtain ⟨h1, h2⟩ := h.mem id hn
 obtain ⟨u, hu, u1, u2, u3⟩ := h.ul
 obtain ⟨n, hl, n1, n2, n3⟩ := h.li id h1 h2
 rw [if_pos hn] at n3
 have eu : u.id = 1 := fnd_id hu
 have e : movDP D id at_ = ({ D with l := putP D.l { u with kids := insF (woP u.kids id) at_.toNat id } }, 0) := by
  unfold movDP
  rw [hl]
  simp only
  rw [n3, hu]
  simp only
  rw [if_neg (by rw [u3];omega)]
 rw [u3] at e
 rw [e] at hw hb ⊢
 have f1 : ∀ i, fnP (putP D.l { u with kids := insF (woP ks id) at_.toNat id }) i = if i = 1 then some { u with kids := insF (woP ks id) at_.toNat id } else D.f i := fun i => by
  rw [fnd_put_some (n := { u with kids := insF (woP ks id) at_.toNat id }) (m := u) (by simp only [eu];exact hu)]
  simp only [eu]
 have hmi : ∀ x, x ∈ insF (woP ks id) at_.toNat id ↔ x ∈ ks := fun x => by
  rw [mem_ins, wo_mem]
  by_cases hx : x = id
  ·subst hx;exact ⟨fun _ => hn, fun _ => .inl rfl⟩
  ·exact ⟨fun k => (k.resolve_left hx).1, fun k => .inr ⟨k, hx⟩⟩
 refine ⟨rfl, hw, hb, h.most, h.next, ?_, ?_, ?_, fun i i1 i2 => ?_, fun i hi => h.mem i ((hmi i).1 hi)⟩
 ·rw [put_len0];exact h.len
 ·obtain ⟨r, hr, a⟩ := h.root
  exact ⟨r, by show fnP _ 0 = _;rw [f1, if_neg (by decide)];exact hr, a⟩
 ·exact ⟨{ u with kids := insF (woP ks id) at_.toNat id }, by show fnP _ 1 = _;rw [f1, if_pos rfl], u1, u2, rfl⟩
 ·obtain ⟨r, hr, a, b, c⟩ := h.li i i1 i2
  refine ⟨r, by show fnP _ i = _;rw [f1, if_neg (by omega)];exact hr, a, b, ?_⟩
  rw [c]
  by_cases hk : i ∈ ks
  ·rw [if_pos hk, if_pos ((hmi i).2 hk)]
  ·rw [if_neg hk, if_neg (fun k => hk ((hmi i).1 k))]
end
noncomputable def beg1 : DomP := (elemP (newP 40) ulS).1
noncomputable def beg2 : DomP := (insP beg1 0 0 1).1
theorem beg1_eq : elemP (newP 40) ulS = (⟨40, 2, [rootP, ⟨1, 2, ulS, ⟨#[]⟩, [], [], [], -1, []⟩]⟩, 1, 0) := by
 unfold elemP addP
 rw [if_pos (by decide), if_neg (by show ¬ ((1 : Int) > max 1 (min 40 65536));decide)]
 rfl
theorem beg2_eq : insP beg1 0 0 1 = (⟨40, 2, [{ rootP with kids := [1] }, ⟨1, 2, ulS, ⟨#[]⟩, [], [], [], 0, []⟩]⟩, 0) := by
 have e : beg1 = ⟨40, 2, [rootP, ⟨1, 2, ulS, ⟨#[]⟩, [], [], [], -1, []⟩]⟩ := by unfold beg1;rw [beg1_eq]
 rw [e]
 have h0 : (⟨40, 2, [rootP, ⟨1, 2, ulS, ⟨#[]⟩, [], [], [], -1, []⟩]⟩ : DomP).f 0 = some rootP := rfl
 have h1 : (⟨40, 2, [rootP, ⟨1, 2, ulS, ⟨#[]⟩, [], [], [], -1, []⟩]⟩ : DomP).f 1 = some ⟨1, 2, ulS, ⟨#[]⟩, [], [], [], -1, []⟩ := rfl
 have hm : (⟨40, 2, [rootP, ⟨1, 2, ulS, ⟨#[]⟩, [], [], [], -1, []⟩]⟩ : DomP).f (-1) = none := rfl
 unfold insP
 rw [h0, h1]
 simp only
 rw [if_neg (by decide), if_neg]
 ·rfl
 ·rintro (k | k | k | k | k)
  ·exact absurd k (by decide)
  ·exact k rfl
  ·rcases (win_iff h0).1 k with e | k
   ·exact absurd e (by decide)
   ·exact win_none hm k
  ·exact absurd k (by decide)
  ·exact absurd k (by decide)
theorem beg2_fk : FkD beg2 0 [] 2 := by
 have hw : WfD beg2 := insP_wf (elemP_wf (newP_wf 40) ulS) 0 0 1
 have hb : Bnd 2 beg2 := insP_bnd (elemP_bnd (newP_bnd 40 0) ulS) 0 0 1
 have e : beg2 = ⟨40, 2, [{ rootP with kids := [1] }, ⟨1, 2, ulS, ⟨#[]⟩, [], [], [], 0, []⟩]⟩ := by unfold beg2;rw [beg2_eq]
 rw [e] at hw hb ⊢
 exact ⟨hw, hb, rfl, rfl, rfl, ⟨_, rfl, rfl, rfl, rfl⟩, ⟨_, rfl, rfl, rfl, rfl⟩, fun i h1 h2 => by push_cast at h2;omega, fun i hi => by cases hi⟩
theorem steps_kinds {f t : List Int} : ∀ s ∈ stepsF f t, (s.1 = 1 ∧ s.2.1 ∈ f ∧ s.2.1 ∉ t) ∨ (s.1 = 2 ∧ s.2.1 ∉ f ∧ s.2.1 ∈ t) ∨ (s.1 = 3 ∧ s.2.1 ∈ f ∧ s.2.1 ∈ t) := by
 have key : ∀ k, k ≤ t.length → ∀ s ∈ (runW f t k).2, (s.1 = 1 ∧ s.2.1 ∈ f ∧ s.2.1 ∉ t) ∨ (s.1 = 2 ∧ s.2.1 ∉ f ∧ s.2.1 ∈ t) ∨ (s.1 = 3 ∧ s.2.1 ∈ f ∧ s.2.1 ∈ t) := by
  intro k
  induction k with
  | zero =>
   intro _ s hs
   simp only [runW, dropsF, List.mem_map, List.mem_filter] at hs
   obtain ⟨x, ⟨hx, hx2⟩, rfl⟩ := hs
   exact .inl ⟨rfl, hx, by simpa using hx2⟩
  | succ k ih =>
   intro hk s hs
   simp only [runW, rndW] at hs
   split at hs
   ·exact ih (by omega) s hs
   ·rename_i id hid
    split at hs
    ·exact ih (by omega) s hs
    ·simp only [List.mem_append, List.mem_singleton] at hs
     rcases hs with hs | rfl
     ·exact ih (by omega) s hs
     ·have := List.mem_of_getElem? hid
      by_cases hf : id ∈ f
      ·exact .inr (.inr ⟨if_pos hf, hf, this⟩)
      ·exact .inr (.inl ⟨if_neg hf, hf, this⟩)
 exact fun s hs => by
  unfold stepsF stW at hs
  exact key _ (by omega) s hs
abbrev noteS (s : Int × Int × Int) : Int × Int × Int × Int × ByteArray × ByteArray := if s.1 = 2 then (3, 1, s.2.2, s.2.1, ⟨#[]⟩, ⟨#[]⟩) else (4, s.2.1, s.2.2, 0, ⟨#[]⟩, ⟨#[]⟩)
theorem wo_wo (l : List Int) (x : Int) : woF l x = woP l x := by
 unfold woF woP
 apply List.filter_congr
 intro y _
 by_cases h : y = x <;> simp [h]
theorem wo_no {l : List Int} {x : Int} (h : x ∉ l) : woF l x = l := by
 unfold woF
 rw [List.filter_eq_self]
 intro y hy
 have : y ≠ x := fun e => h (e ▸ hy)
 simp [this]
section
variable {D : DomP} {m : Nat} {ks ks' : List Int} {K : Nat} {s : Int × Int × Int}
theorem FkD.step2 (h : FkD D m ks K) (hs : stepW ks s = some ks') (hk : s.1 = 2) (h1 : 2 ≤ s.2.1) (h2 : s.2.1 < 2 + m) : (insP D 1 s.2.2 s.2.1).2 = 0 ∧ FkD (insP D 1 s.2.2 s.2.1).1 m ks' (K + 1) := by
 unfold stepW at hs
 split at hs
 ·cases hs
 ·rename_i hc
  simp only [not_or] at hc
  have hn : s.2.1 ∉ ks := fun hm => hc.2.2 ⟨fun _ => hk, fun _ => hm⟩
  rw [if_pos (by omega), wo_no hn] at hs
  split at hs
  ·cases hs
  ·rename_i hr
   cases hs
   exact h.put h1 h2 hn (by omega) (by omega)
theorem FkD.step3 (h : FkD D m ks K) (hs : stepW ks s = some ks') (hk : s.1 = 3) : (movDP D s.2.1 s.2.2).2 = 0 ∧ FkD (movDP D s.2.1 s.2.2).1 m ks' (K + 1) := by
 unfold stepW at hs
 split at hs
 ·cases hs
 ·rename_i hc
  simp only [not_or] at hc
  have hn : s.2.1 ∈ ks := Classical.byContradiction fun hm => hc.2.2 ⟨fun k => absurd k hm, fun k => by omega⟩
  rw [if_pos (by omega), wo_wo] at hs
  split at hs
  ·cases hs
  ·rename_i hr
   have hl := woP_len h.nod hn
   cases hs
   exact h.move hn (by omega) (by omega)
end
def idsM (m : Nat) : List Int := (List.range m).map (fun i : Nat => (2 : Int) + (i : Int))
theorem idsM_succ (m : Nat) : idsM (m + 1) = idsM m ++ [2 + (m : Int)] := by unfold idsM; rw [List.range_succ, List.map_append]; rfl
theorem idsM_len (m : Nat) : (idsM m).length = m := by unfold idsM; rw [List.length_map, List.length_range]
theorem idsM_mem {m : Nat} {x : Int} : x ∈ idsM m ↔ 2 ≤ x ∧ x < 2 + m := by
 unfold idsM
 simp only [List.mem_map, List.mem_range]
 constructor
 ·rintro ⟨i, hi, rfl⟩;omega
 ·intro h;exact ⟨(x - 2).toNat, by omega, by omega⟩
theorem idsM_nodup (m : Nat) : (idsM m).Nodup := by
 unfold idsM
 rw [List.nodup_iff_pairwise_ne, List.pairwise_map]
 exact List.Pairwise.imp (fun {a b : Nat} (h : a ≠ b) (e : (2 : Int) + (a : Int) = 2 + (b : Int)) => h (by omega)) (List.nodup_iff_pairwise_ne.1 (List.nodup_range (n := m)))
theorem idsM_idx {m : Nat} {x : Int} (h : x ∈ idsM m) : (((idsM m).idxOf x : Nat) : Int) = x - 2 := by
 obtain ⟨h1, h2⟩ := idsM_mem.1 h
 have hi := List.idxOf_lt_length_iff.2 h
 have hg := List.getElem_idxOf hi
 have key : ∀ (j : Nat) (hj : j < (idsM m).length), (idsM m)[j] = 2 + (j : Int) := fun j hj => by
  simp [idsM]
 have e := key _ hi
 rw [e] at hg
 omega
theorem ids_all {f t : List Int} (h : ∀ x ∈ t, x ∈ f) : idsF f t = t := by
 unfold idsF
 rw [List.filter_eq_self]
 exact fun x hx => decide_eq_true (h x hx)
theorem old_sh {m : Nat} {t : List Int} (h : ∀ x ∈ t, x ∈ idsM m) : oldF (idsM m) t = t.map (· + (-1)) := by
 unfold oldF
 rw [ids_all h]
 apply List.map_congr_left
 intro x hx
 have := idsM_idx (h x hx)
 unfold posI
 rw [if_pos (h x hx)]
 push_cast
 omega
theorem flip_moves {m : Nat} {t : List Int} (hp : List.Perm t (idsM m)) : (∀ s ∈ stepsF (idsM m) t, s.1 = 3) ∧ (stepsF (idsM m) t).length + top t t.length = m := by
 have hm : ∀ x ∈ t, x ∈ idsM m := fun x hx => hp.mem_iff.1 hx
 have hn : t.Nodup := hp.nodup_iff.2 (idsM_nodup m)
 have hk : ∀ s ∈ stepsF (idsM m) t, s.1 = 3 := fun s hs => by
  rcases steps_kinds s hs with ⟨h1, h2, h3⟩ | ⟨h1, h2, h3⟩ | ⟨h1, -⟩
  ·exact absurd (hp.mem_iff.2 h2) h3
  ·exact absurd (hm _ h3) h2
  ·exact h1
 refine ⟨hk, ?_⟩
 have h1 := moves_steps (f := idsM m) hn
 have h2 : movesF (stepsF (idsM m) t) = (stepsF (idsM m) t).length := by
  unfold movesF
  rw [List.countP_eq_length]
  exact fun s hs => decide_eq_true (hk s hs)
 have h3 : t.length = m := by rw [hp.length_eq, idsM_len]
 rw [h2, old_sh hm, List.length_map, top_sh _ _ (Nat.le_refl _), ids_all hm, h3] at h1
 rw [h3]
 exact h1
theorem perm_take {a l t : List Int} {k : Nat} {x : Int} (h : List.Perm (a ++ l) t) (hx : l[k]? = some x) : List.Perm ((a ++ [x]) ++ (l.take k ++ l.drop (k + 1))) t := by
 obtain ⟨hk, hg⟩ := List.getElem?_eq_some_iff.1 hx
 refine List.Perm.trans ?_ h
 rw [List.append_assoc]
 refine List.Perm.append_left a ?_
 have e : l = l.take k ++ x :: l.drop (k + 1) := by
  conv => lhs;rw [← List.take_append_drop k l]
  rw [List.drop_eq_getElem_cons hk, hg]
 conv => rhs;rw [e]
 show List.Perm (x :: (l.take k ++ l.drop (k + 1))) _
 exact List.perm_middle.symm
end Go.Proofs.YtbpkddpkcnlmhaaGreat
namespace Go.Proofs.YtbpkddpkcnlmhaaGreat
open Go.RowKit
set_option maxRecDepth 100000
attribute [local irreducible] Go.Code.wpIn Go.wpListIn Go.Calls Gives Go.Exit.then Go.Exit.inBlock Done ObxE
abbrev pA (b : Nat) : Value := .pointer (some ⟨b, 0, none⟩)
abbrev NoA := (Option Addr × Nat) × (Option Addr × Nat) × (Option Addr × Nat) × (Option Addr × Nat)
abbrev nodC (n : NodeP) (y : NoA) : List Value :=
 [.int .i64 n.id, .int .i64 n.kind, .string n.tag, .string n.text, .slice y.1.1 n.cls.length y.1.2, .slice y.2.1.1 n.att.length y.2.1.2, .slice y.2.2.1.1 n.sty.length y.2.2.1.2, .int .i64 n.par, .slice y.2.2.2.1 n.kids.length y.2.2.2.2]
abbrev nodeL (b : Nat) (n : NodeP) (y : NoA) : List HP :=
 [pts b (nodC n y) 63, OwT 9 n.cls (.slice y.1.1 n.cls.length y.1.2), OwT 128 n.att (.slice y.2.1.1 n.att.length y.2.1.2),
  OwT 124 n.sty (.slice y.2.2.1.1 n.sty.length y.2.2.1.2), OwT 3 n.kids (.slice y.2.2.2.1 n.kids.length y.2.2.2.2)]
def nodH (b : Nat) (n : NodeP) : HP := bagH (fun y : NoA => nodeL b n y) (fun _ => True)
def ndsL (bl : Int → Nat) (l : List NodeP) : List HP := l.map (fun n => nodH (bl n.id) n)
def ndsH (bl : Int → Nat) (l : List NodeP) : HP := bagH (fun _ : Unit => ndsL bl l) (fun _ => True)
def mapL (bl : Int → Nat) (l : List NodeP) : List (Int × Value) := l.map (fun n => (n.id, pA (bl n.id)))
abbrev domC5 (D : DomP) (bm : Nat) : List Value := [.int .i64 D.most, .int .i64 D.next, .map (some bm)]
abbrev domL (bd : Nat) (D : DomP) (bm : Nat) (bl : Int → Nat) : List HP := [pts bd (domC5 D bm) 55, mapH encI (.map (some bm)) (mapL bl D.l), ndsH bl D.l]
def domH (bd : Nat) (D : DomP) : HP := bagH (fun y : Nat × (Int → Nat) => domL bd D y.1 y.2) (fun _ => True)
theorem Sep.perm {w : World} {L L' : List HP} (h : List.Perm L L') : ∀ {F : Nat → Prop}, Sep L F w → Sep L' F w := by
 induction h with
 | nil => exact fun h => h
 | cons x _ ih => exact fun ⟨F1, F2, h1, h2, h3, h4, h5⟩ => ⟨F1, F2, h1, h2, h3, h4, ih h5⟩
 | swap x y l => exact fun h => h.sub (.cons (.there .here) (.cons .here .refl))
 | trans _ _ ih1 ih2 => exact fun h => ih2 (ih1 h)
def ousP (l : List NodeP) (id : Int) : List NodeP := l.filter (fun x => decide (x.id ≠ id))
theorem out_perm {l : List NodeP} (hu : (l.map (·.id)).Nodup) {id : Int} {n : NodeP} (hn : fnP l id = some n) : List.Perm l (n :: ousP l id) := by
 induction l with
 | nil => cases hn
 | cons x l ih =>
  simp only [List.map_cons, List.nodup_cons] at hu
  unfold fnP at hn
  unfold ousP at *
  by_cases hx : x.id = id
  ·rw [if_pos hx] at hn
   cases hn
   have : l.filter (fun y => decide (y.id ≠ id)) = l := List.filter_eq_self.2 fun y hy => decide_eq_true fun e => hu.1 (by rw [hx, ← e];exact List.mem_map_of_mem hy)
   rw [List.filter_cons, if_neg (by simp [hx]), this]
  ·rw [if_neg hx] at hn
   rw [List.filter_cons, if_pos (by simpa using hx)]
   exact ((ih hu.2 hn).cons x).trans (.swap _ _ _)
theorem out_put {l : List NodeP} {n : NodeP} : ousP (putP l n) n.id = ousP l n.id := by
 induction l with
 | nil => rfl
 | cons x l ih =>
  unfold ousP putP at *
  rw [List.map_cons, List.filter_cons, List.filter_cons, ih]
  by_cases hx : x.id = n.id
  ·rw [if_pos hx];simp [hx]
  ·rw [if_neg hx]
theorem put_perm {l : List NodeP} (hu : (l.map (·.id)).Nodup) {n n' : NodeP} (hn : fnP l n'.id = some n) : List.Perm (putP l n') (n' :: ousP l n'.id) := by
 have h1 : fnP (putP l n') n'.id = some n' := by rw [fnd_put_some hn, if_pos rfl]
 have := out_perm (l := putP l n') (by rw [put_ids];exact hu) h1
 rwa [out_put] at this
theorem out_f (l : List NodeP) (id i : Int) : fnP (ousP l id) i = if i = id then none else fnP l i := by
 unfold ousP
 rw [fnd_filter l (fun i => decide (i ≠ id))]
 by_cases h : i = id
 ·rw [if_neg (by simpa using h), if_pos h]
 ·rw [if_pos (by simpa using h), if_neg h]
theorem out_uni {l : List NodeP} (hu : (l.map (·.id)).Nodup) (id : Int) : ((ousP l id).map (·.id)).Nodup := hu.sublist (List.Sublist.map _ List.filter_sublist)
section
variable {B : Bs} {w : World} {L L' : List HP} {bl : Int → Nat} {l : List NodeP}
theorem St.perm (h : St B L w) (hp : List.Perm L L') : St B L' w := ⟨h.below, h.frz, let ⟨F, hF, hs⟩ := h.own; ⟨F, hF, hs.perm hp⟩⟩
theorem nodH.of {b : Nat} {n : NodeP} {y : NoA} (hS : St B (nodeL b n y ++ L) w) : St B (nodH b n :: L) w := bagH.of (A := fun y : NoA => nodeL b n y) (x := y) hS trivial
theorem St.nod {b : Nat} {n : NodeP} (hS : St B L w) (hat : At (nodH b n) L L') : ∃ a1 c1 a2 c2 a3 c3 a4 c4, St B (nodeL b n ((a1, c1), (a2, c2), (a3, c3), (a4, c4)) ++ L') w := by
 obtain ⟨⟨⟨a1, c1⟩, ⟨a2, c2⟩, ⟨a3, c3⟩, ⟨a4, c4⟩⟩, -, h⟩ := St.bag hS hat
 exact ⟨a1, c1, a2, c2, a3, c3, a4, c4, h⟩
theorem nodH.get {b : Nat} {n : NodeP} (h : (nodH b n).rd w) : ∃ a1 c1 a2 c2 a3 c3 a4 c4, (pts b (nodC n ((a1, c1), (a2, c2), (a3, c3), (a4, c4))) 63).rd w ∧ SlT n.cls (.slice a1 n.cls.length c1) w ∧ SlT n.att (.slice a2 n.att.length c2) w ∧ SlT n.sty (.slice a3 n.sty.length c3) w ∧ SlT n.kids (.slice a4 n.kids.length c4) w := by
 obtain ⟨⟨⟨a1, c1⟩, ⟨a2, c2⟩, ⟨a3, c3⟩, ⟨a4, c4⟩⟩, -, F, h⟩ := bagH.rd h
 exact ⟨a1, c1, a2, c2, a3, c3, a4, c4, h.rd .here, OwT.rd (h.rd (.there .here)), OwT.rd (h.rd (.there (.there .here))), OwT.rd (h.rd (.there (.there (.there .here)))), OwT.rd (h.rd (.there (.there (.there (.there .here)))))⟩
theorem ndsH.of (hS : St B (ndsL bl l ++ L) w) : St B (ndsH bl l :: L) w := bagH.of (A := fun _ : Unit => ndsL bl l) (x := ()) hS trivial
theorem St.nds (hS : St B L w) (hat : At (ndsH bl l) L L') : St B (ndsL bl l ++ L') w := by
 obtain ⟨⟨⟩, -, h⟩ := St.bag hS hat
 exact h
theorem ndsH.rd {id : Int} {n : NodeP} (h : (ndsH bl l).rd w) (hn : fnP l id = some n) : (nodH (bl id) n).rd w := by
 obtain ⟨⟨⟩, -, F, hs⟩ := bagH.rd h
 obtain ⟨F', -, h1⟩ := hs.all (nodH (bl n.id) n) (List.mem_map_of_mem (f := fun n => nodH (bl n.id) n) (fnd_mem hn))
 rw [fnd_id hn] at h1
 exact ⟨F', h1⟩
theorem St.out (hS : St B L w) (hat : At (ndsH bl l) L L') (hu : (l.map (·.id)).Nodup) {id : Int} {n : NodeP} (hn : fnP l id = some n) : St B (nodH (bl id) n :: ndsH bl (ousP l id) :: L') w := by
 have h1 := hS.nds hat
 have hp : List.Perm (ndsL bl l ++ L') (ndsL bl (ousP l id) ++ (nodH (bl id) n :: L')) := by
  have := (List.Perm.map (fun n => nodH (bl n.id) n) (out_perm hu hn)).append_right L'
  rw [List.map_cons, fnd_id hn] at this
  exact this.trans List.perm_middle.symm
 exact (ndsH.of (h1.perm hp)).perm (.swap _ _ _)
theorem ndsH.put {n n' : NodeP} (hu : (l.map (·.id)).Nodup) (hn : fnP l n'.id = some n) (hS : St B (nodH (bl n'.id) n' :: ndsH bl (ousP l n'.id) :: L) w) : St B (ndsH bl (putP l n') :: L) w := by
 have h1 := hS.nds (.there .here)
 refine ndsH.of (h1.perm ?_)
 have := (List.Perm.map (fun n => nodH (bl n.id) n) (put_perm hu hn)).append_right L
 rw [List.map_cons] at this
 exact (List.perm_middle.trans this.symm)
theorem ndsL_up {b : Nat} {i : Int} (h : ∀ x ∈ l, x.id ≠ i) : ndsL (fun j => if j = i then b else bl j) l = ndsL bl l := by
 unfold ndsL
 refine List.map_congr_left fun x hx => ?_
 show nodH (if x.id = i then b else bl x.id) x = _
 rw [if_neg (h x hx)]
theorem mapL_up {b : Nat} {i : Int} (h : ∀ x ∈ l, x.id ≠ i) : mapL (fun j => if j = i then b else bl j) l = mapL bl l := by
 unfold mapL
 refine List.map_congr_left fun x hx => ?_
 show (x.id, pA (if x.id = i then b else bl x.id)) = _
 rw [if_neg (h x hx)]
theorem ndsH.add {b : Nat} {n : NodeP} (h : ∀ x ∈ l, x.id ≠ n.id) (hS : St B (nodH b n :: ndsH bl l :: L) w) : St B (ndsH (fun j => if j = n.id then b else bl j) (l ++ [n]) :: L) w := by
 have h1 := hS.nds (.there .here)
 refine ndsH.of (h1.perm ?_)
 have e : ndsL (fun j => if j = n.id then b else bl j) (l ++ [n]) = ndsL bl l ++ [nodH b n] := by
  have := ndsL_up (bl := bl) (b := b) h
  unfold ndsL at this ⊢
  rw [List.map_append, this]
  simp
 rw [e, List.append_assoc]
 exact List.Perm.refl _
theorem mapL_put (n : NodeP) : mapL bl (putP l n) = mapL bl l := by
 unfold mapL putP
 rw [List.map_map]
 refine List.map_congr_left fun x _ => ?_
 simp only [Function.comp]
 split
 ·rename_i h;rw [h]
 ·rfl
theorem getL_mapL (id : Int) : getL (mapL bl l) id = (fnP l id).map (fun _ => pA (bl id)) := by
 induction l with
 | nil => rfl
 | cons x l ih =>
  have ih : getL (mapL bl l) id = _ := ih
  show getL ((x.id, pA (bl x.id)) :: mapL bl l) id = _
  rw [getL_cons, ih]
  unfold fnP
  by_cases h : x.id = id
  ·rw [if_pos h, if_pos h.symm, h];rfl
  ·rw [if_neg h, if_neg (fun e => h e.symm)]
   cases l <;> rfl
theorem setL_mapL {id : Int} {b : Nat} (h : ∀ x ∈ l, x.id ≠ id) : setL (mapL bl l) id (pA b) = mapL bl l ++ [(id, pA b)] := by
 induction l with
 | nil => rfl
 | cons x l ih =>
  show setL ((x.id, pA (bl x.id)) :: mapL bl l) id (pA b) = _
  unfold setL
  rw [if_neg (fun e => h x (by simp) e.symm), ih (fun y hy => h y (by simp [hy]))]
  rfl
structure DomR (bd : Nat) (D : DomP) (bm : Nat) (bl : Int → Nat) (w : World) : Prop where
 d : (pts bd (domC5 D bm) 55).rd w
 m : (mapH encI (.map (some bm)) (mapL bl D.l)).rd w
 n : (ndsH bl D.l).rd w
theorem DomR.mono {bd : Nat} {D : DomP} {bm : Nat} {w w' : World} (h : DomR bd D bm bl w) (hb : Below w.heap.size w w') : DomR bd D bm bl w' := ⟨h.d.mono hb, h.m.mono hb, h.n.mono hb⟩
theorem domH.get {bd : Nat} {D : DomP} (h : (domH bd D).rd w) : ∃ bm bl, DomR bd D bm bl w := by
 obtain ⟨⟨bm, bl⟩, -, F, h⟩ := bagH.rd h
 exact ⟨bm, bl, h.rd .here, h.rd (.there .here), h.rd (.there (.there .here))⟩
theorem domH.of {bd : Nat} {D : DomP} {bm : Nat} (hS : St B (domL bd D bm bl ++ L) w) : St B (domH bd D :: L) w := bagH.of (A := fun y : Nat × (Int → Nat) => domL bd D y.1 y.2) (x := (bm, bl)) hS trivial
theorem St.dom {bd : Nat} {D : DomP} (hS : St B L w) (hat : At (domH bd D) L L') : ∃ bm bl, St B (domL bd D bm bl ++ L') w := by
 obtain ⟨⟨bm, bl⟩, -, h⟩ := St.bag hS hat
 exact ⟨bm, bl, h⟩
theorem St.domR {bd : Nat} {D : DomP} {bm : Nat} (hS : St B (domL bd D bm bl ++ L) w) : DomR bd D bm bl w := ⟨hS.rd .here, hS.rd (.there .here), hS.rd (.there (.there .here))⟩
end
end Go.Proofs.YtbpkddpkcnlmhaaGreat
namespace Go.Proofs.YtbpkddpkcnlmhaaGreat
open Go.RowKit
set_option maxRecDepth 100000
attribute [local irreducible] Go.Code.wpIn Go.wpListIn Go.Calls Gives Go.Exit.then Go.Exit.inBlock Done ObxE
theorem cloneS_any (l : List ByteArray) (v : Value) (w0 : World) (hv : SlT l v w0) (hl : l.length ≤ 1000) :
  Calls Tryz.prog 67 #[v] w0 (Ret fun v w => St w0 [OwT 9 l v] w) := by
 obtain ⟨ao, c, rfl, hao, _, _⟩ := hv.shape
 refine enter Tryz.func67 rfl Tryz.ntmps67 rfl (fun a hk => ?_);have hS := St.refl w0
 (repeat' (first|((first|refine wx1 ?_|refine wx2 ?_ ?_<;>intro hp|refine s_end hk ?_)<;>(clear hk a;intro a hk))|((first|refine wx3 ?_;intro w b|refine wx4 ?_;intro w|refine wx5 ?_;intro w v);clear hk hS a;intro hS a hk)|refine wx0 ?_|fail))
 refine sg hk (g_eqN hk ?_ (hT := eT rfl));clear hk a;intro a hk
 cases ao with
 | none =>
  obtain ⟨h1, _⟩ := hao rfl
  subst h1
  (repeat' (first|((first|refine wx1 ?_|refine wx2 ?_ ?_<;>intro hp|refine s_end hk ?_)<;>(clear hk a;intro a hk))|((first|refine wx3 ?_;intro w b|refine wx4 ?_;intro w|refine wx5 ?_;intro w v);clear hk hS a;intro hS a hk)|refine wx0 ?_|fail))
  exact done1 hk (h := hS.nilT 9 ByteArray)
 | some ad =>
  (repeat' (first|((first|refine wx1 ?_|refine wx2 ?_ ?_<;>intro hp|refine s_end hk ?_)<;>(clear hk a;intro a hk))|((first|refine wx3 ?_;intro w b|refine wx4 ?_;intro w|refine wx5 ?_;intro w v);clear hk hS a;intro hS a hk)|refine wx0 ?_|fail))
  refine sg hk (g_bs0 ByteArray hS ?_ (hT := eT rfl) (hE := zT rfl));clear hk hS a;intro w v0 hS a hk
  refine sg hk (g_move hk ?_);clear hk a;intro a hk
  refine sg hk (g_appT (xs := ([] : List ByteArray)) (ys := l) hk hS ?_ (hT := eT rfl) (hTx := eT rfl) (hE := zT rfl) (hz := oT rfl) (hzs := rfl) (hs := hS.rdT hv) (hby := bT rfl) (hbytes := by simp only [List.length_nil];omega) (h63 := by simp only [maxLen, List.length_nil];omega));clear hk hS a;intro w v1 hS a hk
  rw [List.nil_append] at hS
  (repeat' (first|((first|refine wx1 ?_|refine wx2 ?_ ?_<;>intro hp|refine s_end hk ?_)<;>(clear hk a;intro a hk))|((first|refine wx3 ?_;intro w b|refine wx4 ?_;intro w|refine wx5 ?_;intro w v);clear hk hS a;intro hS a hk)|refine wx0 ?_|fail))
  exact done1 hk (h := hS)
open Classical in
noncomputable def addC (l : List ByteArray) (c : ByteArray) : List ByteArray := if c ∈ l then l else l ++ [c]
noncomputable def clnC (l : List ByteArray) : List ByteArray := l.foldl addC []
end Go.Proofs.YtbpkddpkcnlmhaaGreat
