/- Layer 12: the document's steps, in plain words. -/
import Derived.Test.YtlcfdlcmeinhiaaWeave8
namespace Go.Proofs.Ytlcfdlcmeinhiaa

def nowF (f t : List Int) : List Int := f.filter (fun x => decide (x ∈ t))
def dropsF (f t : List Int) : List StepW := (f.filter (fun x => !decide (x ∈ t))).map (fun x => (1, x, 0))
/-- The list without the number that is to be put in. -/
def lessF (f : List Int) (X : List Int) (id : Int) : List Int := if id ∈ f then woF X id else X
/-- Where it is to be put. -/
def placeF (t X : List Int) (i : Nat) : Int := match t[i + 1]? with | some y => idxI X y | none => (X.length : Int)
def rndW (f t : List Int) (i : Nat) (s : List Int × List StepW) : List Int × List StepW :=
  match t[i]? with
  | none => s
  | some id => if id ∈ staysF f t then s else
    (insF (lessF f s.1 id) (placeF t (lessF f s.1 id) i).toNat id, s.2 ++ [((if id ∈ f then 3 else 2), id, placeF t (lessF f s.1 id) i)])
def runW (f t : List Int) : Nat → List Int × List StepW
  | 0 => (nowF f t, dropsF f t)
  | k + 1 => rndW f t (t.length - (k + 1)) (runW f t k)
/-- Behind the rounds from the last place down to i. -/
def stW (f t : List Int) (i : Nat) : List Int × List StepW := runW f t (t.length - i)
def stepsF (f t : List Int) : List StepW := (stW f t 0).2
theorem st_succ {f t : List Int} {i : Nat} (h : i < t.length) : stW f t i = rndW f t i (stW f t (i + 1)) := by
  unfold stW
  rw [show t.length - i = (t.length - (i + 1)) + 1 by omega]
  simp only [runW]
  rw [show t.length - (t.length - (i + 1) + 1) = i by omega]
theorem st_stays {f t : List Int} {i : Nat} {id : Int} (h : t[i]? = some id) (hs : id ∈ staysF f t) : stW f t i = stW f t (i + 1) := by
  rw [st_succ (List.getElem?_eq_some_iff.1 h).1]
  simp only [rndW, h, if_pos hs]
theorem st_put {f t : List Int} {i : Nat} {id : Int} (h : t[i]? = some id) (hs : id ∉ staysF f t) : stW f t i =
    (insF (lessF f (stW f t (i + 1)).1 id) (placeF t (lessF f (stW f t (i + 1)).1 id) i).toNat id, (stW f t (i + 1)).2 ++ [((if id ∈ f then 3 else 2), id, placeF t (lessF f (stW f t (i + 1)).1 id) i)]) := by
  rw [st_succ (List.getElem?_eq_some_iff.1 h).1]
  simp only [rndW, h, if_neg hs]
theorem st_end (f t : List Int) : stW f t t.length = (nowF f t, dropsF f t) := by
  unfold stW
  rw [Nat.sub_self]; rfl
theorem less_len (f X : List Int) (id : Int) : (lessF f X id).length ≤ X.length := by
  unfold lessF
  split
  · exact List.length_filter_le _ _
  · exact Nat.le_refl _
theorem ins_len (l : List Int) (i : Nat) (id : Int) : (insF l i id).length = l.length + 1 := by
  unfold insF
  simp only [List.length_append, List.length_cons, List.length_take, List.length_drop]
  omega
theorem run_len (f t : List Int) : ∀ k, (runW f t k).1.length ≤ f.length + k ∧ (runW f t k).2.length ≤ f.length + k
  | 0 => ⟨List.length_filter_le _ _, by simp only [runW, dropsF, List.length_map]; exact List.length_filter_le _ _⟩
  | k + 1 => by
    have ih := run_len f t k
    simp only [runW, rndW]
    split
    · omega
    · rename_i id _
      split
      · omega
      · have := less_len f (runW f t k).1 id
        rw [ins_len]
        simp only [List.length_append, List.length_cons, List.length_nil]
        omega
theorem st_len (f t : List Int) (i : Nat) : (stW f t i).1.length ≤ f.length + t.length ∧ (stW f t i).2.length ≤ f.length + t.length := by
  have := run_len f t (t.length - i)
  unfold stW
  omega
theorem mem_ins {l : List Int} {i : Nat} {id x : Int} : x ∈ insF l i id ↔ x = id ∨ x ∈ l := by
  unfold insF
  conv => rhs; rw [← List.take_append_drop i l]
  simp only [List.mem_append, List.mem_cons]
  constructor
  · rintro (h | h | h)
    · exact .inr (.inl h)
    · exact .inl h
    · exact .inr (.inr h)
  · rintro (h | h | h)
    · exact .inr (.inl h)
    · exact .inl h
    · exact .inr (.inr h)
theorem mem_less {f X : List Int} {id x : Int} (hx : x ∈ X) (hn : x ≠ id) : x ∈ lessF f X id := by
  unfold lessF
  split
  · unfold woF; rw [List.mem_filter]; exact ⟨hx, by simpa using hn⟩
  · exact hx
theorem less_sub {f X : List Int} {id x : Int} (hx : x ∈ lessF f X id) : x ∈ X := by
  unfold lessF at hx
  split at hx
  · unfold woF at hx; exact (List.mem_filter.1 hx).1
  · exact hx
theorem at_mem {l : List Int} {j : Nat} (h : j < l.length) : at_ l j ∈ l := by
  rw [← at_get h]; exact List.getElem_mem h
theorem stays_mem {f t : List Int} {x : Int} (h : x ∈ staysF f t) : x ∈ t ∧ x ∈ f := by
  unfold staysF staysN at h
  rw [List.take_length, List.mem_map] at h
  obtain ⟨p, hp, e⟩ := h
  have hb : p.toNat < (oldF f t).length := by have := lis_mem hp; omega
  have hl : (oldF f t).length = (idsF f t).length := by unfold oldF; rw [List.length_map]
  rw [hl] at hb
  have := at_mem hb
  rw [e] at this
  unfold idsF at this
  rw [List.mem_filter] at this
  exact ⟨this.1, by simpa using this.2⟩
theorem st_mem {f t : List Int} : ∀ k, k ≤ t.length → (∀ x ∈ (runW f t k).1, x ∈ t) ∧ (∀ x, x ∈ t → x ∈ f → x ∈ (runW f t k).1) ∧ (∀ x ∈ t.drop (t.length - k), x ∈ (runW f t k).1)
  | 0, _ => by
    simp only [runW, nowF]
    refine ⟨fun x hx => by simpa using (List.mem_filter.1 hx).2, fun x h1 h2 => List.mem_filter.2 ⟨h2, by simpa using h1⟩, fun x hx => ?_⟩
    simp at hx
  | k + 1, hk => by
    obtain ⟨h1, h2, h3⟩ := st_mem (f := f) (t := t) k (by omega)
    have hi : t[t.length - (k + 1)]? = some (t[t.length - (k + 1)]'(by omega)) := List.getElem?_eq_getElem (by omega)
    have hd : t.drop (t.length - (k + 1)) = t[t.length - (k + 1)]'(by omega) :: t.drop (t.length - k) := by
      rw [List.drop_eq_getElem_cons (by omega), show t.length - (k + 1) + 1 = t.length - k by omega]
    generalize t[t.length - (k + 1)]'(by omega) = id at hi hd
    have hid : id ∈ t := List.mem_of_getElem? hi
    rw [hd]
    simp only [runW, rndW, hi]
    by_cases hs : id ∈ staysF f t
    · rw [if_pos hs]
      refine ⟨h1, h2, fun x hx => ?_⟩
      rcases List.mem_cons.1 hx with rfl | hx
      · exact h2 _ hid (stays_mem hs).2
      · exact h3 x hx
    · rw [if_neg hs]
      have key : ∀ x, x ∈ (runW f t k).1 → x = id ∨ x ∈ lessF f (runW f t k).1 id := fun x hx => by
        by_cases e : x = id
        · exact .inl e
        · exact .inr (mem_less hx e)
      refine ⟨fun x hx => ?_, fun x a b => mem_ins.2 (key x (h2 x a b)), fun x hx => mem_ins.2 ?_⟩
      · rcases mem_ins.1 hx with rfl | hx
        · exact hid
        · exact h1 x (less_sub hx)
      · rcases List.mem_cons.1 hx with rfl | hx
        · exact .inl rfl
        · exact key x (h3 x hx)
/-- The number ahead of which one is put stands there. -/
theorem next_in {f t : List Int} (ht : t.Nodup) {i : Nat} {id y : Int} (h : t[i]? = some id) (hy : t[i + 1]? = some y) : y ∈ lessF f (stW f t (i + 1)).1 id := by
  have hi := (List.getElem?_eq_some_iff.1 hy).1
  have h3 := (st_mem (f := f) (t := t) (t.length - (i + 1)) (by omega)).2.2
  rw [show t.length - (t.length - (i + 1)) = i + 1 by omega] at h3
  refine mem_less (h3 y ?_) ?_
  · rw [List.drop_eq_getElem_cons hi, (List.getElem?_eq_some_iff.1 hy).2]
    exact List.mem_cons_self
  · intro e
    subst e
    obtain ⟨ha, hb⟩ := List.getElem?_eq_some_iff.1 h
    exact List.pairwise_iff_getElem.1 ht i (i + 1) ha hi (by omega) (by rw [hb, (List.getElem?_eq_some_iff.1 hy).2])
theorem idx_in {l : List Int} {y : Int} (h : y ∈ l) : idxI l y = (l.idxOf y : Nat) ∧ l.idxOf y < l.length := by
  unfold idxI
  rw [if_pos h]
  exact ⟨rfl, List.idxOf_lt_length_iff.2 h⟩
end Go.Proofs.Ytlcfdlcmeinhiaa
