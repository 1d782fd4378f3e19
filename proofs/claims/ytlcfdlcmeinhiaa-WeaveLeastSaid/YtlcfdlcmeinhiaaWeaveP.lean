/- Layer 12: places of numbers, each number once: in plain words. -/
import Derived.Test.YtlcfdlcmeinhiaaCut
namespace Go.Proofs.Ytlcfdlcmeinhiaa

/-- Where a number stands first, from 1 on; 0: nowhere. -/
def posI (l : List Int) (id : Int) : Nat := if id ∈ l then l.idxOf id + 1 else 0
/-- Where a number stands first; -1: nowhere. -/
def idxI (l : List Int) (id : Int) : Int := if id ∈ l then (l.idxOf id : Int) else -1
theorem idx_pos (l : List Int) (id : Int) : idxI l id = (posI l id : Int) - 1 := by
  unfold idxI posI
  split <;> simp
theorem pos_le (l : List Int) (id : Int) : posI l id ≤ l.length := by
  unfold posI
  split
  · have := List.idxOf_lt_length_iff.2 ‹id ∈ l›; omega
  · omega
theorem pos_zero {l : List Int} {id : Int} : posI l id = 0 ↔ id ∉ l := by
  unfold posI
  by_cases h : id ∈ l
  · simp [h]
  · simp [h]
theorem idx_neg {l : List Int} {id : Int} : idxI l id < 0 ↔ id ∉ l := by
  rw [idx_pos, ← pos_zero]; omega
theorem pos_snoc (l : List Int) (x id : Int) : posI (l ++ [x]) id = if id ∈ l then posI l id else if id = x then l.length + 1 else 0 := by
  unfold posI
  by_cases h : id ∈ l
  · rw [if_pos h, if_pos h, if_pos (by simp [h]), List.idxOf_append, if_pos h]
  · rw [if_neg h]
    by_cases e : id = x
    · subst e
      rw [if_pos rfl, if_pos (by simp), List.idxOf_append, if_neg h]
      simp
    · rw [if_neg e, if_neg (by simp [h, e])]

/-- Each number at its first place: of the first n. -/
def onceN (l : List Int) : Nat → List Int
  | 0 => []
  | n + 1 => onceN l n ++ (match l[n]? with | some id => if id ∈ l.take n then [] else [id] | none => [])
def onceI (l : List Int) : List Int := onceN l l.length
theorem once_succ {l : List Int} {n : Nat} {id : Int} (h : l[n]? = some id) : onceN l (n + 1) = onceN l n ++ (if id ∈ l.take n then [] else [id]) := by
  simp only [onceN, h]
theorem once_len (l : List Int) : ∀ n, (onceN l n).length ≤ n
  | 0 => by simp [onceN]
  | n + 1 => by
    have := once_len l n
    simp only [onceN, List.length_append]
    split
    · split <;> simp <;> omega
    · simp; omega
theorem take_snocW {l : List Int} {n : Nat} {id : Int} (h : l[n]? = some id) : l.take (n + 1) = l.take n ++ [id] := by
  rw [List.take_add_one, h]; rfl
theorem once_memN (l : List Int) : ∀ n, n ≤ l.length → ∀ x, x ∈ onceN l n ↔ x ∈ l.take n
  | 0, _, x => by simp [onceN]
  | n + 1, h, x => by
    have hk : l[n]? = some (l[n]'(by omega)) := List.getElem?_eq_getElem (by omega)
    rw [once_succ hk, take_snocW hk, List.mem_append, List.mem_append, once_memN l n (by omega) x]
    by_cases hin : l[n]'(by omega) ∈ l.take n
    · rw [if_pos hin]
      constructor
      · rintro (h | h)
        · exact .inl h
        · cases h
      · rintro (h | h)
        · exact .inl h
        · rw [List.mem_singleton] at h; rw [h]; exact .inl hin
    · rw [if_neg hin]
theorem once_mem (l : List Int) (x : Int) : x ∈ onceI l ↔ x ∈ l := by
  rw [onceI, once_memN l _ (Nat.le_refl _), List.take_length]
theorem once_nodupN (l : List Int) : ∀ n, n ≤ l.length → (onceN l n).Nodup
  | 0, _ => by simp [onceN]
  | n + 1, h => by
    have hk : l[n]? = some (l[n]'(by omega)) := List.getElem?_eq_getElem (by omega)
    rw [once_succ hk, List.nodup_append]
    refine ⟨once_nodupN l n (by omega), by split <;> simp, ?_⟩
    intro a ha b hb e
    subst e
    split at hb
    · cases hb
    · rename_i hin
      rw [List.mem_singleton] at hb
      rw [once_memN l n (by omega), hb] at ha
      exact hin ha
theorem once_nodup (l : List Int) : (onceI l).Nodup := once_nodupN l _ (Nat.le_refl _)
/-- A number of a first place: that the place is kept says it stands there first. -/
theorem pos_first {l : List Int} {n : Nat} {id : Int} (h : l[n]? = some id) : posI l id = n + 1 ↔ id ∉ l.take n := by
  obtain ⟨hn, hg⟩ := List.getElem?_eq_some_iff.1 h
  have hm : id ∈ l := List.mem_of_getElem? h
  have hs : l = l.take n ++ l.drop n := (List.take_append_drop n l).symm
  unfold posI
  rw [if_pos hm]
  by_cases hin : id ∈ l.take n
  · have h1 : l.idxOf id = (l.take n).idxOf id := by
      conv => lhs; rw [hs]
      rw [List.idxOf_append, if_pos hin]
    have h2 := List.idxOf_lt_length_iff.2 hin
    rw [List.length_take] at h2
    constructor
    · intro e; omega
    · intro e; exact absurd hin e
  · have hd : l.drop n = id :: l.drop (n + 1) := by rw [List.drop_eq_getElem_cons hn, hg]
    have h1 : l.idxOf id = n := by
      conv => lhs; rw [hs]
      rw [List.idxOf_append, if_neg hin, hd, List.idxOf_cons_self, List.length_take]
      omega
    constructor
    · intro _; exact hin
    · intro _; omega
end Go.Proofs.Ytlcfdlcmeinhiaa
