/- Layer 25: each kid stays, comes back, leaves, or is a ghost: the plain law. -/
import Derived.Test.YtlcfdlcmeinhiaaGroup5
namespace Go.Proofs.Ytlcfdlcmeinhiaa

theorem bstN_at : ∀ {l : List Kid} {i : Nat} {k : ByteArray} {j : Nat} {g : Bool}, bstN l i k = some (j, g) → l[j]? = some (k, g)
  | l, 0, k, j, g, h => by simp [bstN] at h
  | l, i + 1, k, j, g, h => by
    unfold bstN at h
    split at h
    · exact bstN_at h
    · rename_i key gh hx
      split at h
      · rename_i hc
        simp at h
        obtain ⟨h1, h2⟩ := h
        subst h1; subst h2
        rw [hx, hc.1]
      · exact bstN_at h

theorem atF_at {O : List Kid} {K : List ByteArray} {i j : Nat} (h : atF O K i = (j : Int)) : ∃ key gh, K[i]? = some key ∧ O[j]? = some (key, gh) ∧ key ∉ K.take i := by
  unfold atF at h
  split at h
  · omega
  · rename_i key hx
    split at h
    · omega
    · rename_i hin
      split at h
      · omega
      · rename_i j' g hb
        have : j' = j := by omega
        subst this
        exact ⟨key, g, hx, bstN_at hb, fun e => hin (inK_iff.2 e)⟩

theorem take_range {O : List Kid} {K : List ByteArray} {n : Nat} {x : Int} (h : x ∈ takeN O K n) : -1 ≤ x ∧ x < O.length := by
  unfold takeN at h
  obtain ⟨i, _, rfl⟩ := List.mem_map.1 h
  exact atF_range O K i

theorem take_fresh {O : List Kid} {K : List ByteArray} {n j : Nat} (h : atF O K n = (j : Int)) : (j : Int) ∉ takeN O K n := by
  intro hm
  unfold takeN at hm
  obtain ⟨i, hi, he⟩ := List.mem_map.1 hm
  rw [List.mem_range] at hi
  obtain ⟨k1, g1, a1, a2, _⟩ := atF_at he
  obtain ⟨k2, g2, b1, b2, b3⟩ := atF_at h
  rw [a2] at b2
  have : k1 = k2 := by injection b2 with e; injection e
  subst this
  exact b3 (List.mem_of_getElem? (by rw [List.getElem?_take, if_pos hi]; exact a1))

theorem take_count (O : List Kid) (K : List ByteArray) (j : Nat) : ∀ n, (takeN O K n).count (j : Int) = if (j : Int) ∈ takeN O K n then 1 else 0
  | 0 => by simp [takeN]
  | n + 1 => by
    rw [takeN_succ, List.count_append, take_count O K j n]
    by_cases h : atF O K n = (j : Int)
    · rw [if_neg (take_fresh h), if_pos (by simp [h])]
      simp [h]
    · have h' : ¬ (j : Int) = atF O K n := fun e => h e.symm
      rw [List.count_singleton]
      simp [h, h']

theorem ghosts_count (O : List Kid) (K : List ByteArray) (j : Nat) : ∀ n, (ghostsN O K n).count (j : Int) = if j < n ∧ (j : Int) ∉ takeN O K K.length then 1 else 0
  | 0 => by simp [ghostsN]
  | n + 1 => by
    rw [ghosts_succ]
    by_cases hn : (n : Int) ∈ takeN O K K.length
    · rw [if_pos hn, ghosts_count O K j n]
      by_cases e : j = n
      · subst e; simp [hn]
      · by_cases h1 : j < n
        · simp [h1, show j < n + 1 by omega]
        · simp [h1, show ¬ j < n + 1 by omega]
    · rw [if_neg hn, List.count_append, ghosts_count O K j n, List.count_singleton]
      by_cases e : j = n
      · subst e; simp [hn]
      · have e' : ¬ (n : Int) = (j : Int) := by omega
        by_cases h1 : j < n
        · simp [h1, show j < n + 1 by omega, e']
        · simp [h1, show ¬ j < n + 1 by omega, e']

theorem ghosts_range {O : List Kid} {K : List ByteArray} {n : Nat} {x : Int} (h : x ∈ ghostsN O K n) : 0 ≤ x ∧ x < n := by
  unfold ghostsN at h
  obtain ⟨i, hi, rfl⟩ := List.mem_map.1 h
  have := (List.mem_filter.1 hi).1
  rw [List.mem_range] at this
  omega

/-- Each one is counted once. -/
theorem once_count (O : List Kid) (K : List ByteArray) {j : Nat} (h : j < O.length) : (takeN O K K.length).count (j : Int) + (ghostsN O K O.length).count (j : Int) = 1 := by
  rw [take_count, ghosts_count]
  by_cases hj : (j : Int) ∈ takeN O K K.length <;> simp [hj, h]

theorem leave_range {O : List Kid} {K : List ByteArray} {n : Nat} {x : Int} (h : x ∈ leaveN O K n) : 0 ≤ x ∧ ∃ key, O[x.toNat]? = some (key, false) := by
  unfold leaveN at h
  obtain ⟨i, hi, rfl⟩ := List.mem_map.1 h
  have := (List.mem_filter.1 hi).2
  refine ⟨by omega, ?_⟩
  rw [Int.toNat_natCast]
  cases hx : O[i]? with
  | none => rw [hx] at this; simp at this
  | some p =>
    obtain ⟨key, gh⟩ := p
    rw [hx] at this
    simp at this
    exact ⟨key, by rw [this.1]⟩

theorem where_sum (O : List Kid) (l : List Int) (hl : ∀ x ∈ l, -1 ≤ x ∧ x < O.length) : ∀ n, n ≤ l.length → (whereN (fun x => decide (x = -1)) l n).length + (whereN (fun x => ofF O x true) l n).length + (whereN (fun x => ofF O x false) l n).length = n
  | 0, _ => by simp [whereN]
  | n + 1, h => by
    have ih := where_sum O l hl n (by omega)
    have hr := hl l[n] (List.getElem_mem (by omega))
    rw [where_succ (by omega), where_succ (by omega), where_succ (by omega)]
    by_cases h0 : l[n] = -1
    · have e1 : ofF O l[n] true = false := by unfold ofF; rw [if_neg (by omega)]
      have e2 : ofF O l[n] false = false := by unfold ofF; rw [if_neg (by omega)]
      rw [e1, e2]
      simp only [h0, decide_true, if_true, Bool.false_eq_true, if_false, List.length_append, List.length_singleton]
      omega
    · have h1 : 0 ≤ l[n] := by omega
      have hlt : (l[n]).toNat < O.length := by omega
      obtain ⟨⟨key, gh⟩, hx⟩ : ∃ x, O[(l[n]).toNat]? = some x := ⟨_, List.getElem?_eq_getElem hlt⟩
      have e1 : ofF O l[n] true = gh := by simp [ofF, h1, hx]
      have e2 : ofF O l[n] false = !gh := by simp [ofF, h1, hx]
      rw [e1, e2]
      simp only [h0, decide_false, Bool.false_eq_true, if_false]
      cases gh <;> simp <;> omega
end Go.Proofs.Ytlcfdlcmeinhiaa
