/- From the form's reading of a slice to its elements. -/
import Derived.Test.YtakejjfmbgbedaaL14
namespace Go.Proofs.Ytakejjfmbgbedaa
open Go.RowKit

section
variable {α : Type} [Enc α]

theorem enc_at : ∀ (xs : List α) (j : Nat) (u : Value), (enc xs)[j]? = some u → ∃ i r x, j = i * (Enc.k α + 1) + r ∧ r < Enc.k α + 1 ∧ xs[i]? = some x ∧ (Enc.f x)[r]? = some u
  | [], j, u, h => by simp [enc] at h
  | x :: xs, j, u, h => by
    rw [enc_cons] at h
    by_cases hj : j < Enc.k α + 1
    · rw [List.getElem?_append_left (by rw [Enc.len]; exact hj)] at h
      exact ⟨0, j, x, by simp, hj, rfl, h⟩
    · rw [List.getElem?_append_right (by rw [Enc.len]; omega), Enc.len] at h
      obtain ⟨i, r, y, h1, h2, h3, h4⟩ := enc_at xs _ u h
      exact ⟨i + 1, r, y, by rw [Nat.add_mul]; omega, h2, h3, h4⟩

theorem choose_list {β : Type} {p : Nat → β → Prop} : ∀ n, (∀ i, i < n → ∃ x, p i x) → ∃ xs : List β, xs.length = n ∧ ∀ i x, xs[i]? = some x → p i x
  | 0, _ => ⟨[], rfl, fun i x h => by simp at h⟩
  | n + 1, h => by
    obtain ⟨xs, h1, h2⟩ := choose_list n (fun i hi => h i (by omega))
    obtain ⟨x, hx⟩ := h n (by omega)
    refine ⟨xs ++ [x], by simp [h1], fun i y hy => ?_⟩
    by_cases hi : i < xs.length
    · rw [List.getElem?_append_left hi] at hy; exact h2 i y hy
    · rw [List.getElem?_append_right (by omega)] at hy
      have : i - xs.length = 0 := by
        rcases Nat.eq_zero_or_pos (i - xs.length) with h | h
        · exact h
        · rw [List.getElem?_eq_none (by simp; omega)] at hy; cases hy
      rw [this] at hy
      simp at hy
      subst hy
      have : i = n := by omega
      subst this
      exact hx

theorem SlT.of_rdg (Q : α → Prop) {P : Program} {W : World} {D : Nat} {T e : TypeId} {cs : List Value} (h : Rdg P W (D + 1) T cs) (hT : elOf P T = some e) (hk : szOf P e = some (Enc.k α + 1))
    (hel : ∀ us, us.length = Enc.k α + 1 → Rdg P W D e us → ∃ x : α, Enc.f x = us ∧ Q x) : ∃ v, ∃ xs : List α, cs = [v] ∧ SlT xs v W ∧ ∀ x ∈ xs, Q x := by
  unfold Rdg at h
  rw [elOf_und hT] at h
  obtain ⟨v, hcs, h⟩ := h
  refine ⟨v, ?_⟩
  rcases h with rfl | ⟨a, len, cap, rfl, hlc, hcap, hget⟩
  · exact ⟨[], hcs, SlT.nil W, fun x hx => by cases hx⟩
  · rw [cellsOf_sz hk] at hget
    obtain ⟨xs, hxl, hxs⟩ := choose_list (β := α) (p := fun i x => (∀ j u, (Enc.f x)[j]? = some u → W.cell? ((a.add (i * (Enc.k α + 1))).add j) = some u) ∧ Q x) len (fun i hi => by
      obtain ⟨us, h1, h2, h3⟩ := hget i hi
      obtain ⟨x, hx, hq⟩ := hel us h1 h3
      exact ⟨x, by rw [hx]; exact h2, hq⟩)
    refine ⟨xs, hcs, ⟨by rw [enc_len], by rw [hxl]; omega, .inr ⟨a, cap, by rw [hxl], by rw [hxl]; exact hlc, hcap, fun j u hj => ?_⟩⟩, fun x hx => ?_⟩
    · obtain ⟨i, r, x, rfl, hr, hi, hu⟩ := enc_at xs j u hj
      have hc := (hxs i x hi).1 r u hu
      have hsp : a.spot = none := by
        have h0 : 0 < xs.length := by have := lt_of_get hi; omega
        have hx0 : xs[0]? = some xs[0] := List.getElem?_eq_getElem h0
        have hf : ∃ u0, (Enc.f xs[0])[0]? = some u0 := ⟨_, List.getElem?_eq_getElem (by rw [Enc.len]; omega)⟩
        obtain ⟨u0, hu0⟩ := hf
        have := (hxs 0 _ hx0).1 0 u0 hu0
        rw [Nat.zero_mul] at this
        simp only [Addr.add, if_true] at this
        exact World.cell?_spot this
      refine ⟨hsp, ?_⟩
      obtain ⟨b, o, sp⟩ := a
      simp only at hsp
      subst hsp
      rw [addr_add, addr_add] at hc
      rw [Nat.add_assoc] at hc
      exact hc
    · obtain ⟨i, hi⟩ := List.getElem?_of_mem hx
      exact (hxs i x hi).2
end

theorem rdg_int {P : Program} {W : World} {D : Nat} {T : TypeId} {us : List Value} {k : IntKind} (hT : P.underlying T = some (.int k)) (h : Rdg P W (D + 1) T us) : ∃ n, us = [.int k n] ∧ k.min ≤ n ∧ n ≤ k.max := by
  unfold Rdg at h; rw [hT] at h; exact h
theorem rdg_str {P : Program} {W : World} {D : Nat} {T : TypeId} {us : List Value} (hT : P.underlying T = some .string) (h : Rdg P W (D + 1) T us) : ∃ s : ByteArray, us = [.string s] ∧ s.size ≤ maxLen := by
  unfold Rdg at h; rw [hT] at h; exact h
theorem rdg_bool {P : Program} {W : World} {D : Nat} {T : TypeId} {us : List Value} (hT : P.underlying T = some .bool) (h : Rdg P W (D + 1) T us) : ∃ b, us = [.bool b] := by
  unfold Rdg at h; rw [hT] at h; exact h
/-- A field of a struct that is read. -/
theorem rdg_fld {P : Program} {W : World} {D : Nat} {T : TypeId} {us : List Value} {fs : Array Field} (hT : P.underlying T = some (.struct fs)) (h : Rdg P W (D + 1) T us) {i : Nat} {f : Field} (hf : fs[i]? = some f) {k : Nat} (hk : szOf P f.type = some k) :
    Rdg P W D f.type ((us.drop f.offset).take k) := by
  unfold Rdg at h; rw [hT] at h
  have := h.2 f (by have := Array.mem_of_getElem? hf; simpa using this)
  rw [cellsOf_sz hk] at this
  exact this
theorem rdg_len {P : Program} {W : World} {D : Nat} {T : TypeId} {us : List Value} {fs : Array Field} (hT : P.underlying T = some (.struct fs)) (h : Rdg P W (D + 1) T us) {k : Nat} (hk : szOf P T = some k) : us.length = k := by
  unfold Rdg at h; rw [hT] at h
  rw [← cellsOf_sz hk]; exact h.1
end Go.Proofs.Ytakejjfmbgbedaa
