/- From the form's reading of plain arguments to what they are. -/
import Derived.Test.YtakejjfmbgbedaaL18
import Derived.Test.YtakejjfmbgbedaaL15
namespace Go.Proofs.Ytakejjfmbgbedaa
open Go.RowKit

theorem shp_fold {P : Program} {d : Nat} {cs : List Value} : ∀ (fs : List Field) (off : Nat) (ks : List SK) (off' : Nat) (ks' : List SK), fs.foldl (stepF P (flatT P d)) (some (off, ks)) = some (off', ks') → off = ks.length →
    (∀ f ∈ fs, ∀ k1, flatT P d f.type = some k1 → szOf P f.type = some k1.length → shp k1 ((cs.drop f.offset).take k1.length) = true) → shp ks (cs.take off) = true → shp ks' (cs.take off') = true ∧ off' = ks'.length
  | [], off, ks, off', ks', h, ho, _, h1 => by
    simp at h
    obtain ⟨rfl, rfl⟩ := h
    exact ⟨h1, ho⟩
  | f :: fs, off, ks, off', ks', h, ho, hf, h1 => by
    simp only [List.foldl_cons] at h
    cases hs : stepF P (flatT P d) (some (off, ks)) f with
    | none => rw [hs, stepF_none] at h; cases h
    | some p =>
      obtain ⟨o2, k2⟩ := p
      rw [hs] at h
      unfold stepF at hs
      cases hfl : flatT P d f.type with
      | none => rw [hfl] at hs; simp at hs
      | some k1 =>
        rw [hfl] at hs
        simp only at hs
        cases hz : szOf P f.type with
        | none => rw [hz] at hs; simp at hs
        | some s =>
          rw [hz] at hs
          simp only at hs
          rw [Bool.cond_eq_ite] at hs
          split at hs
          · rename_i hc
            simp only [Option.some.injEq, Prod.mk.injEq] at hs
            obtain ⟨e1, e2⟩ := hs
            simp only [Bool.and_eq_true] at hc
            obtain ⟨⟨⟨⟨_, c2⟩, c3⟩, _⟩, _⟩ := hc
            have hoff : f.offset = off := Nat.eq_of_beq_eq_true c2
            have hsz : szOf P f.type = some k1.length := by rw [hz, Nat.eq_of_beq_eq_true c3]
            subst e1 e2
            refine shp_fold fs (off + k1.length) (ks ++ k1) off' ks' h (by rw [List.length_append, ho]) (fun g hg => hf g (by simp [hg])) ?_
            have h2 := hf f (by simp) k1 hfl hsz
            rw [hoff] at h2
            rw [List.take_add]
            exact shp_join h1 h2
          · cases hs

theorem shp_rdg {P : Program} {W : World} : ∀ (d D : Nat) (T : TypeId) (ks : List SK) (us : List Value), flatT P d T = some ks → szOf P T = some ks.length → d ≤ D → Rdg P W D T us → shp ks us = true
  | 0, _, _, _, _, h, _, _, _ => by simp [flatT] at h
  | d + 1, 0, _, _, _, _, _, h, _ => by omega
  | d + 1, D + 1, T, ks, us, h, hz, hd, hr => by
    unfold flatT at h
    unfold Rdg at hr
    cases hu : P.underlying T with
    | none => rw [hu] at h; cases h
    | some dsc =>
      rw [hu] at h hr
      cases dsc <;> simp only [reduceCtorEq] at h
      case bool =>
        obtain ⟨b, rfl⟩ := hr
        injection h with h; subst h; rfl
      case int k =>
        obtain ⟨n, rfl, _⟩ := hr
        injection h with h; subst h; simp [shp]
      case string =>
        obtain ⟨s, rfl, _⟩ := hr
        injection h with h; subst h; rfl
      case struct fs =>
        cases hst : P.stoodInHeld T with
        | true => rw [hst] at h; simp at h
        | false =>
          rw [hst] at h
          simp only [cond_false, Option.map_eq_some_iff] at h
          obtain ⟨⟨off', ks'⟩, h1, rfl⟩ := h
          obtain ⟨h2, h3⟩ := shp_fold (cs := us) fs.toList 0 [] off' ks' h1 rfl (fun f hf k1 hk hs => by
            have := hr.2 f hf
            rw [cellsOf_sz hs] at this
            exact shp_rdg d D f.type k1 _ hk hs (by omega) this) (by simp [shp])
          have hl := hr.1
          rw [cellsOf_sz hz] at hl
          rw [List.take_of_length_le (by simp only at hl; omega)] at h2
          exact h2

section
variable {α : Type} [Enc α] [EncI α] {P : Program} {W : World}
theorem SlT.of_rdgF {D : Nat} {T e : TypeId} {cs : List Value} (h : Rdg P W (D + 1) T cs) (hT : elOf P T = some e) (hz : szOf P e = some (Enc.k α + 1)) (hf : flatT P 6 e = some (EncI.ks α)) (hD : 6 ≤ D) :
    ∃ v, ∃ xs : List α, cs = [v] ∧ SlT xs v W := by
  obtain ⟨v, xs, h1, h2, _⟩ := SlT.of_rdg (α := α) (fun _ => True) h hT hz (fun us hl hr => by
    have := shp_rdg 6 D e (EncI.ks α) us hf (by rw [hz, EncI.kl]) hD hr
    obtain ⟨x, hx⟩ := EncI.sur us this
    exact ⟨x, hx, trivial⟩)
  exact ⟨v, xs, h1, h2⟩
/-- A field that is a plain slice, a number, a text, a truth. -/
theorem Arg.sl {T e : TypeId} {v : Value} (h : Arg P W T v) (hT : elOf P T = some e) (ha : aggOf P T = some false) (hz : szOf P e = some (Enc.k α + 1)) (hf : flatT P 6 e = some (EncI.ks α)) : ∃ xs : List α, SlT xs v W := by
  obtain ⟨u, xs, h1, h2⟩ := SlT.of_rdgF h.1 hT hz hf (by decide)
  rw [h.2.2 ha] at h1
  simp at h1
  subst h1
  exact ⟨xs, h2⟩
theorem Arg.st {T : TypeId} {v : Value} (h : Arg P W T v) (ha : aggOf P T = some true) (hz : szOf P T = some (Enc.k α + 1)) (hf : flatT P 6 T = some (EncI.ks α)) : ∃ x : α, v = .agg (Enc.f x).toArray := by
  obtain ⟨cs, rfl⟩ := h.2.1 ha
  have := shp_rdg 6 8 T (EncI.ks α) _ hf (by rw [hz, EncI.kl]) (by decide) h.1
  obtain ⟨x, hx⟩ := EncI.sur _ this
  exact ⟨x, by rw [hx]; simp [Value.cells]⟩
end
theorem flT1 {P : Program} {T : TypeId} {k : IntKind} (h : P.underlying T = some (.int k)) : flatT P 6 T = some [.int k] := by simp [flatT, h]
theorem flTs {P : Program} {T : TypeId} (h : P.underlying T = some .string) : flatT P 6 T = some [.str] := by simp [flatT, h]
theorem Arg.int {P : Program} {W : World} {T : TypeId} {v : Value} (h : Arg P W T v) (hT : P.underlying T = some (.int .i64)) (ha : aggOf P T = some false) : ∃ n, v = .int .i64 n ∧ -9223372036854775808 ≤ n ∧ n ≤ 9223372036854775807 := by
  obtain ⟨n, h1, h2⟩ := rdg_int (D := 7) hT h.1
  rw [h.2.2 ha] at h1
  simp at h1
  exact ⟨n, h1, h2⟩
theorem Arg.str {P : Program} {W : World} {T : TypeId} {v : Value} (h : Arg P W T v) (hT : P.underlying T = some .string) (ha : aggOf P T = some false) : ∃ s, v = .string s ∧ s.size ≤ maxLen := by
  obtain ⟨n, h1, h2⟩ := rdg_str (D := 7) hT h.1
  rw [h.2.2 ha] at h1
  simp at h1
  exact ⟨n, h1, h2⟩
theorem Arg.bool {P : Program} {W : World} {T : TypeId} {v : Value} (h : Arg P W T v) (hT : P.underlying T = some .bool) (ha : aggOf P T = some false) : ∃ b, v = .bool b := by
  obtain ⟨n, h1⟩ := rdg_bool (D := 7) hT h.1
  rw [h.2.2 ha] at h1
  simp at h1
  exact ⟨n, h1⟩
end Go.Proofs.Ytakejjfmbgbedaa
