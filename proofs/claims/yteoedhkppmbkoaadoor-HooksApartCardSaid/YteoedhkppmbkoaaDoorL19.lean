/- Maps whose keys are structs of plain parts. -/
import Derived.Test.YteoedhkppmbkoaaDoorL12
import Derived.Test.YteoedhkppmbkoaaDoorL8
namespace Go.Proofs.YteoedhkppmbkoaaDoor
open Go.RowKit

section
variable {κ : Type} [DecidableEq κ] {P : Program}

theorem findAsking_pos {K : TypeId} {enc : κ → Value} {w : World} (he : ∀ j k, (Op.equal K (enc j) (enc k)).run P w = .ok (decide (j = k)) w) (k : κ) : ∀ (es : List MapEntry) (l : List (κ × Value)) (i : Nat),
    es.map (fun e => (e.key, e.val)) = l.map (fun p => (enc p.1, p.2)) → (Instr.findAsking K (enc k) es i).run P w = .ok (posK k l i) w
  | [], [], _, _ => rfl
  | [], _ :: _, _, h => by simp at h
  | _ :: _, [], _, h => by simp at h
  | e :: es, (k', v) :: l, i, h => by
    simp only [List.map_cons, List.cons.injEq, Prod.mk.injEq] at h
    obtain ⟨⟨h1, h2⟩, h3⟩ := h
    simp only [Instr.findAsking, Sem.run_bind, posK, h1, he k k', Result.andThen_ok]
    by_cases hk : k = k'
    · simp [hk, h2]
    · simp only [hk, decide_false, if_false]
      exact findAsking_pos he k es l (i + 1) h3

theorem keyAgg {K : TypeId} {fs : Array Field} {enc : κ → List Value} {ks : List SK} (hu : P.underlying K = some (.struct fs)) (hf : flatT P 6 K = some ks) (hs : ∀ k, shp ks (enc k) = true)
    (hi : ∀ j k, eqC (enc j) (enc k) = decide (j = k)) (hc : ∀ b k (w : World), (Instr.checkKey b 10000 K (.agg (enc k).toArray)).run P w = .ok () w)
    (hb : ∀ k, Instr.sameBits 10000 (.agg (enc k).toArray) (.agg (enc k).toArray) = true) : KeyT P K (fun k => .agg (enc k).toArray) where
  check := hc
  find := fun k es l w he => by
    have hag : aggOf P K = some true := by simp [aggOf, hu]
    have h1 := findAsking_pos (P := P) (K := K) (w := w) (enc := fun k => .agg (enc k).toArray) (fun j k => by
      have := run_equalF 6 K ks (enc j) (enc k) (.agg (enc j).toArray) (.agg (enc k).toArray) w hf (hs j) (hs k) (by simp [partV, hag]) (by simp [partV, hag]) 9994
      rw [hi] at this
      exact this) k es l 0 he
    cases es with
    | nil =>
      cases l with
      | nil => simp [Instr.findKey, run_underlying hu, Instr.findNow, posK]
      | cons p l => simp at he
    | cons e es =>
      simp only [Instr.findKey, Sem.run_bind, run_underlying hu, Result.andThen_ok, Instr.findNow, Instr.sameNow]
      exact h1
  bits := hb

/-- Keys of a number and a text. -/
theorem keyIS {K : TypeId} {f0 f1 : Field} {kk : IntKind} (hu : P.underlying K = some (.struct #[f0, f1])) (h0 : P.underlying f0.type = some (.int kk)) (h1 : P.underlying f1.type = some .string)
    (ho0 : f0.offset = 0) (ho1 : f1.offset = 1) (hf : flatT P 6 K = some [.int kk, .str]) : KeyT P K (fun k : Int × ByteArray => .agg #[.int kk k.1, .string k.2]) := by
  refine keyAgg (enc := fun k : Int × ByteArray => [.int kk k.1, .string k.2]) hu hf (fun k => by simp [shp]) (fun j k => ?_) (fun b k w => ?_) (fun k => ?_)
  · obtain ⟨j1, j2⟩ := j
    obtain ⟨k1, k2⟩ := k
    simp only [eqC, Bool.and_true, Prod.mk.injEq]
    rw [Bool.eq_iff_iff]
    simp [beq_toListBytes, ByteArray.toList_eq]
    intro _
    exact ⟨fun h => ByteArray.ext h, fun h => by rw [h]⟩
  · have a0 : aggOf P f0.type = some false := by simp [aggOf, h0]
    have a1 : aggOf P f1.type = some false := by simp [aggOf, h1]
    have p0 : (part f0.type #[.int kk k.1, .string k.2] f0.offset).run P w = .ok (.int kk k.1) w := by simp [part, aggOf_run a0, ho0]
    have p1 : (part f1.type #[.int kk k.1, .string k.2] f1.offset).run P w = .ok (.string k.2) w := by simp [part, aggOf_run a1, ho1]
    have c0 := checkKey_int h0 b 9998 (.int kk k.1) w
    have c1 := checkKey_str h1 b 9998 (.string k.2) w
    show (Instr.checkKey b (9999 + 1) K (.agg #[.int kk k.1, .string k.2])).run P w = .ok () w
    unfold Instr.checkKey
    simp [run_underlying hu, p0, p1, c0, c1]
  · simp [Instr.sameBits, beq_toListBytes]

end
end Go.Proofs.YteoedhkppmbkoaaDoor
