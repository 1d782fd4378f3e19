/- Keys that can be put in a row: numbers, and texts as the model compares them. -/
import Derived.Test.YtakejjfmbgbedaaL14
namespace Go.Proofs.Ytakejjfmbgbedaa
variable {df : List Deferred}
open Go.RowKit

/-- Keys that can be put in a row. -/
class Lin (κ : Type) where
  dec : DecidableEq κ
  lt : κ → κ → Bool
  irr : ∀ a, lt a a = false
  tr : ∀ {a b c}, lt a b = true → lt b c = true → lt a c = true
  tri : ∀ {a b}, lt a b = false → lt b a = false → a = b

instance linDec {κ : Type} [Lin κ] : DecidableEq κ := Lin.dec
instance linInt : Lin Int := ⟨inferInstance, fun a b => decide (a < b), fun a => by simp, fun h k => by simp at *; omega, fun h k => by simp at *; omega⟩


theorem less_irr : ∀ a : List UInt8, Op.bytesLess a a = false
  | [] => rfl
  | x :: a => by simp [Op.bytesLess, less_irr a]
theorem less_tr : ∀ {a b c : List UInt8}, Op.bytesLess a b = true → Op.bytesLess b c = true → Op.bytesLess a c = true
  | _, [], _, h, _ => by cases h' : ‹List UInt8› <;> simp [Op.bytesLess] at h
  | _, _ :: _, [], _, h => by simp [Op.bytesLess] at h
  | [], _ :: _, _ :: _, _, _ => rfl
  | x :: a, y :: b, z :: c, h, k => by
    simp only [Op.bytesLess, Bool.or_eq_true, Bool.and_eq_true, decide_eq_true_eq, beq_iff_eq] at h k ⊢
    rcases h with h | ⟨rfl, h⟩
    · rcases k with k | ⟨rfl, _⟩
      · exact .inl (UInt8.lt_trans h k)
      · exact .inl h
    · rcases k with k | ⟨rfl, k⟩
      · exact .inl k
      · exact .inr ⟨rfl, less_tr h k⟩
theorem less_tri : ∀ {a b : List UInt8}, Op.bytesLess a b = false → Op.bytesLess b a = false → a = b
  | [], [], _, _ => rfl
  | [], _ :: _, h, _ => by simp [Op.bytesLess] at h
  | _ :: _, [], _, h => by simp [Op.bytesLess] at h
  | x :: a, y :: b, h, k => by
    simp only [Op.bytesLess, Bool.or_eq_false_iff, Bool.and_eq_false_iff, decide_eq_false_iff_not, beq_eq_false_iff_ne] at h k
    have e : x = y := UInt8.le_antisymm (UInt8.not_lt.1 k.1) (UInt8.not_lt.1 h.1)
    subst e
    rw [less_tri (a := a) (b := b) (by simpa using h.2) (by simpa using k.2)]
theorem toList_inj {s t : ByteArray} (h : s.toList = t.toList) : s = t := by
  have := toList_beq s t
  rw [h, beq_self_eq_true] at this
  exact of_decide_eq_true this.symm
instance linStr : Lin ByteArray := ⟨inferInstance, fun a b => Op.bytesLess a.toList b.toList, fun a => less_irr _, fun h k => less_tr h k, fun h k => toList_inj (less_tri h k)⟩

/-- How texts are compared. -/
def cmpS : BinOp → ByteArray → ByteArray → Option Bool
  | .lss, p, q => some (Lin.lt p q)
  | .gtr, p, q => some (Lin.lt q p)
  | .leq, p, q => some (!Lin.lt q p)
  | .geq, p, q => some (!Lin.lt p q)
  | _, _, _ => none

theorem less_eq (p q : ByteArray) : (Op.bytesLess p.toList q.toList || p.toList == q.toList) = !Lin.lt q p := by
  rw [toList_beq]
  change (Lin.lt p q || decide (p = q)) = _
  cases h : Lin.lt p q with
  | true =>
    have : Lin.lt q p = false := by
      cases h2 : Lin.lt q p with
      | false => rfl
      | true => have := Lin.tr h h2; rw [Lin.irr] at this; cases this
    rw [this]; rfl
  | false =>
    cases h2 : Lin.lt q p with
    | true =>
      have : p ≠ q := fun e => by subst e; rw [Lin.irr] at h2; cases h2
      simp [this]
    | false => simp [Lin.tri h h2]

section
variable {P : Program} {a : Act} {w : World} {n : Nat} {l : List (Nat × Value)}
  {dst : Option Nat} {R : Value → World → Prop} {ty : TypeId} {pos : String} {af : Array Edge} {g : Option (Nat × Bool)}
theorem g_cmpS {x y : Operand} {t t' : TypeId} {op : BinOp} {p q : ByteArray} {b : Bool} (hk : Kn df n a l) (h : R (.bool b) w)
    (hx : ev l x = some (.string p) := by rfl) (hy : ev l y = some (.string q) := by rfl) (ho : cmpS op p q = some b := by rfl) : Gives P ⟨dst, .binOp op t x y t', ty, pos, af, g⟩ a w R := by
  have e := less_eq p q
  refine givesv (v := .bool b) ?_ h
  cases op <;> simp only [cmpS, reduceCtorEq, Option.some.injEq] at ho <;> subst ho
  · simp [execOp, hk.eval hx, hk.eval hy, eqGuard, binOp_string_lss]; rfl
  · simp [execOp, hk.eval hx, hk.eval hy, eqGuard, binOp, Op.stringOp, e]
  · simp [execOp, hk.eval hx, hk.eval hy, eqGuard, binOp, Op.stringOp, e]
  · simp [execOp, hk.eval hx, hk.eval hy, eqGuard, binOp, Op.stringOp]; rfl
end
end Go.Proofs.Ytakejjfmbgbedaa
