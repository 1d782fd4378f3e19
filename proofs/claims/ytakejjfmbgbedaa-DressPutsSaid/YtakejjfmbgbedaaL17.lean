/- What the library's own contracts write, in these texts' words. -/
import Derived.Test.YtakejjfmbgbedaaL16
import Derived.Laws.IdiomCopy
import Derived.Deep.Draws
namespace Go.Proofs.Ytakejjfmbgbedaa
variable {df : List Deferred}
open Go.RowKit

theorem enc_ints : ∀ xs : List Int, enc xs = xs.map (Value.int .i64)
  | [] => rfl
  | x :: xs => by rw [enc_cons, enc_ints xs]; rfl
theorem enc_strs : ∀ xs : List ByteArray, enc xs = xs.map Value.string
  | [] => rfl
  | x :: xs => by rw [enc_cons, enc_strs xs]; rfl

theorem St.setCells {w0 : Bs} {L L' : List HP} {b : Nat} {T : TypeId} : ∀ (us : List Value) (o : Nat) (vs : List Value) (w : World), St w0 L w → At (pts b vs T) L L' → St w0 (pts b (splice vs o us) T :: L') (w.setCells b o us)
  | [], o, vs, w, hS, hat => by
    simp only [splice, World.setCells]
    exact hS.sub (.cons hat .refl)
  | u :: us, o, vs, w, hS, hat => by
    simp only [splice, World.setCells]
    exact St.setCells us (o + 1) _ _ (hS.setCell hat u) At.here

theorem St.drewN {w0 : Bs} {w : World} {L : List HP} (h : St w0 L w) : ∀ n, St w0 L (w.drewN n)
  | 0 => h
  | n + 1 => (St.drewN h n).drew

section
variable {α : Type} [Enc α]
/-- The elements of a slice of one's own, all turned. -/
theorem St.ownSet {w0 : Bs} {w : World} {L L' : List HP} {E : TypeId} {b off n cap : Nat} {xs ys : List α} (hS : St w0 L w) (hat : At (OwT E xs (.slice (some ⟨b, off, none⟩) n cap)) L L') (hn : n = xs.length) (hl : ys.length = xs.length) :
    St w0 (OwT E ys (.slice (some ⟨b, off, none⟩) n cap) :: L') (w.setCells b off (enc ys)) := by
  subst hn
  obtain ⟨vs, hP, hvl, hn, hcm, hcl, hvs⟩ := hS.ownPts hat
  have hle : xs.length * (Enc.k α + 1) ≤ cap * (Enc.k α + 1) := Nat.mul_le_mul_right _ hn
  have hfit : off + (enc ys).length ≤ vs.length := by rw [enc_len, hl]; omega
  have h1 := St.setCells (enc ys) off vs w hP At.here
  refine h1.conv (As := [_]) At.here (fun F hF => ⟨F, fun _ h => h, Sep.one ⟨by rw [enc_len], by rw [hl]; exact Nat.le_trans hn hcm, .inr ⟨b, off, cap, _, by rw [hl], hF.1, hF.2.1, hF.2.2, by rw [hl]; exact hn, hcm, by rw [List.size_toArray, splice_len]; exact hvl, fun j u hj => ?_⟩, fun c hc => (pts _ _ E).dom F _ c hF hc⟩⟩)
  have hj' : j < (enc ys).length := by
    rcases Nat.lt_or_ge j (enc ys).length with h | h
    · exact h
    · rw [List.getElem?_eq_none h] at hj; cases hj
  rw [List.getElem?_toArray, splice_get _ _ _ _ hfit, if_pos (by omega), show off + j - off = j by omega]
  exact hj

/-- Where a slice of one's own lies. -/
theorem St.ownCells {w0 : Bs} {w : World} {L L' : List HP} {E : TypeId} {xs : List α} {v : Value} (hS : St w0 L w) (hat : At (OwT E xs v) L L') (h0 : xs ≠ []) :
    ∃ b off cap, v = .slice (some ⟨b, off, none⟩) xs.length cap ∧ (∀ j u, (enc xs)[j]? = some u → w.cell? ⟨b, off + j, none⟩ = some u) ∧ ∀ j, w.frozen? ⟨b, j, none⟩ = false := by
  obtain ⟨F, h1, h2, h3, h4⟩ := hS.rd hat
  rcases h3 with ⟨_, hx⟩ | ⟨b, off, cap, cur, rfl, hF, hF', hb, hn, hc, hs, hcell⟩
  · exact absurd (List.eq_nil_of_length_eq_zero hx) h0
  · refine ⟨b, off, cap, rfl, fun j u hj => ?_, fun j => frozen_of_row w b j _ E hb⟩
    rw [cell_of_row w b (off + j) _ E _ hb]
    exact hcell j u hj
end

section
variable {P : Program} {a : Act} {w : World} {w0 : Bs} {n : Nat} {l : List (Nat × Value)} {L L' : List HP}
  {dst : Option Nat} {R : Value → World → Prop} {ty : TypeId} {pos : String} {af : Array Edge} {g : Option (Nat × Bool)}
/-! ## Stores into elements of one's own -/
theorem g_stI {x y : Operand} {T E : TypeId} {v : Value} {i : Nat} {xs : List Int} {z : Int} (hk : Kn df n a l) (hS : St w0 L w) (h : ∀ w', St w0 (OwT E (xs.set i z) v :: L') w' → R undef w')
    (hx : ev l x = some (.pointer (some ⟨blk v, offs v + i * (Enc.k Int + 1), none⟩)) := by rfl) (hy : ev l y = some (.int .i64 z) := by rfl) (hat : At (OwT E xs v) L L' := by (repeat (first | exact At.here | apply At.there)))
    (hsz : szOf P T = some 1) (hi : i < xs.length) : Gives P ⟨dst, .store T x y, ty, pos, af, g⟩ a w R :=
  g_stT hk hS h hx hy hat rfl hsz hi
theorem g_stB {x y : Operand} {T E : TypeId} {v : Value} {i : Nat} {xs : List Bool} {z : Bool} (hk : Kn df n a l) (hS : St w0 L w) (h : ∀ w', St w0 (OwT E (xs.set i z) v :: L') w' → R undef w')
    (hx : ev l x = some (.pointer (some ⟨blk v, offs v + i * (Enc.k Bool + 1), none⟩)) := by rfl) (hy : ev l y = some (.bool z) := by rfl) (hat : At (OwT E xs v) L L' := by (repeat (first | exact At.here | apply At.there)))
    (hsz : szOf P T = some 1) (hi : i < xs.length) : Gives P ⟨dst, .store T x y, ty, pos, af, g⟩ a w R :=
  g_stT hk hS h hx hy hat rfl hsz hi
theorem g_stS {x y : Operand} {T E : TypeId} {v : Value} {i : Nat} {xs : List ByteArray} {z : ByteArray} (hk : Kn df n a l) (hS : St w0 L w) (h : ∀ w', St w0 (OwT E (xs.set i z) v :: L') w' → R undef w')
    (hx : ev l x = some (.pointer (some ⟨blk v, offs v + i * (Enc.k ByteArray + 1), none⟩)) := by rfl) (hy : ev l y = some (.string z) := by rfl) (hat : At (OwT E xs v) L L' := by (repeat (first | exact At.here | apply At.there)))
    (hsz : szOf P T = some 1) (hi : i < xs.length) : Gives P ⟨dst, .store T x y, ty, pos, af, g⟩ a w R :=
  g_stT hk hS h hx hy hat rfl hsz hi
end
end Go.Proofs.Ytakejjfmbgbedaa
