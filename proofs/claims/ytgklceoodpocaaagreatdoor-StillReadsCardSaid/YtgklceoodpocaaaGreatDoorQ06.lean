/- Steps that part the cases themselves; elements by their places; one round of a loop. What the library's own contracts write, in these texts' words. What the types of this translation say: tables, each checked by the kernel. Printed by a program of the prover's (gen_ty.py). The cells of this translation's plain types, kind by kind: a table that the kernel checks. Printed by a program of the prover's (gen_ty2.py). -/
import Derived.Test.YtgklceoodpocaaaGreatDoorQ05
import Derived.Tactics
import Derived.Laws.IdiomCopy
import Derived.Deep.Draws
import Derived.Test.YtgklceoodpocaaaGreatDoorQ00
import Derived.Test.YtgklceoodpocaaaGreatDoorRows
import Derived.Test.YtgklceoodpocaaaGreatDoorQ03
set_option linter.all false
namespace Go.Proofs.YtgklceoodpocaaaGreatDoor
variable {df : List Deferred}
variable {rr : Option Nat}
open Go.RowKit
section
variable {P : Program} {Q : Exit → Act → World → Prop} {a : Act} {w w' : World} {w0 : Bs} {n : Nat} {l : List (Nat × Value)} {L L' : List HP}
 {dst : Option Nat} {R : Value → World → Prop} {ty : TypeId} {pos : String} {af : Array Edge} {g : Option (Nat × Bool)}
theorem sp_lss {x y : Operand} {t t' : TypeId} {k : IntKind} {p q : Int} (hk : Kn df n a l) (ht : p < q → R (.bool true) w) (hf : ¬ p < q → R (.bool false) w)
  (hx : ev l x = some (.int k p) := by rfl) (hy : ev l y = some (.int k q) := by rfl) : Gives P ⟨dst, .binOp .lss t x y t', ty, pos, af, g⟩ a w R := by
 by_cases h : p < q
 ·exact g_lss hk (by rw [decide_eq_true h];exact ht h) hx hy
 ·exact g_lss hk (by rw [decide_eq_false h];exact hf h) hx hy
theorem sp_leq {x y : Operand} {t t' : TypeId} {k : IntKind} {p q : Int} (hk : Kn df n a l) (ht : p ≤ q → R (.bool true) w) (hf : ¬ p ≤ q → R (.bool false) w)
  (hx : ev l x = some (.int k p) := by rfl) (hy : ev l y = some (.int k q) := by rfl) : Gives P ⟨dst, .binOp .leq t x y t', ty, pos, af, g⟩ a w R := by
 by_cases h : p ≤ q
 ·exact g_leq hk (by rw [decide_eq_true h];exact ht h) hx hy
 ·exact g_leq hk (by rw [decide_eq_false h];exact hf h) hx hy
theorem sp_geq {x y : Operand} {t t' : TypeId} {k : IntKind} {p q : Int} (hk : Kn df n a l) (ht : q ≤ p → R (.bool true) w) (hf : ¬ q ≤ p → R (.bool false) w)
  (hx : ev l x = some (.int k p) := by rfl) (hy : ev l y = some (.int k q) := by rfl) : Gives P ⟨dst, .binOp .geq t x y t', ty, pos, af, g⟩ a w R := by
 by_cases h : q ≤ p
 ·exact g_geq hk (by rw [decide_eq_true h];exact ht h) hx hy
 ·exact g_geq hk (by rw [decide_eq_false h];exact hf h) hx hy
theorem sp_eqi {x y : Operand} {t t' : TypeId} {k : IntKind} {p q : Int} (hk : Kn df n a l) (ht : p = q → R (.bool true) w) (hf : ¬ p = q → R (.bool false) w)
  (hx : ev l x = some (.int k p) := by rfl) (hy : ev l y = some (.int k q) := by rfl) : Gives P ⟨dst, .binOp .eql t x y t', ty, pos, af, g⟩ a w R := by
 by_cases h : p = q
 ·exact g_eqi hk (by rw [decide_eq_true h];exact ht h) hx hy
 ·exact g_eqi hk (by rw [decide_eq_false h];exact hf h) hx hy
theorem sp_nei {x y : Operand} {t t' : TypeId} {k : IntKind} {p q : Int} (hk : Kn df n a l) (ht : p = q → R (.bool false) w) (hf : ¬ p = q → R (.bool true) w)
  (hx : ev l x = some (.int k p) := by rfl) (hy : ev l y = some (.int k q) := by rfl) : Gives P ⟨dst, .binOp .neq t x y t', ty, pos, af, g⟩ a w R := by
 by_cases h : p = q
 ·exact g_nei hk (by rw [decide_eq_true h];exact ht h) hx hy
 ·exact g_nei hk (by rw [decide_eq_false h];exact hf h) hx hy
theorem sp_eqS {x y : Operand} {t t' : TypeId} {s r : ByteArray} (hk : Kn df n a l) (ht : s = r → R (.bool true) w) (hf : ¬ s = r → R (.bool false) w)
  (hx : ev l x = some (.string s) := by rfl) (hy : ev l y = some (.string r) := by rfl) : Gives P ⟨dst, .binOp .eql t x y t', ty, pos, af, g⟩ a w R := by
 by_cases h : s = r
 ·exact g_eqS hk (by rw [decide_eq_true h];exact ht h) hx hy
 ·exact g_eqS hk (by rw [decide_eq_false h];exact hf h) hx hy
theorem sp_neS {x y : Operand} {t t' : TypeId} {s r : ByteArray} (hk : Kn df n a l) (ht : s = r → R (.bool false) w) (hf : ¬ s = r → R (.bool true) w)
  (hx : ev l x = some (.string s) := by rfl) (hy : ev l y = some (.string r) := by rfl) : Gives P ⟨dst, .binOp .neq t x y t', ty, pos, af, g⟩ a w R := by
 by_cases h : s = r
 ·exact g_neS hk (by rw [decide_eq_true h];exact ht h) hx hy
 ·exact g_neS hk (by rw [decide_eq_false h];exact hf h) hx hy
theorem sp_nes {x y : Operand} {t t' : TypeId} {ks : List SK} {us vs : List Value} (hk : Kn df n a l) (ht : eqC us vs = true → R (.bool false) w) (hf : eqC us vs = false → R (.bool true) w)
  (hT : flatT P 6 t = some ks) (ha : aggOf P t = some true) (hg : P.eqGuardType P.depth t = false)
  (hx : ev l x = some (.agg us.toArray) := by rfl) (hy : ev l y = some (.agg vs.toArray) := by rfl) (h1 : shp ks us = true := by rfl) (h2 : shp ks vs = true := by rfl) : Gives P ⟨dst, .binOp .neq t x y t', ty, pos, af, g⟩ a w R := by
 cases h : eqC us vs with
 | true => exact g_nes hk (by rw [h];exact ht h) hT ha hg hx hy h1 h2
 | false => exact g_nes hk (by rw [h];exact hf h) hT ha hg hx hy h1 h2
variable {os : List Oper} {i : Nat} {o : Oper} {r : List Oper} {acc : List (Nat × Nat × HV)} {HR : List (Nat × ((Nat → Value) → Value → HP))} {FinE : List (Nat × Nat × HV) → List (Nat × ((Nat → Value) → Value → HP)) → List HP → Prop} {TK : List HP}
variable {α : Type} [Enc α]
theorem g_la1 {x : Operand} {T : TypeId} {v : Value} {i : Nat} {xs : List α} {u : Value} (hk : Kn df n a l) (h : R u w) (hT : aggOf P T = some false)
  (hx : ev l x = some (.pointer (some ⟨blk v, offs v + i * (Enc.k α + 1), none⟩)) := by rfl) (hs : SlT xs v w) (hi : i < xs.length) (hu : Enc.f xs[i] = [u] := by rfl) :
  Gives P ⟨dst, .load T x, ty, pos, af, g⟩ a w R := g_ldT1 hk h hT hx hs (List.getElem?_eq_getElem hi) hu
theorem g_laN {x : Operand} {T : TypeId} {v : Value} {i : Nat} {xs : List α} {us : List Value} (hk : Kn df n a l) (h : R (.agg us.toArray) w) (hT : aggOf P T = some true)
  (hx : ev l x = some (.pointer (some ⟨blk v, offs v + i * (Enc.k α + 1), none⟩)) := by rfl) (hs : SlT xs v w) (hi : i < xs.length) (hu : Enc.f xs[i] = us) (hz : szOf P T = some (Enc.k α + 1)) :
  Gives P ⟨dst, .load T x, ty, pos, af, g⟩ a w R := g_ldTN hk h hT hx hs (List.getElem?_eq_getElem hi) hu hz
theorem g_laF {x : Operand} {T : TypeId} {v : Value} {i f : Nat} {xs : List α} {u : Value} (hk : Kn df n a l) (h : R u w) (hT : aggOf P T = some false)
  (hx : ev l x = some (.pointer (some ⟨blk v, offs v + i * (Enc.k α + 1) + f, none⟩)) := by rfl) (hs : SlT xs v w) (hi : i < xs.length) (hu : (Enc.f xs[i])[f]? = some u := by rfl) :
  Gives P ⟨dst, .load T x, ty, pos, af, g⟩ a w R := g_ldTF hk h hT hx hs (List.getElem?_eq_getElem hi) hu
theorem g_bs1I {T E : Nat} {q : List (Nat × Operand)} {z : Value} {m : Int} (hk : Kn df n a l) (hS : St w0 L w) (h : ∀ w' v, St w0 (OwT E [m] v :: L) w' → R v w')
  (hp : evP l q = some [(0, .int .i64 m)] := by rfl) (hT : elOf P T = some E) (hE : szOf P E = some 1) (hz : zeroOf P E = some z) :
  Gives P ⟨dst, .buildSlice T 1 q.toArray, ty, pos, af, g⟩ a w R := by
 have hE' : szOf P E = some (Enc.k Int + 1) := hE
 refine g_bsT (xs := [m]) (m := 0) hk hS h hp hT hE' hz ?_ rfl
 simp [bldP, enc, Enc.f, Enc.k, Value.cells, zerosL, splice];rfl
theorem g_bs1S {T E : Nat} {q : List (Nat × Operand)} {z : Value} {m : ByteArray} (hk : Kn df n a l) (hS : St w0 L w) (h : ∀ w' v, St w0 (OwT E [m] v :: L) w' → R v w')
  (hp : evP l q = some [(0, .string m)] := by rfl) (hT : elOf P T = some E) (hE : szOf P E = some 1) (hz : zeroOf P E = some z) :
  Gives P ⟨dst, .buildSlice T 1 q.toArray, ty, pos, af, g⟩ a w R := by
 have hE' : szOf P E = some (Enc.k ByteArray + 1) := hE
 refine g_bsT (xs := [m]) (m := 0) hk hS h hp hT hE' hz ?_ rfl
 simp [bldP, enc, Enc.f, Enc.k, Value.cells, zerosL, splice];rfl
theorem g_app1 {α : Type} [Enc α] {x y : Operand} {t tx : TypeId} {E E' : Nat} {v y0 z : Value} {xs : List α} {e : α} {L'' : List HP} (hk : Kn df n a l) (hS : St w0 L w)
  (h : ∀ w' v', St w0 (OwT E (xs ++ [e]) v' :: L'') w' → R v' w')
  (hx : ev l x = some v := by rfl) (hy : ev l y = some y0 := by rfl)
  (hat : At (OwT E xs v) L L' := by (repeat (first | exact At.here | apply At.there)))
  (hT : elOf P t = some E) (hTx : elOf P tx = some E')
  (hat2 : At (OwT E' [e] y0) L' L'' := by (repeat (first | exact At.here | apply At.there)))
  (hE : szOf P E = some (Enc.k α + 1)) (hz : zeroOf P E = some z) (hzs : z.cells.size = Enc.k α + 1) {by_ : Nat} (hby : ((P.info? E).map (·.bytes)).getD 0 = by_) (hbytes : (xs.length + 1) * by_ ≤ 140737488355328) (h63 : xs.length + 1 ≤ 9223372036854775807) :
  Gives P ⟨dst, .call { callee := .builtin .append, args := #[x, y], argTypes := #[t, tx] }, ty, pos, af, g⟩ a w R :=
 g_appD hk hS h hx hy hat hT hTx hat2 hE hz hzs hby (by simpa using hbytes) (by simpa [maxLen] using h63)
theorem g_var1 {x : Operand} {T : TypeId} {b o : Nat} {vs : List Value} {T' : TypeId} {v : Value} (hk : Kn df n a l) (h : R v w) (hT : aggOf P T = some false)
  (hx : ev l x = some (.pointer (some ⟨b, o, none⟩)) := by rfl) (hb : (pts b vs T').rd w) (hv : vs[o]? = some v := by rfl) : Gives P ⟨dst, .load T x, ty, pos, af, g⟩ a w R :=
 g_load1 hk h hT (by rw [cell_of_row w b o _ T' _ (pts.block hb)];simpa using hv) hx
theorem g_varN {x : Operand} {T : TypeId} {b o k : Nat} {vs us : List Value} {T' : TypeId} (hk : Kn df n a l) (h : R (.agg us.toArray) w) (hT : aggOf P T = some true)
  (hx : ev l x = some (.pointer (some ⟨b, o, none⟩)) := by rfl) (hb : (pts b vs T').rd w) (hs : szOf P T = some k) (hv : (vs.drop o).take k = us := by rfl) (hl : us.length = k := by rfl) : Gives P ⟨dst, .load T x, ty, pos, af, g⟩ a w R := by
 have hc := Cells.of_block (pts.block hb) o k
 rw [hv] at hc
 exact g_loadN hk h hT hc (by rw [hl];exact hs) hx
theorem g_convU {x : Operand} {t t' : TypeId} {k' : IntKind} {p : Int} (hk : Kn df n a l) (h : R (.int .u64 p) w) (hx : ev l x = some (.int k' p) := by rfl) (ht : P.underlying t' = some (.int .u64)) {d : TypeDesc} (hs : P.underlying t = some d) (h0 : 0 ≤ p) (h1 : p ≤ 18446744073709551615) :
  Gives P ⟨dst, .convert t t' x, ty, pos, af, g⟩ a w R := g_convI hk (by rw [IntWalk.u64_in _ ⟨h0, h1⟩];exact h) hx ht hs
theorem g_convS {x : Operand} {t t' : TypeId} {k' : IntKind} {p : Int} (hk : Kn df n a l) (h : R (.int .i64 p) w) (hx : ev l x = some (.int k' p) := by rfl) (ht : P.underlying t' = some (.int .i64)) {d : TypeDesc} (hs : P.underlying t = some d) (h0 : -9223372036854775808 ≤ p) (h1 : p ≤ 9223372036854775807) :
  Gives P ⟨dst, .convert t t' x, ty, pos, af, g⟩ a w R := g_convI hk (by rw [IntWalk.i64_in _ ⟨h0, h1⟩];exact h) hx ht hs
theorem g_shr1 {x y : Operand} {t t' : TypeId} {k k' : IntKind} {p : Int} (hk : Kn df n a l) (h : R (.int k (p / 2)) w) (hx : ev l x = some (.int k p) := by rfl) (hy : ev l y = some (.int k' 1) := by rfl) (hm : 1 ≤ k.bits) :
  Gives P ⟨dst, .binOp .shr t x y t', ty, pos, af, g⟩ a w R :=
 g_shr (m := 1) hk (by rw [show (2 : Int) ^ 1 = 2 from rfl, Int.fdiv_eq_ediv_of_nonneg _ (by omega)];exact h) hx hy hm
theorem wp_while {ι : Type} {c : Code} {l0 : List (Nat × Value)} (V : ι → List (Nat × Value)) (Ls : ι → List HP) (F : ι → Prop) (μ : ι → Nat) (x0 : ι) (hk : Kn df n a l0) (hV : subK l0 (V x0)) (hS : St w0 (Ls x0) w) (hF : F x0)
  (step : ∀ (x : ι) (a : Act) (w : World), Kn df n a (V x ++ l0) → St w0 (Ls x) w → F x →
   c.wpIn (FR rr) 0 P (Exit.then (fun a' w' => ∃ x', μ x' < μ x ∧ Kn df n a' (V x' ++ l0) ∧ St w0 (Ls x') w' ∧ F x') Q) a w) : (Code.loop c).wpIn (FR rr) 0 P Q a w := by
 refine wp_loopN (fun k a w => ∃ x, k = μ x ∧ Kn df n a (V x ++ l0) ∧ St w0 (Ls x) w ∧ F x) (k := μ x0) ⟨x0, rfl, hk.app hV, hS, hF⟩ ?_
 rintro k a w ⟨x, rfl, hk, hS, hF⟩
 refine wpIn_mono (step x a w hk hS hF) ?_
 intro e a' w' hq
 cases e with
 | normal =>
  obtain ⟨x', hlt, h1, h2, h3⟩ := hq
  exact ⟨μ x', hlt, x', rfl, h1, h2, h3⟩
 | exit i => exact hq
 | goto i => exact hq
 | ret => exact hq
 | panic c => exact hq
 | outgrown => exact hq
theorem g_callvO {R' : Value → World → Prop} {x : Operand} {f : FuncId} {first cap : List Value} {xs : List Operand} {vs : List Value} {ts : Array TypeId} (hk : Kn df n a l)
  (hx : ev l x = some (.func (.func f) first.toArray cap.toArray) := by rfl) (hxs : evs l xs = some vs := by rfl) (hf : callable P f = true) (hc : Calls P f (first ++ vs ++ cap).toArray w (Ret R'))
  (h : ∀ v w', R' v w' → R v w') : Gives P ⟨dst, .call { callee := .value x, args := xs.toArray, argTypes := ts }, ty, pos, af, g⟩ a w R :=
 g_callv hk hf hc h hx hxs
theorem g_bs0 (α : Type) [Enc α] {T E k : Nat} (hS : St w0 L w) (h : ∀ w' v, St w0 (OwT E ([] : List α) v :: L) w' → R v w') (hT : elOf P T = some E) (hE : szOf P E = some k) :
  Gives P ⟨dst, .buildSlice T 0 #[], ty, pos, af, g⟩ a w R := by
 refine givesv (v := .slice (some ⟨w.heap.size, 0, none⟩) 0 0) (w' := w.alloc (.cells #[] E)) ?_ (h _ _ ?_)
 ·simp only [execOp, Instr.buildSlice, Sem.run_bind, run_underlying (elOf_und hT), Result.andThen_ok, szOf_run hE]
  have e : (Array.map (fun (_ : Nat) => (default : Value)) (Array.range 0)) = #[] := Array.eq_empty_of_size_eq_zero (by simp)
  simp [Instr.fill, newRow, e]
 ·have := (hS.alloc [] E).ptsOwn At.here (k := Enc.k α + 1) (n := 0) (by simp) (by simp [maxLen])
  unfold OwT
  exact this
theorem g_appE {α : Type} [Enc α] {x y : Operand} {t tx : TypeId} {E E' : Nat} {v y0 z : Value} {xs ys : List α} {L'' : List HP} (hk : Kn df n a l) (hS : St w0 L w)
  (h : ∀ w' v', St w0 (OwT E (xs ++ ys) v' :: L'') w' → R v' w')
  (hx : ev l x = some v := by rfl) (hy : ev l y = some y0 := by rfl)
  (hat : At (OwT E xs v) L L' := by (repeat (first | exact At.here | apply At.there)))
  (hT : elOf P t = some E) (hTx : elOf P tx = some E')
  (hat2 : At (OwT E' ys y0) L' L'' := by (repeat (first | exact At.here | apply At.there)))
  (hE : szOf P E = some (Enc.k α + 1)) (hz : zeroOf P E = some z) (hzs : z.cells.size = Enc.k α + 1) {by_ : Nat} (hby : ((P.info? E).map (·.bytes)).getD 0 = by_) (hbytes : (xs.length + ys.length) * by_ ≤ 140737488355328) (h63 : xs.length + ys.length ≤ 9223372036854775807) :
  Gives P ⟨dst, .call { callee := .builtin .append, args := #[x, y], argTypes := #[t, tx] }, ty, pos, af, g⟩ a w R :=
 g_appD hk hS h hx hy hat hT hTx hat2 hE hz hzs hby hbytes (by simpa [maxLen] using h63)
end
theorem beq_str (a b : ByteArray) : (a == b) = true ↔ a = b := by
 cases a
 cases b
 simp only [BEq.beq, ByteArray.beq, ByteArray.mk.injEq]
 constructor
 ·exact fun h => Array.eq_of_isEqv _ _ h
 ·intro h
  subst h
  exact Array.isEqv_self _
theorem eqC_eq : ∀ {ks : List SK} {us vs : List Value}, shp ks us = true → shp ks vs = true → (eqC us vs = true ↔ us = vs)
 | [], [], [], _, _ => by simp [eqC]
 | [], _ :: _, _, h, _ => by simp [shp] at h
 | [], [], _ :: _, _, h => by simp [shp] at h
 | .int k :: ks, [], _, h, _ => by simp [shp] at h
 | .bool :: ks, [], _, h, _ => by simp [shp] at h
 | .str :: ks, [], _, h, _ => by simp [shp] at h
 | .int k :: ks, _ :: _, [], _, h => by simp [shp] at h
 | .bool :: ks, _ :: _, [], _, h => by simp [shp] at h
 | .str :: ks, _ :: _, [], _, h => by simp [shp] at h
 | .int k :: ks, u :: us, v :: vs, h1, h2 => by
  cases u <;> simp [shp] at h1
  cases v <;> simp [shp] at h2
  obtain ⟨rfl, h1⟩ := h1
  obtain ⟨rfl, h2⟩ := h2
  simp [eqC, eqC_eq h1 h2]
 | .bool :: ks, u :: us, v :: vs, h1, h2 => by
  cases u <;> simp [shp] at h1
  cases v <;> simp [shp] at h2
  simp [eqC, eqC_eq h1 h2]
 | .str :: ks, u :: us, v :: vs, h1, h2 => by
  cases u <;> simp [shp] at h1
  cases v <;> simp [shp] at h2
  simp [eqC, eqC_eq h1 h2, beq_str]
theorem shp_join : ∀ {k1 k2 : List SK} {us vs : List Value}, shp k1 us = true → shp k2 vs = true → shp (k1 ++ k2) (us ++ vs) = true
 | [], _, [], _, _, h => by simpa using h
 | [], _, _ :: _, _, h, _ => by simp [shp] at h
 | .int k :: ks, _, [], _, h, _ => by simp [shp] at h
 | .bool :: ks, _, [], _, h, _ => by simp [shp] at h
 | .str :: ks, _, [], _, h, _ => by simp [shp] at h
 | .int k :: ks, _, u :: us, vs, h, h2 => by
  cases u <;> simp [shp] at h
  simp [shp, h.1, shp_join h.2 h2]
 | .bool :: ks, _, u :: us, vs, h, h2 => by
  cases u <;> simp [shp] at h
  simp [shp, shp_join h h2]
 | .str :: ks, _, u :: us, vs, h, h2 => by
  cases u <;> simp [shp] at h
  simp [shp, shp_join h h2]
class EncI (α : Type) [Enc α] where
 ks : List SK
 kl : ks.length = Enc.k α + 1
 sh : ∀ x : α, shp ks (Enc.f x) = true
 inj : ∀ {x y : α}, Enc.f x = Enc.f y → x = y
 sur : ∀ us, shp ks us = true → ∃ x : α, Enc.f x = us
instance : EncI Int := ⟨[.int .i64], rfl, fun _ => rfl, fun h => by simpa [Enc.f] using h, fun us h => by obtain ⟨p, rfl⟩ := shp_int h; exact ⟨p, rfl⟩⟩
instance : EncI ByteArray := ⟨[.str], rfl, fun _ => rfl, fun h => by simpa [Enc.f] using h, fun us h => by obtain ⟨p, rfl⟩ := shp_str h; exact ⟨p, rfl⟩⟩
instance : EncI Bool := ⟨[.bool], rfl, fun _ => rfl, fun h => by simpa [Enc.f] using h, fun us h => by obtain ⟨p, rfl⟩ := shp_bool h; exact ⟨p, rfl⟩⟩
instance {α β : Type} [Enc α] [Enc β] [EncI α] [EncI β] : EncI (α × β) := ⟨EncI.ks α ++ EncI.ks β, by rw [List.length_append, EncI.kl, EncI.kl]; show _ = Enc.k α + Enc.k β + 1 + 1; omega, fun x => shp_join (EncI.sh x.1) (EncI.sh x.2), fun {x y} h => by
 have h := List.append_inj h (by rw [Enc.len, Enc.len])
 exact Prod.ext (EncI.inj h.1) (EncI.inj h.2), fun us h => by
 obtain ⟨h1, h2⟩ := shp_app h
 obtain ⟨x, hx⟩ := EncI.sur _ h1
 obtain ⟨y, hy⟩ := EncI.sur _ h2
 exact ⟨(x, y), by show Enc.f x ++ Enc.f y = us;rw [hx, hy, List.take_append_drop]⟩⟩
theorem eqC_enc {α : Type} [Enc α] [EncI α] {x y : α} {b : Bool} (h : eqC (Enc.f x) (Enc.f y) = b) : if b = true then x = y else x ≠ y := by
 cases b with
 | true => exact EncI.inj ((eqC_eq (EncI.sh x) (EncI.sh y)).1 h)
 | false =>
  rw [if_neg (by decide)]
  intro e
  rw [e, eqC_self] at h
  cases h
inductive ResV (P : Program) (l : List (Nat × Value)) (w : World) : ResultVar → Value → Prop
 | tmp {t : Nat} {v : Value} (h : lk l t = some v) : ResV P l w (.tmp t) v
 | cell {t T b o : Nat} {v : Value} (h : lk l t = some (.pointer (some ⟨b, o, none⟩))) (hv : (Instr.loadAt T (.pointer (some ⟨b, o, none⟩))).run P w = .ok v w) : ResV P l w (.cell t T) v
section
variable {P : Program} {a : Act} {w : World} {w0 : Bs} {n : Nat} {l : List (Nat × Value)} {L L' : List HP} {fn : Func} {R : Value → World → Prop}
def rvOf (tmps : Array Value) : ResultVar → Sem Value
 | .tmp t => pure (tmps.getD t undef)
 | .cell x t => do loadVar t (← asAddr (tmps.getD x undef))
theorem results_rv (fn : Func) (tmps : Array Value) : results fn tmps = (do
  let vs ← fn.results.mapM (rvOf tmps)
  pure (if h : vs.size = 1 then vs[0] else .tuple vs)) := rfl
theorem ResV.run {r : ResultVar} {v : Value} (hk : Kn df n a l) (h : ResV P l w r v) : (rvOf a.tmps r).run P w = .ok v w := by
 cases h with
 | tmp h =>
  have := hk.get _ _ h
  simp [rvOf]
  simpa using this
 | cell h hv =>
  simp only [Instr.loadAt, Instr.sureAddr] at hv
  have hp := hk.get _ _ h
  simp at hv
  unfold rvOf
  simp only [hp]
  simp [asAddr, hv]
theorem ResV.str {t T b o k : Nat} {vs us : List Value} {T' : TypeId} (hS : St w0 L w) (h : lk l t = some (.pointer (some ⟨b, o, none⟩)) := by rfl) (hat : At (pts b vs T') L L' := by (repeat (first | exact At.here | apply At.there))) (hT : aggOf P T = some true) (hs : szOf P T = some k)
  (hus : (vs.drop o).take k = us := by rfl) (hl : us.length = k := by rfl) : ResV P l w (.cell t T) (.agg us.toArray) :=
 .cell h (run_loadN hT (by rw [hl];exact hs) (by have hc := Cells.of_block (pts.block (hS.rd hat)) o k;rw [hus] at hc;exact hc))
theorem done1R {r : ResultVar} {v : Value} (hk : Kn [] n a l) (hr : fn.results = #[r]) (h1 : ResV P l w r v) (h : R v w) : Done P fn R .ret a w := by
 refine bodyPost_ret (v := v) ?_ hk.defers ⟨_, rfl, h⟩
 have e1 := h1.run hk
 rw [results_rv, hr]
 simp [e1]
theorem done2R {r r' : ResultVar} {v v' : Value} (hk : Kn [] n a l) (hr : fn.results = #[r, r']) (h1 : ResV P l w r v) (h2 : ResV P l w r' v') (h : R (.tuple #[v, v']) w) : Done P fn R .ret a w := by
 refine bodyPost_ret (v := .tuple #[v, v']) ?_ hk.defers ⟨_, rfl, h⟩
 have e1 := h1.run hk
 have e2 := h2.run hk
 rw [results_rv, hr]
 simp [e1, e2]
theorem done3R {r r' r'' : ResultVar} {v v' v'' : Value} (hk : Kn [] n a l) (hr : fn.results = #[r, r', r'']) (h1 : ResV P l w r v) (h2 : ResV P l w r' v') (h3 : ResV P l w r'' v'') (h : R (.tuple #[v, v', v'']) w) : Done P fn R .ret a w := by
 refine bodyPost_ret (v := .tuple #[v, v', v'']) ?_ hk.defers ⟨_, rfl, h⟩
 have e1 := h1.run hk
 have e2 := h2.run hk
 have e3 := h3.run hk
 rw [results_rv, hr]
 simp [e1, e2, e3]
end
end Go.Proofs.YtgklceoodpocaaaGreatDoor
namespace Go.Proofs.YtgklceoodpocaaaGreatDoor
variable {df : List Deferred}
open Go.RowKit
section
variable {α : Type} [Enc α]
theorem St.ownCells {w0 : Bs} {w : World} {L L' : List HP} {E : TypeId} {xs : List α} {v : Value} (hS : St w0 L w) (hat : At (OwT E xs v) L L') (h0 : xs ≠ []) :
  ∃ b off cap, v = .slice (some ⟨b, off, none⟩) xs.length cap ∧ (∀ j u, (enc xs)[j]? = some u → w.cell? ⟨b, off + j, none⟩ = some u) ∧ ∀ j, w.frozen? ⟨b, j, none⟩ = false := by
 obtain ⟨F, h1, h2, h3, h4⟩ := hS.rd hat
 rcases h3 with ⟨_, hx⟩ | ⟨b, off, cap, cur, rfl, hF, hF', hb, hn, hc, hs, hcell⟩
 ·exact absurd (List.eq_nil_of_length_eq_zero hx) h0
 ·refine ⟨b, off, cap, rfl, fun j u hj => ?_, fun j => frozen_of_row w b j _ E hb⟩
  rw [cell_of_row w b (off + j) _ E _ hb]
  exact hcell j u hj
end
section
variable {P : Program} {a : Act} {w : World} {w0 : Bs} {n : Nat} {l : List (Nat × Value)} {L L' : List HP}
 {dst : Option Nat} {R : Value → World → Prop} {ty : TypeId} {pos : String} {af : Array Edge} {g : Option (Nat × Bool)}
theorem g_stI {x y : Operand} {T E : TypeId} {v : Value} {i : Nat} {xs : List Int} {z : Int} (hk : Kn df n a l) (hS : St w0 L w) (h : ∀ w', St w0 (OwT E (xs.set i z) v :: L') w' → R undef w')
  (hx : ev l x = some (.pointer (some ⟨blk v, offs v + i * (Enc.k Int + 1), none⟩)) := by rfl) (hy : ev l y = some (.int .i64 z) := by rfl) (hat : At (OwT E xs v) L L' := by (repeat (first | exact At.here | apply At.there)))
  (hsz : szOf P T = some 1) (hi : i < xs.length) : Gives P ⟨dst, .store T x y, ty, pos, af, g⟩ a w R :=
 g_stT hk hS h hx hy hat rfl hsz hi
theorem g_stS {x y : Operand} {T E : TypeId} {v : Value} {i : Nat} {xs : List ByteArray} {z : ByteArray} (hk : Kn df n a l) (hS : St w0 L w) (h : ∀ w', St w0 (OwT E (xs.set i z) v :: L') w' → R undef w')
  (hx : ev l x = some (.pointer (some ⟨blk v, offs v + i * (Enc.k ByteArray + 1), none⟩)) := by rfl) (hy : ev l y = some (.string z) := by rfl) (hat : At (OwT E xs v) L L' := by (repeat (first | exact At.here | apply At.there)))
  (hsz : szOf P T = some 1) (hi : i < xs.length) : Gives P ⟨dst, .store T x y, ty, pos, af, g⟩ a w R :=
 g_stT hk hS h hx hy hat rfl hsz hi
end
end Go.Proofs.YtgklceoodpocaaaGreatDoor
namespace Go.Proofs.YtgklceoodpocaaaGreatDoor
set_option maxRecDepth 100000
def tyAgg : List (Option Bool) := [some false, some false, some false, some false, some false, some false, some false, some true, some true, some false, some false, some false, some false, some true, some true, some false, some false, some false, some true, some true, some false, some false, some false, some false, some false, some false, some false, some true, some true, some false, some false, some false, some true, some true, some false, some false, some false, some false, some false, some false, some true, some true, some false, some false, some false, some false, some false, some false, some true, some true, some false, some false, some false, some false, some false, some false, some false, some true, some true, some false, some true, some true, some false, some false, some false, some false, some true, some true, some false, some false, some true, some true, some true, some true, some false, some false, some false, some false, some false, some false, some false, some false, some false, some false, some false, some false, some false, some false, some false, some false, some false, some false, some false, some false, some false, some false, some false, some true, some true, some true, some true, some false, some true, some true, some false, some false, some false, some false, some false, some false, some false, some false, some false, some false, some false, some false, some false, some false, some false, some false, some false, some false, some false, some false, some false, some false, some false, some false, some false, some false, some false, some false, some false, some false, some false, some false, some false, some true, some true, some false, some false, some false, some false, some false, some false, some false, some false, some false, some false, some false, some false, some false, some false, some false, some false, some false, some false, some false, some false, some false, some false, some false, some false, some false, some false, some false, some false, some false, some false, some false, some false, some false, some false, some false, some false, some false, some false, some false, some false, some false, some false, some false, some true, some false, some false, some false, some false, some false, some false, some false, some false, some false, some false, some false, some false, some false, some false, some false, some false, some false, some true, some false, some true, some false, some false, some false, some false, some false, some false, some false, some false, some false, some false, some true, some true, some false, some false, some true, some true, some true, some true, some true, some false, some false, some false, some false, some false, some true, some true]
def tySz : List (Option Nat) := [some 1, some 1, some 1, some 1, some 1, some 1, some 1, some 4, some 4, some 1, some 1, some 1, some 1, some 2, some 2, some 1, some 1, some 1, some 1, some 1, some 1, some 1, some 1, some 1, some 1, some 1, some 1, some 3, some 3, some 1, some 1, some 1, some 6, some 6, some 1, some 1, some 1, some 1, some 1, some 1, some 8, some 8, some 1, some 1, some 1, some 1, some 1, some 1, some 8, some 8, some 1, some 1, some 1, some 1, some 1, some 1, some 1, some 6, some 6, some 1, some 14, some 14, some 1, some 1, some 1, some 1, some 3, some 3, some 1, some 1, some 9, some 9, some 9, some 9, some 1, some 1, some 1, some 1, some 1, some 1, some 1, some 1, some 1, some 1, some 1, some 1, some 1, some 1, some 1, some 1, some 1, some 1, some 1, some 1, some 1, some 1, some 1, some 2, some 2, some 2, some 2, some 1, some 2, some 2, some 1, some 1, some 1, some 1, some 1, some 1, some 1, some 1, some 1, some 1, some 1, some 1, some 1, some 1, some 1, some 1, some 1, some 1, some 1, some 1, some 1, some 1, some 1, some 1, some 1, some 1, some 1, some 1, some 1, some 1, some 1, some 1, some 1, some 2, some 2, some 1, some 1, some 1, some 1, some 1, some 1, some 1, some 1, some 1, some 1, some 1, some 1, some 1, some 1, some 1, some 1, some 1, some 1, some 1, some 1, some 1, some 1, some 1, some 1, some 1, some 1, some 1, some 1, some 1, some 1, some 1, some 1, some 1, some 1, some 1, some 1, some 1, some 1, some 1, some 1, some 1, some 1, some 1, some 24, some 1, some 1, some 1, some 1, some 1, some 1, some 1, some 1, some 1, some 1, some 1, some 1, some 1, some 1, some 1, some 1, some 1, some 20, some 1, some 65, some 1, some 1, some 1, some 1, some 1, some 1, some 1, some 1, some 1, some 1, some 32, some 64, some 1, some 1, some 4, some 4, some 0, some 0, some 0, some 1, some 1, some 1, some 1, some 1, some 11, some 11]
def tyBy : List (Nat) := [0, 8, 8, 8, 1, 1, 1, 24, 24, 16, 16, 16, 8, 24, 24, 8, 8, 8, 8, 8, 16, 4, 24, 8, 8, 8, 24, 40, 40, 8, 0, 8, 64, 64, 24, 24, 24, 24, 24, 24, 144, 144, 8, 0, 8, 24, 24, 24, 144, 144, 0, 8, 8, 8, 8, 8, 8, 40, 40, 24, 192, 192, 8, 8, 8, 8, 24, 24, 8, 24, 152, 152, 152, 152, 8, 0, 8, 0, 8, 8, 0, 8, 8, 8, 8, 8, 8, 8, 0, 8, 0, 8, 8, 8, 8, 8, 8, 32, 32, 24, 24, 8, 32, 24, 8, 8, 8, 8, 8, 8, 8, 8, 8, 8, 8, 8, 8, 8, 8, 8, 8, 8, 8, 8, 8, 8, 8, 8, 0, 8, 8, 8, 8, 0, 8, 8, 24, 32, 32, 8, 16, 16, 0, 8, 8, 8, 8, 8, 8, 8, 8, 8, 8, 8, 8, 8, 8, 8, 0, 8, 8, 0, 8, 8, 8, 8, 8, 8, 8, 8, 8, 8, 8, 8, 8, 8, 8, 8, 8, 8, 8, 8, 24, 8, 8, 8, 0, 8, 8, 8, 8, 8, 8, 8, 8, 8, 8, 8, 8, 8, 160, 4, 65, 8, 8, 8, 8, 8, 8, 8, 8, 8, 8, 32, 64, 8, 8, 40, 40, 0, 0, 0, 1, 1, 8, 4, 4, 48, 48]
def tyEl : List (Option Nat) := [none, none, none, none, none, none, none, none, none, none, none, none, none, none, none, none, none, none, none, none, none, none, some 33, none, none, none, some 73, none, none, none, none, none, none, none, some 9, some 98, some 98, some 100, some 100, some 41, none, none, none, none, none, some 102, some 103, some 49, none, none, none, none, none, none, none, none, none, none, none, some 61, none, none, none, none, none, none, none, none, none, some 3, none, none, none, none, none, none, none, none, none, none, none, none, none, none, none, none, none, none, none, none, none, none, none, none, none, none, none, none, none, none, none, none, none, none, none, none, none, none, none, none, none, none, none, none, none, none, none, none, none, none, none, none, none, none, none, none, none, none, none, none, none, none, none, none, none, none, some 5, none, none, none, none, none, none, none, none, none, none, none, none, none, none, none, none, none, none, none, none, none, none, none, none, none, none, none, none, none, none, none, none, none, none, none, none, none, none, none, none, none, none, none, none, none, none, none, none, none, none, none, none, none, none, none, none, none, none, none, none, none, none, none, none, none, none, none, none, none, none, none, none, none, none, none, none, none, none, none, none, none, none, none, none, none, none, none, none, none, none, none, none]
def tyFl : List (Option (List (Nat × Nat))) := [none, none, none, none, none, none, none, some [(0, 1), (1, 1), (2, 1), (3, 1)], some [(0, 1), (1, 1), (2, 1), (3, 1)], none, none, none, none, some [(0, 1), (1, 1)], some [(0, 1), (1, 1)], none, none, none, some [(0, 1)], some [(0, 1)], none, none, none, none, none, none, none, some [(0, 1), (1, 1), (2, 1)], some [(0, 1), (1, 1), (2, 1)], none, none, none, some [(0, 1), (1, 1), (2, 1), (3, 1), (4, 1), (5, 1)], some [(0, 1), (1, 1), (2, 1), (3, 1), (4, 1), (5, 1)], none, none, none, none, none, none, some [(0, 1), (1, 1), (2, 1), (3, 1), (4, 1), (5, 1), (6, 1), (7, 1)], some [(0, 1), (1, 1), (2, 1), (3, 1), (4, 1), (5, 1), (6, 1), (7, 1)], none, none, none, none, none, none, some [(0, 1), (1, 1), (2, 1), (3, 1), (4, 1), (5, 1), (6, 1), (7, 1)], some [(0, 1), (1, 1), (2, 1), (3, 1), (4, 1), (5, 1), (6, 1), (7, 1)], none, none, none, none, none, none, none, some [(0, 1), (1, 1), (2, 1), (3, 1), (4, 1), (5, 1)], some [(0, 1), (1, 1), (2, 1), (3, 1), (4, 1), (5, 1)], none, some [(0, 1), (1, 1), (2, 1), (3, 1), (4, 1), (5, 1), (6, 1), (7, 6), (13, 1)], some [(0, 1), (1, 1), (2, 1), (3, 1), (4, 1), (5, 1), (6, 1), (7, 6), (13, 1)], none, none, none, none, some [(0, 1), (1, 1), (2, 1)], some [(0, 1), (1, 1), (2, 1)], none, none, some [(0, 1), (1, 1), (2, 1), (3, 1), (4, 1), (5, 1), (6, 1), (7, 1), (8, 1)], some [(0, 1), (1, 1), (2, 1), (3, 1), (4, 1), (5, 1), (6, 1), (7, 1), (8, 1)], some [(0, 1), (1, 1), (2, 1), (3, 1), (4, 1), (5, 1), (6, 1), (7, 1), (8, 1)], some [(0, 1), (1, 1), (2, 1), (3, 1), (4, 1), (5, 1), (6, 1), (7, 1), (8, 1)], none, none, none, none, none, none, none, none, none, none, none, none, none, none, none, none, none, none, none, none, none, none, none, some [(0, 1), (1, 1)], some [(0, 1), (1, 1)], some [(0, 1), (1, 1)], some [(0, 1), (1, 1)], none, some [(0, 1), (1, 1)], some [(0, 1), (1, 1)], none, none, none, none, none, none, none, none, none, none, none, none, none, none, none, none, none, none, none, none, none, none, none, none, none, none, none, none, none, none, none, none, none, some [(0, 1), (1, 1)], some [(0, 1), (1, 1)], none, none, none, none, none, none, none, none, none, none, none, none, none, none, none, none, none, none, none, none, none, none, none, none, none, none, none, none, none, none, none, none, none, none, none, none, none, none, none, none, none, none, none, none, none, none, none, none, none, none, none, none, none, none, none, none, none, none, none, none, none, none, none, none, none, none, none, none, none, none, none, none, none, none, none, none, none, none, some [(0, 1), (1, 1), (2, 1), (3, 1)], some [(0, 1), (1, 1), (2, 1), (3, 1)], none, some [(0, 0)], some [(0, 0)], none, none, none, none, none, some [(0, 1), (1, 1), (2, 1), (3, 1), (4, 1), (5, 1), (6, 1), (7, 1), (8, 1), (9, 1), (10, 1)], some [(0, 1), (1, 1), (2, 1), (3, 1), (4, 1), (5, 1), (6, 1), (7, 1), (8, 1), (9, 1), (10, 1)]]
def byOf (P : Program) (T : TypeId) : Nat := ((P.info? T).map (·.bytes)).getD 0
theorem mapM_get {P : Program} : ∀ {fs : List Field} {pl : List (Nat × Nat)} {f : Nat} {p : Nat × Nat}, fs.mapM (fun x => (szOf P x.type).map (x.offset, ·)) = some pl → pl[f]? = some p → ∃ x, fs[f]? = some x ∧ p = (x.offset, (szOf P x.type).getD 0)
 | [], pl, f, p, h, hp => by simp at h;subst h;simp at hp
 | x :: fs, pl, f, p, h, hp => by
  simp only [List.mapM_cons, Option.bind_eq_bind, Option.bind_eq_some_iff] at h
  obtain ⟨q, hq, qs, hqs, hpl⟩ := h
  simp only [Option.map_eq_some_iff] at hq
  obtain ⟨k, hk, rfl⟩ := hq
  simp at hpl
  subst hpl
  cases f with
  | zero => simp at hp;exact ⟨x, by simp, by simp [← hp, hk]⟩
  | succ f =>
   obtain ⟨y, hy, hpy⟩ := mapM_get hqs (by simpa using hp)
   exact ⟨y, by simpa using hy, hpy⟩
theorem fldOf_flds {P : Program} {T f : Nat} {pl : List (Nat × Nat)} {p : Nat × Nat} (h : fldsO P T = some pl) (hp : pl[f]? = some p) : fldOf P T f = some p := by
 unfold fldsO at h
 unfold fldOf
 cases hu : P.underlying T with
 | none => rw [hu] at h;simp at h
 | some d =>
  rw [hu] at h
  cases d <;> simp only [reduceCtorEq] at h
  case struct fs =>
   obtain ⟨x, hx, hpx⟩ := mapM_get h hp
   have hx' : fs[f]? = some x := by simpa using hx
   simp only [hx', hpx]
theorem tyAgg_eq : (List.range 229).map (aggOf Tryz.prog) = tyAgg := by kernel_rfl
theorem tySz_eq : (List.range 229).map (szOf Tryz.prog) = tySz := by kernel_rfl
theorem tyBy_eq : (List.range 229).map (byOf Tryz.prog) = tyBy := by kernel_rfl
theorem tyEl_eq : (List.range 229).map (elOf Tryz.prog) = tyEl := by kernel_rfl
theorem tyFl_eq : (List.range 229).map (fldsO Tryz.prog) = tyFl := by kernel_rfl
theorem tab_get {α : Type} {n : Nat} {f : Nat → α} {l : List α} (h : (List.range n).map f = l) {T : Nat} {x : α} (hx : l[T]? = some x) : f T = x := by
 subst h
 simp only [List.getElem?_map, Option.map_eq_some_iff] at hx
 obtain ⟨y, hy, rfl⟩ := hx
 rw [List.getElem?_range] at hy
 ·injection hy with hy;rw [hy]
 ·rcases Nat.lt_or_ge T n with h | h
  ·exact h
  ·rw [List.getElem?_eq_none (by simpa using h)] at hy;cases hy
theorem aT {T : Nat} {b : Bool} (h : tyAgg[T]? = some (some b)) : aggOf Tryz.prog T = some b := tab_get tyAgg_eq h
theorem zT {T k : Nat} (h : tySz[T]? = some (some k)) : szOf Tryz.prog T = some k := tab_get tySz_eq h
theorem bT {T k : Nat} (h : tyBy[T]? = some k) : byOf Tryz.prog T = k := tab_get tyBy_eq h
theorem eT {T k : Nat} (h : tyEl[T]? = some (some k)) : elOf Tryz.prog T = some k := tab_get tyEl_eq h
theorem fsT {T : Nat} {pl : List (Nat × Nat)} (h : tyFl[T]? = some (some pl)) : fldsO Tryz.prog T = some pl := tab_get tyFl_eq h
theorem fT {T f : Nat} {p : Nat × Nat} (h : (tyFl[T]?).bind (fun x => x.bind (·[f]?)) = some p) : fldOf Tryz.prog T f = some p := by
 cases hl : tyFl[T]? with
 | none => rw [hl] at h;simp at h
 | some l =>
  rw [hl] at h
  cases l with
  | none => simp at h
  | some pl => exact fldOf_flds (tab_get tyFl_eq hl) (by simpa using h)
def tyZ : List (Option Value) := [some (.tuple #[]), some (.nilFunc), some (.int .i64 0), some (.int .i64 0), some (.bool false), some (.int .u8 0), some (.int .u8 0), some (.agg #[.int .i64 0, .int .i64 0, .bool false, .int .u8 0]), some (.agg #[.int .i64 0, .int .i64 0, .bool false, .int .u8 0]), some (.string ⟨#[]⟩), some (.string ⟨#[]⟩), some (.string ⟨#[]⟩), some (.int .u64 0), some (.agg #[.string ⟨#[]⟩, .int .u64 0]), some (.agg #[.string ⟨#[]⟩, .int .u64 0]), some (.pointer none), some (.pointer none), some (.pointer none), some (.agg #[.pointer none]), some (.agg #[.pointer none]), some (.nilIface), some (.int .i32 0), some (.slice none 0 0), some (.nilFunc), some (.pointer none), some (.nilFunc), some (.slice none 0 0), some (.agg #[.int .i64 0, .int .i64 0, .slice none 0 0]), some (.agg #[.int .i64 0, .int .i64 0, .slice none 0 0]), some (.nilFunc), some (.tuple #[.agg #[.int .i64 0, .int .i64 0, .slice none 0 0], .bool false]), some (.nilFunc), some (.agg #[.int .i64 0, .int .i64 0, .int .i64 0, .int .i64 0, .string ⟨#[]⟩, .string ⟨#[]⟩]), some (.agg #[.int .i64 0, .int .i64 0, .int .i64 0, .int .i64 0, .string ⟨#[]⟩, .string ⟨#[]⟩]), some (.slice none 0 0), some (.slice none 0 0), some (.slice none 0 0), some (.slice none 0 0), some (.slice none 0 0), some (.slice none 0 0), some (.agg #[.int .i64 0, .int .i64 0, .string ⟨#[]⟩, .string ⟨#[]⟩, .slice none 0 0, .slice none 0 0, .slice none 0 0, .slice none 0 0]), some (.agg #[.int .i64 0, .int .i64 0, .string ⟨#[]⟩, .string ⟨#[]⟩, .slice none 0 0, .slice none 0 0, .slice none 0 0, .slice none 0 0]), some (.int .i64 0), some (.tuple #[.agg #[.int .i64 0, .int .i64 0, .string ⟨#[]⟩, .string ⟨#[]⟩, .slice none 0 0, .slice none 0 0, .slice none 0 0, .slice none 0 0], .int .i64 0]), some (.nilFunc), some (.slice none 0 0), some (.slice none 0 0), some (.slice none 0 0), some (.agg #[.int .i64 0, .int .i64 0, .string ⟨#[]⟩, .string ⟨#[]⟩, .slice none 0 0, .slice none 0 0, .slice none 0 0, .slice none 0 0]), some (.agg #[.int .i64 0, .int .i64 0, .string ⟨#[]⟩, .string ⟨#[]⟩, .slice none 0 0, .slice none 0 0, .slice none 0 0, .slice none 0 0]), some (.tuple #[.agg #[.int .i64 0, .int .i64 0, .string ⟨#[]⟩, .string ⟨#[]⟩, .slice none 0 0, .slice none 0 0, .slice none 0 0, .slice none 0 0], .bool false]), some (.nilFunc), some (.nilFunc), some (.nilFunc), some (.nilFunc), some (.nilFunc), some (.nilFunc), some (.agg #[.int .i64 0, .int .i64 0, .int .i64 0, .int .i64 0, .bool false, .bool false]), some (.agg #[.int .i64 0, .int .i64 0, .int .i64 0, .int .i64 0, .bool false, .bool false]), some (.slice none 0 0), some (.agg #[.int .i64 0, .string ⟨#[]⟩, .string ⟨#[]⟩, .string ⟨#[]⟩, .slice none 0 0, .slice none 0 0, .slice none 0 0, .int .i64 0, .int .i64 0, .int .i64 0, .int .i64 0, .bool false, .bool false, .slice none 0 0]), some (.agg #[.int .i64 0, .string ⟨#[]⟩, .string ⟨#[]⟩, .string ⟨#[]⟩, .slice none 0 0, .slice none 0 0, .slice none 0 0, .int .i64 0, .int .i64 0, .int .i64 0, .int .i64 0, .bool false, .bool false, .slice none 0 0]), some (.nilFunc), some (.nilFunc), some (.nilFunc), some (.map none), some (.agg #[.int .i64 0, .int .i64 0, .map none]), some (.agg #[.int .i64 0, .int .i64 0, .map none]), some (.pointer none), some (.slice none 0 0), some (.agg #[.int .i64 0, .int .i64 0, .string ⟨#[]⟩, .string ⟨#[]⟩, .slice none 0 0, .slice none 0 0, .slice none 0 0, .int .i64 0, .slice none 0 0]), some (.agg #[.int .i64 0, .int .i64 0, .string ⟨#[]⟩, .string ⟨#[]⟩, .slice none 0 0, .slice none 0 0, .slice none 0 0, .int .i64 0, .slice none 0 0]), some (.agg #[.int .i64 0, .int .i64 0, .string ⟨#[]⟩, .string ⟨#[]⟩, .slice none 0 0, .slice none 0 0, .slice none 0 0, .int .i64 0, .slice none 0 0]), some (.agg #[.int .i64 0, .int .i64 0, .string ⟨#[]⟩, .string ⟨#[]⟩, .slice none 0 0, .slice none 0 0, .slice none 0 0, .int .i64 0, .slice none 0 0]), some (.nilFunc), some (.tuple #[.int .i64 0, .int .i64 0]), some (.nilFunc), some (.tuple #[.agg #[.int .i64 0, .int .i64 0, .slice none 0 0], .int .i64 0, .int .i64 0]), some (.nilFunc), some (.nilFunc), some (.tuple #[.agg #[.int .i64 0, .int .i64 0, .slice none 0 0], .int .i64 0]), some (.nilFunc), some (.nilFunc), some (.nilFunc), some (.nilFunc), some (.nilFunc), some (.nilFunc), some (.nilFunc), some (.tuple #[.agg #[.int .i64 0, .int .i64 0, .string ⟨#[]⟩, .string ⟨#[]⟩, .slice none 0 0, .slice none 0 0, .slice none 0 0, .int .i64 0, .slice none 0 0], .bool false]), some (.nilFunc), some (.tuple #[.agg #[.int .i64 0, .int .i64 0, .string ⟨#[]⟩, .string ⟨#[]⟩, .slice none 0 0, .slice none 0 0, .slice none 0 0, .int .i64 0, .slice none 0 0], .bool false]), some (.nilFunc), some (.nilFunc), some (.nilFunc), some (.nilFunc), some (.nilFunc), some (.nilFunc), some (.agg #[.string ⟨#[]⟩, .string ⟨#[]⟩]), some (.agg #[.string ⟨#[]⟩, .string ⟨#[]⟩]), some (.agg #[.string ⟨#[]⟩, .int .i64 0]), some (.agg #[.string ⟨#[]⟩, .int .i64 0]), some (.nilFunc), some (.agg #[.string ⟨#[]⟩, .string ⟨#[]⟩]), some (.agg #[.string ⟨#[]⟩, .int .i64 0]), some (.nilFunc), some (.nilFunc), some (.nilFunc), some (.nilFunc), some (.nilFunc), some (.nilFunc), some (.nilFunc), some (.nilFunc), some (.nilFunc), some (.nilFunc), some (.nilFunc), some (.nilFunc), some (.nilFunc), some (.nilFunc), some (.nilFunc), some (.nilFunc), some (.nilFunc), some (.nilFunc), some (.nilFunc), some (.nilFunc), some (.nilFunc), some (.nilFunc), some (.nilFunc), some (.nilFunc), some (.tuple #[.int .i64 0, .bool false]), some (.nilFunc), some (.nilFunc), some (.nilFunc), some (.nilFunc), some (.tuple #[.pointer none, .bool false]), some (.nilFunc), some (.pointer none), some (.slice none 0 0), some (.agg #[.pointer none, .slice none 0 0]), some (.agg #[.pointer none, .slice none 0 0]), some (.nilFunc), some (.nilIface), some (.nilIface), some (.tuple #[.int .i64 0, .nilIface]), some (.nilFunc), some (.nilFunc), some (.nilFunc), some (.nilFunc), some (.nilFunc), some (.nilFunc), some (.nilFunc), some (.nilFunc), some (.nilFunc), some (.nilFunc), some (.nilFunc), some (.nilFunc), some (.nilFunc), some (.nilFunc), some (.nilFunc), some (.tuple #[.pointer none, .int .i64 0]), some (.nilFunc), some (.nilFunc), some (.tuple #[.string ⟨#[]⟩, .bool false]), some (.nilFunc), some (.nilFunc), some (.nilFunc), some (.nilFunc), some (.nilFunc), some (.nilFunc), some (.pointer none), some (.nilFunc), some (.nilFunc), some (.nilFunc), some (.nilFunc), some (.nilFunc), some (.nilFunc), some (.nilFunc), some (.nilFunc), some (.nilFunc), some (.nilFunc), some (.pointer none), some (.nilFunc), some (.nilFunc), some (.agg #[.int .u8 0, .int .u8 0, .int .u8 0, .int .u8 0, .int .u8 0, .int .u8 0, .int .u8 0, .int .u8 0, .int .u8 0, .int .u8 0, .int .u8 0, .int .u8 0, .int .u8 0, .int .u8 0, .int .u8 0, .int .u8 0, .int .u8 0, .int .u8 0, .int .u8 0, .int .u8 0, .int .u8 0, .int .u8 0, .int .u8 0, .int .u8 0]), some (.int .u64 0), some (.nilFunc), some (.nilFunc), some (.tuple #[.slice none 0 0, .string ⟨#[]⟩]), some (.nilFunc), some (.nilFunc), some (.nilFunc), some (.nilFunc), some (.nilFunc), some (.nilFunc), some (.nilFunc), some (.nilFunc), some (.nilFunc), some (.nilFunc), some (.nilFunc), some (.nilFunc), some (.nilFunc), some (.agg #[.int .u64 0, .int .u64 0, .int .u64 0, .int .u64 0, .int .u64 0, .int .u64 0, .int .u64 0, .int .u64 0, .int .u64 0, .int .u64 0, .int .u64 0, .int .u64 0, .int .u64 0, .int .u64 0, .int .u64 0, .int .u64 0, .int .u64 0, .int .u64 0, .int .u64 0, .int .u64 0]), some (.int .u32 0), some (.agg #[.int .u8 0, .int .u8 0, .int .u8 0, .int .u8 0, .int .u8 0, .int .u8 0, .int .u8 0, .int .u8 0, .int .u8 0, .int .u8 0, .int .u8 0, .int .u8 0, .int .u8 0, .int .u8 0, .int .u8 0, .int .u8 0, .int .u8 0, .int .u8 0, .int .u8 0, .int .u8 0, .int .u8 0, .int .u8 0, .int .u8 0, .int .u8 0, .int .u8 0, .int .u8 0, .int .u8 0, .int .u8 0, .int .u8 0, .int .u8 0, .int .u8 0, .int .u8 0, .int .u8 0, .int .u8 0, .int .u8 0, .int .u8 0, .int .u8 0, .int .u8 0, .int .u8 0, .int .u8 0, .int .u8 0, .int .u8 0, .int .u8 0, .int .u8 0, .int .u8 0, .int .u8 0, .int .u8 0, .int .u8 0, .int .u8 0, .int .u8 0, .int .u8 0, .int .u8 0, .int .u8 0, .int .u8 0, .int .u8 0, .int .u8 0, .int .u8 0, .int .u8 0, .int .u8 0, .int .u8 0, .int .u8 0, .int .u8 0, .int .u8 0, .int .u8 0, .int .u8 0]), some (.int .u64 0), some (.nilFunc), some (.nilFunc), some (.nilFunc), some (.nilFunc), some (.nilFunc), some (.nilFunc), some (.nilFunc), some (.nilFunc), some (.nilFunc), some (.agg #[.int .u8 0, .int .u8 0, .int .u8 0, .int .u8 0, .int .u8 0, .int .u8 0, .int .u8 0, .int .u8 0, .int .u8 0, .int .u8 0, .int .u8 0, .int .u8 0, .int .u8 0, .int .u8 0, .int .u8 0, .int .u8 0, .int .u8 0, .int .u8 0, .int .u8 0, .int .u8 0, .int .u8 0, .int .u8 0, .int .u8 0, .int .u8 0, .int .u8 0, .int .u8 0, .int .u8 0, .int .u8 0, .int .u8 0, .int .u8 0, .int .u8 0, .int .u8 0]), some (.agg #[.int .u8 0, .int .u8 0, .int .u8 0, .int .u8 0, .int .u8 0, .int .u8 0, .int .u8 0, .int .u8 0, .int .u8 0, .int .u8 0, .int .u8 0, .int .u8 0, .int .u8 0, .int .u8 0, .int .u8 0, .int .u8 0, .int .u8 0, .int .u8 0, .int .u8 0, .int .u8 0, .int .u8 0, .int .u8 0, .int .u8 0, .int .u8 0, .int .u8 0, .int .u8 0, .int .u8 0, .int .u8 0, .int .u8 0, .int .u8 0, .int .u8 0, .int .u8 0, .int .u8 0, .int .u8 0, .int .u8 0, .int .u8 0, .int .u8 0, .int .u8 0, .int .u8 0, .int .u8 0, .int .u8 0, .int .u8 0, .int .u8 0, .int .u8 0, .int .u8 0, .int .u8 0, .int .u8 0, .int .u8 0, .int .u8 0, .int .u8 0, .int .u8 0, .int .u8 0, .int .u8 0, .int .u8 0, .int .u8 0, .int .u8 0, .int .u8 0, .int .u8 0, .int .u8 0, .int .u8 0, .int .u8 0, .int .u8 0, .int .u8 0, .int .u8 0]), some (.nilFunc), some (.nilFunc), some (.agg #[.pointer none, .pointer none, .pointer none, .string ⟨#[]⟩]), some (.agg #[.pointer none, .pointer none, .pointer none, .string ⟨#[]⟩]), some (.agg #[]), some (.agg #[]), some (.agg #[]), some (.int .u8 0), some (.int .u8 0), some (.nilFunc), some (.int .i32 0), some (.int .i32 0), some (.agg #[.int .u64 0, .int .u64 0, .int .u32 0, .int .u8 0, .int .u8 0, .int .u8 0, .int .u8 0, .nilFunc, .pointer none, .int .i32 0, .int .i32 0]), some (.agg #[.int .u64 0, .int .u64 0, .int .u32 0, .int .u8 0, .int .u8 0, .int .u8 0, .int .u8 0, .nilFunc, .pointer none, .int .i32 0, .int .i32 0])]
def zeroOr (P : Program) (T : TypeId) : Option Value := match tyZ[T]? with | some (some _) => zeroOf P T | _ => none
theorem tyZ_eq : (List.range 229).map (zeroOr Tryz.prog) = tyZ := by kernel_rfl
theorem oT {T : Nat} {z : Value} (h : tyZ[T]? = some (some z)) : zeroOf Tryz.prog T = some z := by
 have := tab_get tyZ_eq h
 unfold zeroOr at this
 rw [h] at this
 exact this
def tyFv : List (Option (List (Nat × Option Bool))) := [none, none, none, none, none, none, none, some [(0, some false), (1, some false), (2, some false), (3, some false)], some [(0, some false), (1, some false), (2, some false), (3, some false)], none, none, none, none, some [(0, some false), (1, some false)], some [(0, some false), (1, some false)], none, none, none, some [(0, some false)], some [(0, some false)], none, none, none, none, none, none, none, some [(0, some false), (1, some false), (2, some false)], some [(0, some false), (1, some false), (2, some false)], none, none, none, some [(0, some false), (1, some false), (2, some false), (3, some false), (4, some false), (5, some false)], some [(0, some false), (1, some false), (2, some false), (3, some false), (4, some false), (5, some false)], none, none, none, none, none, none, some [(0, some false), (1, some false), (2, some false), (3, some false), (4, some false), (5, some false), (6, some false), (7, some false)], some [(0, some false), (1, some false), (2, some false), (3, some false), (4, some false), (5, some false), (6, some false), (7, some false)], none, none, none, none, none, none, some [(0, some false), (1, some false), (2, some false), (3, some false), (4, some false), (5, some false), (6, some false), (7, some false)], some [(0, some false), (1, some false), (2, some false), (3, some false), (4, some false), (5, some false), (6, some false), (7, some false)], none, none, none, none, none, none, none, some [(0, some false), (1, some false), (2, some false), (3, some false), (4, some false), (5, some false)], some [(0, some false), (1, some false), (2, some false), (3, some false), (4, some false), (5, some false)], none, some [(0, some false), (1, some false), (2, some false), (3, some false), (4, some false), (5, some false), (6, some false), (7, some true), (13, some false)], some [(0, some false), (1, some false), (2, some false), (3, some false), (4, some false), (5, some false), (6, some false), (7, some true), (13, some false)], none, none, none, none, some [(0, some false), (1, some false), (2, some false)], some [(0, some false), (1, some false), (2, some false)], none, none, some [(0, some false), (1, some false), (2, some false), (3, some false), (4, some false), (5, some false), (6, some false), (7, some false), (8, some false)], some [(0, some false), (1, some false), (2, some false), (3, some false), (4, some false), (5, some false), (6, some false), (7, some false), (8, some false)], some [(0, some false), (1, some false), (2, some false), (3, some false), (4, some false), (5, some false), (6, some false), (7, some false), (8, some false)], some [(0, some false), (1, some false), (2, some false), (3, some false), (4, some false), (5, some false), (6, some false), (7, some false), (8, some false)], none, none, none, none, none, none, none, none, none, none, none, none, none, none, none, none, none, none, none, none, none, none, none, some [(0, some false), (1, some false)], some [(0, some false), (1, some false)], some [(0, some false), (1, some false)], some [(0, some false), (1, some false)], none, some [(0, some false), (1, some false)], some [(0, some false), (1, some false)], none, none, none, none, none, none, none, none, none, none, none, none, none, none, none, none, none, none, none, none, none, none, none, none, none, none, none, none, none, none, none, none, none, some [(0, some false), (1, some false)], some [(0, some false), (1, some false)], none, none, none, none, none, none, none, none, none, none, none, none, none, none, none, none, none, none, none, none, none, none, none, none, none, none, none, none, none, none, none, none, none, none, none, none, none, none, none, none, none, none, none, none, none, none, none, none, none, none, none, none, none, none, none, none, none, none, none, none, none, none, none, none, none, none, none, none, none, none, none, none, none, none, none, none, none, none, some [(0, some false), (1, some false), (2, some false), (3, some false)], some [(0, some false), (1, some false), (2, some false), (3, some false)], none, some [(0, some true)], some [(0, some true)], none, none, none, none, none, some [(0, some false), (1, some false), (2, some false), (3, some false), (4, some false), (5, some false), (6, some false), (7, some false), (8, some false), (9, some false), (10, some false)], some [(0, some false), (1, some false), (2, some false), (3, some false), (4, some false), (5, some false), (6, some false), (7, some false), (8, some false), (9, some false), (10, some false)]]
def tyMp : List (Option (Nat × Nat)) := [none, none, none, none, none, none, none, none, none, none, none, none, none, none, none, none, none, none, none, none, none, none, none, none, none, none, none, none, none, none, none, none, none, none, none, none, none, none, none, none, none, none, none, none, none, none, none, none, none, none, none, none, none, none, none, none, none, none, none, none, none, none, none, none, none, some (3, 68), none, none, none, none, none, none, none, none, none, none, none, none, none, none, none, none, none, none, none, none, none, none, none, none, none, none, none, none, none, none, none, none, none, none, none, none, none, none, none, none, none, none, none, none, none, none, none, none, none, none, none, none, none, none, none, none, none, none, none, none, none, none, none, none, none, none, none, none, none, none, none, none, none, none, none, none, none, none, none, none, none, none, none, none, none, none, none, none, none, none, none, none, none, none, none, none, none, none, none, none, none, none, none, none, none, none, none, none, none, none, none, none, none, none, none, none, none, none, none, none, none, none, none, none, none, none, none, none, none, none, none, none, none, none, none, none, none, none, none, none, none, none, none, none, none, none, none, none, none, none, none, none, none, none, none, none, none, none, none, none, none, none, none]
def tySt : List (Bool) := [false, false, false, false, false, false, false, false, false, true, true, true, false, false, false, false, false, false, false, false, false, false, false, false, false, false, false, false, false, false, false, false, false, false, false, false, false, false, false, false, false, false, false, false, false, false, false, false, false, false, false, false, false, false, false, false, false, false, false, false, false, false, false, false, false, false, false, false, false, false, false, false, false, false, false, false, false, false, false, false, false, false, false, false, false, false, false, false, false, false, false, false, false, false, false, false, false, false, false, false, false, false, false, false, false, false, false, false, false, false, false, false, false, false, false, false, false, false, false, false, false, false, false, false, false, false, false, false, false, false, false, false, false, false, false, false, false, false, false, false, false, false, false, false, false, false, false, false, false, false, false, false, false, false, false, false, false, false, false, false, false, false, false, false, false, false, false, false, false, false, false, false, false, false, false, false, false, false, false, false, false, false, false, false, false, false, false, false, false, false, false, false, false, false, false, false, false, false, false, false, false, false, false, false, false, false, false, false, false, false, false, false, false, false, false, false, false, false, false, false, false, false, false, false, false, false, false, false, false]
def tyKi : List (Option IntKind) := [none, none, some .i64, some .i64, none, some .u8, some .u8, none, none, none, none, none, some .u64, none, none, none, none, none, none, none, none, some .i32, none, none, none, none, none, none, none, none, none, none, none, none, none, none, none, none, none, none, none, none, some .i64, none, none, none, none, none, none, none, none, none, none, none, none, none, none, none, none, none, none, none, none, none, none, none, none, none, none, none, none, none, none, none, none, none, none, none, none, none, none, none, none, none, none, none, none, none, none, none, none, none, none, none, none, none, none, none, none, none, none, none, none, none, none, none, none, none, none, none, none, none, none, none, none, none, none, none, none, none, none, none, none, none, none, none, none, none, none, none, none, none, none, none, none, none, none, none, none, none, none, none, none, none, none, none, none, none, none, none, none, none, none, none, none, none, none, none, none, none, none, none, none, none, none, none, none, none, none, none, none, none, none, none, none, none, none, none, none, none, none, none, none, some .u64, none, none, none, none, none, none, none, none, none, none, none, none, none, none, none, none, none, some .u32, none, some .u64, none, none, none, none, none, none, none, none, none, none, none, none, none, none, none, none, none, none, some .u8, some .u8, none, some .i32, some .i32, none, none]
def tyAr : List (Option (Nat × Nat)) := [none, none, none, none, none, none, none, none, none, none, none, none, none, none, none, none, none, none, none, none, none, none, none, none, none, none, none, none, none, none, none, none, none, none, none, none, none, none, none, none, none, none, none, none, none, none, none, none, none, none, none, none, none, none, none, none, none, none, none, none, none, none, none, none, none, none, none, none, none, none, none, none, none, none, none, none, none, none, none, none, none, none, none, none, none, none, none, none, none, none, none, none, none, none, none, none, none, none, none, none, none, none, none, none, none, none, none, none, none, none, none, none, none, none, none, none, none, none, none, none, none, none, none, none, none, none, none, none, none, none, none, none, none, none, none, none, none, none, none, none, none, none, none, none, none, none, none, none, none, none, none, none, none, none, none, none, none, none, none, none, none, none, none, none, none, none, none, none, none, none, none, none, none, none, none, none, none, none, none, none, none, none, some (24, 5), none, none, none, none, none, none, none, none, none, none, none, none, none, none, none, none, none, some (20, 183), none, some (65, 5), none, none, none, none, none, none, none, none, none, none, some (32, 5), some (64, 5), none, none, none, none, some (0, 16), none, none, none, none, none, none, none, none, none]
def tyArB (P : Program) (T : TypeId) : Option (Nat × Nat) := match P.underlying T with | some (.array m e) => some (m, e) | _ => none
def tyStB (P : Program) (T : TypeId) : Bool := match P.underlying T with | some .string => true | _ => false
def tyKiB (P : Program) (T : TypeId) : Option IntKind := match P.underlying T with | some (.int k) => some k | _ => none
theorem tyMp_eq : (List.range 229).map (mapOf Tryz.prog) = tyMp := by kernel_rfl
theorem tySt_eq : (List.range 229).map (tyStB Tryz.prog) = tySt := by kernel_rfl
theorem tyKi_eq : (List.range 229).map (tyKiB Tryz.prog) = tyKi := by kernel_rfl
theorem mT {T : Nat} {p : Nat × Nat} (h : tyMp[T]? = some (some p)) : mapOf Tryz.prog T = some p := tab_get tyMp_eq h
theorem sT {T : Nat} (h : tySt[T]? = some true) : (Tryz.prog).underlying T = some .string := by
 have := tab_get tySt_eq h
 unfold tyStB at this
 split at this
 ·assumption
 ·cases this
theorem iT {T : Nat} {k : IntKind} (h : tyKi[T]? = some (some k)) : (Tryz.prog).underlying T = some (.int k) := by
 have := tab_get tyKi_eq h
 unfold tyKiB at this
 split at this
 ·injection this with this;subst this;assumption
 ·cases this
def fnBody (P : Program) (f : Nat) : Bool := callable P f
theorem mixed : Tryz.prog.follows .mixedOrders = true := by kernel_rfl
end Go.Proofs.YtgklceoodpocaaaGreatDoor
namespace Go.Proofs.YtgklceoodpocaaaGreatDoor
def ksTab : List (Nat × List SK) := [(32, [.int .i64, .int .i64, .int .i64, .int .i64, .str, .str]), (33, [.int .i64, .int .i64, .int .i64, .int .i64, .str, .str]), (57, [.int .i64, .int .i64, .int .i64, .int .i64, .bool, .bool]), (58, [.int .i64, .int .i64, .int .i64, .int .i64, .bool, .bool]), (97, [.str, .str]), (98, [.str, .str]), (99, [.str, .int .i64]), (100, [.str, .int .i64]), (102, [.str, .str]), (103, [.str, .int .i64])]
def ksOf (T : Nat) : Option (List SK) := (ksTab.find? (fun p => Nat.beq p.1 T)).map (·.2)
theorem ks_all : ksTab.map (fun p => (flatT Tryz.prog 6 p.1, Tryz.prog.eqGuardType Tryz.prog.depth p.1)) = ksTab.map (fun p => (some p.2, false)) := by kernel_rfl
theorem ks_find {T : Nat} {ks : List SK} (h : ksOf T = some ks) : flatT Tryz.prog 6 T = some ks ∧ Tryz.prog.eqGuardType Tryz.prog.depth T = false := by
 unfold ksOf at h
 simp only [Option.map_eq_some_iff] at h
 obtain ⟨p, hp, rfl⟩ := h
 have hmem := List.mem_of_find?_eq_some hp
 have hb := List.find?_some hp
 have hT : p.1 = T := Nat.eq_of_beq_eq_true hb
 obtain ⟨i, hi⟩ := List.getElem?_of_mem hmem
 have := congrArg (·[i]?) ks_all
 simp only [List.getElem?_map, hi, Option.map_some, Option.some.injEq, Prod.mk.injEq] at this
 rw [← hT]
 exact this
theorem kT {T : Nat} {ks : List SK} (h : ksOf T = some ks) : flatT Tryz.prog 6 T = some ks := (ks_find h).1
theorem gT {T : Nat} {ks : List SK} (h : ksOf T = some ks) : Tryz.prog.eqGuardType Tryz.prog.depth T = false := (ks_find h).2
end Go.Proofs.YtgklceoodpocaaaGreatDoor
