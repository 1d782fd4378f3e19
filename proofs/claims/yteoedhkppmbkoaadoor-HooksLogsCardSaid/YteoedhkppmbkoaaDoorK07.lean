/- Steps that part the cases themselves; elements by their places; one round of a loop. What the library's own contracts write, in these texts' words. What the types of this translation say: tables, each checked by the kernel. Printed by a program of the prover's (gen_ty.py). The cells of this translation's plain types, kind by kind: a table that the kernel checks. Printed by a program of the prover's (gen_ty2.py). -/
import Derived.Test.YteoedhkppmbkoaaDoorK06
import Derived.Tactics
import Derived.Laws.IdiomCopy
import Derived.Deep.Draws
import Derived.Test.YteoedhkppmbkoaaDoorK01
import Derived.Test.YteoedhkppmbkoaaDoorRows
import Derived.Test.YteoedhkppmbkoaaDoorK04
namespace Go.Proofs.YteoedhkppmbkoaaDoor
variable {df : List Deferred}
variable {rr : Option Nat}
open Go.RowKit

section
variable {P : Program} {Q : Exit → Act → World → Prop} {a : Act} {w w' : World} {w0 : Bs} {n : Nat} {l : List (Nat × Value)} {L L' : List HP}
  {dst : Option Nat} {R : Value → World → Prop} {ty : TypeId} {pos : String} {af : Array Edge} {g : Option (Nat × Bool)}

theorem sp_lss {x y : Operand} {t t' : TypeId} {k : IntKind} {p q : Int} (hk : Kn df n a l) (ht : p < q → R (.bool true) w) (hf : ¬ p < q → R (.bool false) w)
    (hx : ev l x = some (.int k p) := by rfl) (hy : ev l y = some (.int k q) := by rfl) : Gives P ⟨dst, .binOp .lss t x y t', ty, pos, af, g⟩ a w R := by
  by_cases h : p < q
  · exact g_lss hk (by rw [decide_eq_true h]; exact ht h) hx hy
  · exact g_lss hk (by rw [decide_eq_false h]; exact hf h) hx hy
theorem sp_gtr {x y : Operand} {t t' : TypeId} {k : IntKind} {p q : Int} (hk : Kn df n a l) (ht : q < p → R (.bool true) w) (hf : ¬ q < p → R (.bool false) w)
    (hx : ev l x = some (.int k p) := by rfl) (hy : ev l y = some (.int k q) := by rfl) : Gives P ⟨dst, .binOp .gtr t x y t', ty, pos, af, g⟩ a w R := by
  by_cases h : q < p
  · exact g_gtr hk (by rw [decide_eq_true h]; exact ht h) hx hy
  · exact g_gtr hk (by rw [decide_eq_false h]; exact hf h) hx hy
theorem sp_geq {x y : Operand} {t t' : TypeId} {k : IntKind} {p q : Int} (hk : Kn df n a l) (ht : q ≤ p → R (.bool true) w) (hf : ¬ q ≤ p → R (.bool false) w)
    (hx : ev l x = some (.int k p) := by rfl) (hy : ev l y = some (.int k q) := by rfl) : Gives P ⟨dst, .binOp .geq t x y t', ty, pos, af, g⟩ a w R := by
  by_cases h : q ≤ p
  · exact g_geq hk (by rw [decide_eq_true h]; exact ht h) hx hy
  · exact g_geq hk (by rw [decide_eq_false h]; exact hf h) hx hy
theorem sp_eqi {x y : Operand} {t t' : TypeId} {k : IntKind} {p q : Int} (hk : Kn df n a l) (ht : p = q → R (.bool true) w) (hf : ¬ p = q → R (.bool false) w)
    (hx : ev l x = some (.int k p) := by rfl) (hy : ev l y = some (.int k q) := by rfl) : Gives P ⟨dst, .binOp .eql t x y t', ty, pos, af, g⟩ a w R := by
  by_cases h : p = q
  · exact g_eqi hk (by rw [decide_eq_true h]; exact ht h) hx hy
  · exact g_eqi hk (by rw [decide_eq_false h]; exact hf h) hx hy
theorem sp_eqS {x y : Operand} {t t' : TypeId} {s r : ByteArray} (hk : Kn df n a l) (ht : s = r → R (.bool true) w) (hf : ¬ s = r → R (.bool false) w)
    (hx : ev l x = some (.string s) := by rfl) (hy : ev l y = some (.string r) := by rfl) : Gives P ⟨dst, .binOp .eql t x y t', ty, pos, af, g⟩ a w R := by
  by_cases h : s = r
  · exact g_eqS hk (by rw [decide_eq_true h]; exact ht h) hx hy
  · exact g_eqS hk (by rw [decide_eq_false h]; exact hf h) hx hy
theorem sp_eqs {x y : Operand} {t t' : TypeId} {ks : List SK} {us vs : List Value} (hk : Kn df n a l) (ht : eqC us vs = true → R (.bool true) w) (hf : eqC us vs = false → R (.bool false) w)
    (hT : flatT P 6 t = some ks) (ha : aggOf P t = some true) (hg : P.eqGuardType P.depth t = false)
    (hx : ev l x = some (.agg us.toArray) := by rfl) (hy : ev l y = some (.agg vs.toArray) := by rfl) (h1 : shp ks us = true := by rfl) (h2 : shp ks vs = true := by rfl) : Gives P ⟨dst, .binOp .eql t x y t', ty, pos, af, g⟩ a w R := by
  cases h : eqC us vs with
  | true => exact g_eqs hk (by rw [h]; exact ht h) hT ha hg hx hy h1 h2
  | false => exact g_eqs hk (by rw [h]; exact hf h) hT ha hg hx hy h1 h2
variable {os : List Oper} {i : Nat} {o : Oper} {r : List Oper} {acc : List (Nat × Nat × HV)} {HR : List (Nat × ((Nat → Value) → Value → HP))} {FinE : List (Nat × Nat × HV) → List (Nat × ((Nat → Value) → Value → HP)) → List HP → Prop} {TK : List HP}

variable {α : Type} [Enc α]
theorem g_la1 {x : Operand} {T : TypeId} {v : Value} {i : Nat} {xs : List α} {u : Value} (hk : Kn df n a l) (h : R u w) (hT : aggOf P T = some false)
    (hx : ev l x = some (.pointer (some ⟨blk v, offs v + i * (Enc.k α + 1), none⟩)) := by rfl) (hs : SlT xs v w) (hi : i < xs.length) (hu : Enc.f xs[i] = [u] := by rfl) :
    Gives P ⟨dst, .load T x, ty, pos, af, g⟩ a w R := g_ldT1 hk h hT hx hs (List.getElem?_eq_getElem hi) hu
theorem g_bs1I {T E : Nat} {q : List (Nat × Operand)} {z : Value} {m : Int} (hk : Kn df n a l) (hS : St w0 L w) (h : ∀ w' v, St w0 (OwT E [m] v :: L) w' → R v w')
    (hp : evP l q = some [(0, .int .i64 m)] := by rfl) (hT : elOf P T = some E) (hE : szOf P E = some 1) (hz : zeroOf P E = some z) :
    Gives P ⟨dst, .buildSlice T 1 q.toArray, ty, pos, af, g⟩ a w R := by
  have hE' : szOf P E = some (Enc.k Int + 1) := hE
  refine g_bsT (xs := [m]) (m := 0) hk hS h hp hT hE' hz ?_ rfl
  simp [bldP, enc, Enc.f, Enc.k, Value.cells, zerosL, splice]; rfl
theorem g_app1 {α : Type} [Enc α] {x y : Operand} {t tx : TypeId} {E E' : Nat} {v y0 z : Value} {xs : List α} {e : α} {L'' : List HP} (hk : Kn df n a l) (hS : St w0 L w)
    (h : ∀ w' v', St w0 (OwT E (xs ++ [e]) v' :: L'') w' → R v' w')
    (hx : ev l x = some v := by rfl) (hy : ev l y = some y0 := by rfl)
    (hat : At (OwT E xs v) L L' := by (repeat (first | exact At.here | apply At.there)))
    (hT : elOf P t = some E) (hTx : elOf P tx = some E')
    (hat2 : At (OwT E' [e] y0) L' L'' := by (repeat (first | exact At.here | apply At.there)))
    (hE : szOf P E = some (Enc.k α + 1)) (hz : zeroOf P E = some z) (hzs : z.cells.size = Enc.k α + 1) {by_ : Nat} (hby : ((P.info? E).map (·.bytes)).getD 0 = by_) (hbytes : (xs.length + 1) * by_ ≤ 140737488355328) (h63 : xs.length + 1 ≤ 9223372036854775807) :
    Gives P ⟨dst, .call { callee := .builtin .append, args := #[x, y], argTypes := #[t, tx] }, ty, pos, af, g⟩ a w R :=
  g_appD hk hS h hx hy hat hT hTx hat2 hE hz hzs hby (by simpa using hbytes) (by simpa [maxLen] using h63)
theorem g_var1 {x : Operand} {T : TypeId} {b o : Nat} {vs : List Value} {T' : TypeId} {v : Value} (hk : Kn df n a l) (h : R v w) (hT : aggOf P T = some false)
    (hx : ev l x = some (.pointer (some ⟨b, o, none⟩)) := by rfl) (hb : (pts b vs T').rd w) (hv : vs[o]? = some v := by rfl) : Gives P ⟨dst, .load T x, ty, pos, af, g⟩ a w R :=
  g_load1 hk h hT (by rw [cell_of_row w b o _ T' _ (pts.block hb)]; simpa using hv) hx
theorem g_bs0 (α : Type) [Enc α] {T E k : Nat} (hS : St w0 L w) (h : ∀ w' v, St w0 (OwT E ([] : List α) v :: L) w' → R v w') (hT : elOf P T = some E) (hE : szOf P E = some k) :
    Gives P ⟨dst, .buildSlice T 0 #[], ty, pos, af, g⟩ a w R := by
  refine givesv (v := .slice (some ⟨w.heap.size, 0, none⟩) 0 0) (w' := w.alloc (.cells #[] E)) ?_ (h _ _ ?_)
  · simp only [execOp, Instr.buildSlice, Sem.run_bind, run_underlying (elOf_und hT), Result.andThen_ok, szOf_run hE]
    have e : (Array.map (fun (_ : Nat) => (default : Value)) (Array.range 0)) = #[] := Array.eq_empty_of_size_eq_zero (by simp)
    simp [Instr.fill, newRow, e]
  · have := (hS.alloc [] E).ptsOwn At.here (k := Enc.k α + 1) (n := 0) (by simp) (by simp [maxLen])
    unfold OwT
    exact this
theorem g_ixArr {x y : Operand} {t : TypeId} {m e b o k : Nat} {i : Int} {kk : IntKind} (hk : Kn df n a l) (h : R (.pointer (some ⟨b, o + i.toNat * k, none⟩)) w)
    (hx : ev l x = some (.pointer (some ⟨b, o, none⟩)) := by rfl) (hy : ev l y = some (.int kk i) := by rfl) (ht : P.underlying t = some (.array m e)) (he : szOf P e = some k) (h0 : 0 ≤ i) (h1 : i < m) :
    Gives P ⟨dst, .indexAddr t x y, ty, pos, af, g⟩ a w R := by
  refine givesv (v := .pointer (some ⟨b, o + i.toNat * k, none⟩)) ?_ h
  simp [execOp, hk.eval hx, hk.eval hy, Instr.indexAt, run_underlying ht, asIntOf, Instr.sureAddr, h0, h1, szOf_run he, addr_add]
end

theorem shp_join : ∀ {k1 k2 : List SK} {us vs : List Value}, shp k1 us = true → shp k2 vs = true → shp (k1 ++ k2) (us ++ vs) = true
  | [], _, [], _, _, h => by simpa using h
  | [], _, _ :: _, _, h, _ => by simp [shp] at h
  | .int k :: ks, _, [], _, h, _ => by simp [shp] at h
  | .bool :: ks, _, [], _, h, _ => by simp [shp] at h
  | .str :: ks, _, [], _, h, _ => by simp [shp] at h
  | .int k :: ks, _, u :: us, vs, h, h2 => by
    cases u <;> simp [shp] at h
    simp [shp, h.1, shp_join h.2 h2]
  | .bool :: ks, _, u :: us, vs, h, h2 => by
    cases u <;> simp [shp] at h
    simp [shp, shp_join h h2]
  | .str :: ks, _, u :: us, vs, h, h2 => by
    cases u <;> simp [shp] at h
    simp [shp, shp_join h h2]

class EncI (α : Type) [Enc α] where
  ks : List SK
  kl : ks.length = Enc.k α + 1
  sh : ∀ x : α, shp ks (Enc.f x) = true
  inj : ∀ {x y : α}, Enc.f x = Enc.f y → x = y
  sur : ∀ us, shp ks us = true → ∃ x : α, Enc.f x = us
instance : EncI Int := ⟨[.int .i64], rfl, fun _ => rfl, fun h => by simpa [Enc.f] using h, fun us h => by obtain ⟨p, rfl⟩ := shp_int h; exact ⟨p, rfl⟩⟩
instance : EncI ByteArray := ⟨[.str], rfl, fun _ => rfl, fun h => by simpa [Enc.f] using h, fun us h => by obtain ⟨p, rfl⟩ := shp_str h; exact ⟨p, rfl⟩⟩
instance : EncI Bool := ⟨[.bool], rfl, fun _ => rfl, fun h => by simpa [Enc.f] using h, fun us h => by obtain ⟨p, rfl⟩ := shp_bool h; exact ⟨p, rfl⟩⟩
instance {α β : Type} [Enc α] [Enc β] [EncI α] [EncI β] : EncI (α × β) := ⟨EncI.ks α ++ EncI.ks β, by rw [List.length_append, EncI.kl, EncI.kl]; show _ = Enc.k α + Enc.k β + 1 + 1; omega, fun x => shp_join (EncI.sh x.1) (EncI.sh x.2), fun {x y} h => by
  have h := List.append_inj h (by rw [Enc.len, Enc.len])
  exact Prod.ext (EncI.inj h.1) (EncI.inj h.2), fun us h => by
  obtain ⟨h1, h2⟩ := shp_app h
  obtain ⟨x, hx⟩ := EncI.sur _ h1
  obtain ⟨y, hy⟩ := EncI.sur _ h2
  exact ⟨(x, y), by show Enc.f x ++ Enc.f y = us; rw [hx, hy, List.take_append_drop]⟩⟩
inductive ResV (P : Program) (l : List (Nat × Value)) (w : World) : ResultVar → Value → Prop
  | tmp {t : Nat} {v : Value} (h : lk l t = some v) : ResV P l w (.tmp t) v
  | cell {t T b o : Nat} {v : Value} (h : lk l t = some (.pointer (some ⟨b, o, none⟩))) (hv : (Instr.loadAt T (.pointer (some ⟨b, o, none⟩))).run P w = .ok v w) : ResV P l w (.cell t T) v

section
variable {P : Program} {a : Act} {w : World} {w0 : Bs} {n : Nat} {l : List (Nat × Value)} {L L' : List HP} {fn : Func} {R : Value → World → Prop}

def rvOf (tmps : Array Value) : ResultVar → Sem Value
  | .tmp t => pure (tmps.getD t undef)
  | .cell x t => do loadVar t (← asAddr (tmps.getD x undef))
end
end Go.Proofs.YteoedhkppmbkoaaDoor
namespace Go.Proofs.YteoedhkppmbkoaaDoor
variable {df : List Deferred}
open Go.RowKit

section
variable {α : Type} [Enc α]
end

section
variable {P : Program} {a : Act} {w : World} {w0 : Bs} {n : Nat} {l : List (Nat × Value)} {L L' : List HP}
  {dst : Option Nat} {R : Value → World → Prop} {ty : TypeId} {pos : String} {af : Array Edge} {g : Option (Nat × Bool)}
end
end Go.Proofs.YteoedhkppmbkoaaDoor
namespace Go.Proofs.YteoedhkppmbkoaaDoor
set_option maxRecDepth 100000
def tyAgg : List (Option Bool) := [some false, some false, some false, some false, some false, some false, some false, some true, some true, some false, some false, some false, some false, some true, some true, some false, some false, some false, some true, some true, some false, some false, some false, some false, some false, some false, some false, some false, some false, some false, some true, some false, some false, some false, some false, some false, some true, some true, some true, some false, some false, some false, some false, some false, some false, some false, some false, some false, some false, some false, some true, some true, some false, some false, some false, some false, some false, some false, some false, some false, some false, some false, some false, some false, some false, some false, some false, some false, some false, some false, some false, some false, some false, some false, some false, some false, some false, some false, some false, some false, some false, some false, some false, some true, some true, some true, some true, some true, some false, some false, some true, some true, some false, some true, some false, some true, some true, some false, some false, some true, some true, some false, some false, some false, some false, some true, some false, some true, some true, some false, some false, some false, some false, some false, some false, some false, some false, some false, some false, some false, some false, some false, some false, some false, some false, some false, some false, some false, some false, some false, some false, some false, some false, some false, some false, some false, some false, some false, some false, some false, some true, some false, some false, some false, some false, some false, some false, some false, some false, some false, some true, some false, some true, some false, some false, some false, some false, some false, some false, some true, some true, some true, some true, some true, some true, some true, some false, some false, some false, some false, some false, some false, some true, some true]
def tySz : List (Option Nat) := [some 1, some 1, some 1, some 1, some 1, some 1, some 1, some 4, some 4, some 1, some 1, some 1, some 1, some 2, some 2, some 1, some 1, some 1, some 1, some 1, some 1, some 1, some 1, some 1, some 1, some 1, some 1, some 1, some 1, some 1, some 9, some 1, some 1, some 1, some 1, some 1, some 4, some 4, some 4, some 1, some 1, some 1, some 1, some 1, some 1, some 1, some 1, some 1, some 1, some 1, some 2, some 2, some 1, some 1, some 1, some 1, some 1, some 1, some 1, some 1, some 1, some 1, some 1, some 1, some 1, some 1, some 1, some 1, some 1, some 1, some 1, some 1, some 1, some 1, some 1, some 1, some 1, some 1, some 1, some 1, some 1, some 1, some 1, some 3, some 3, some 3, some 3, some 3, some 1, some 1, some 2, some 2, some 1, some 8, some 1, some 2, some 2, some 1, some 1, some 2, some 2, some 1, some 1, some 1, some 1, some 2, some 1, some 2, some 2, some 1, some 1, some 1, some 1, some 1, some 1, some 1, some 1, some 1, some 1, some 1, some 1, some 1, some 1, some 1, some 1, some 1, some 1, some 1, some 1, some 1, some 1, some 1, some 1, some 1, some 1, some 1, some 1, some 1, some 1, some 1, some 24, some 1, some 1, some 1, some 1, some 1, some 1, some 1, some 1, some 1, some 20, some 1, some 65, some 1, some 1, some 1, some 1, some 1, some 1, some 32, some 64, some 4, some 4, some 0, some 0, some 0, some 1, some 1, some 1, some 1, some 1, some 1, some 11, some 11]
def tyBy : List (Nat) := [0, 8, 8, 8, 1, 1, 1, 24, 24, 16, 16, 16, 8, 24, 24, 8, 8, 8, 8, 8, 16, 4, 8, 8, 8, 8, 24, 8, 8, 8, 72, 24, 24, 24, 0, 8, 40, 40, 40, 8, 8, 8, 8, 8, 8, 8, 8, 24, 8, 8, 24, 24, 24, 24, 8, 8, 24, 24, 8, 8, 8, 8, 0, 8, 8, 0, 8, 8, 8, 8, 8, 8, 8, 8, 8, 8, 8, 24, 8, 24, 8, 24, 8, 32, 32, 32, 40, 40, 8, 8, 16, 16, 24, 128, 8, 24, 24, 8, 24, 32, 32, 16, 16, 0, 8, 24, 8, 32, 32, 8, 8, 8, 8, 8, 8, 8, 8, 8, 8, 24, 8, 8, 8, 8, 8, 8, 8, 8, 8, 8, 8, 8, 8, 8, 8, 8, 8, 8, 8, 8, 24, 8, 8, 8, 0, 8, 8, 8, 8, 8, 160, 4, 65, 8, 8, 8, 8, 8, 8, 32, 64, 40, 40, 0, 0, 0, 8, 1, 1, 8, 4, 4, 48, 48]
def tyEl : List (Option Nat) := [none, none, none, none, none, none, none, none, none, none, none, none, none, none, none, none, none, none, none, none, none, none, none, none, none, none, some 3, none, none, none, none, some 37, some 38, some 38, none, none, none, none, none, none, none, none, none, none, none, none, none, some 51, none, none, none, none, some 105, some 105, none, none, some 108, some 108, none, none, none, none, none, none, none, none, none, none, none, none, none, none, none, none, none, none, none, some 85, none, some 87, none, some 84, none, none, none, none, none, none, none, none, none, none, some 26, none, none, none, none, none, some 5, none, none, none, none, none, none, none, none, none, none, none, none, none, none, none, none, none, none, none, none, some 9, none, none, none, none, none, none, none, none, none, none, none, none, none, none, none, none, none, none, none, none, none, none, none, none, none, none, none, none, none, none, none, none, none, none, none, none, none, none, none, none, none, none, none, none, none, none, none, none, none, none, none, none, none, none]
def tyFl : List (Option (List (Nat × Nat))) := [none, none, none, none, none, none, none, some [(0, 1), (1, 1), (2, 1), (3, 1)], some [(0, 1), (1, 1), (2, 1), (3, 1)], none, none, none, none, some [(0, 1), (1, 1)], some [(0, 1), (1, 1)], none, none, none, some [(0, 1)], some [(0, 1)], none, none, none, none, none, none, none, none, none, none, none, none, none, none, none, none, some [(0, 1), (1, 1), (2, 1), (3, 1)], some [(0, 1), (1, 1), (2, 1), (3, 1)], some [(0, 1), (1, 1), (2, 1), (3, 1)], none, none, none, none, none, none, none, none, none, none, none, some [(0, 1), (1, 1)], some [(0, 1), (1, 1)], none, none, none, none, none, none, none, none, none, none, none, none, none, none, none, none, none, none, none, none, none, none, none, none, none, none, none, none, none, none, none, some [(0, 1), (1, 1), (2, 1)], some [(0, 1), (1, 1), (2, 1)], some [(0, 1), (1, 1), (2, 1)], some [(0, 1), (1, 1), (2, 1)], some [(0, 1), (1, 1), (2, 1)], none, none, some [(0, 1), (1, 1)], some [(0, 1), (1, 1)], none, none, none, some [(0, 1), (1, 1)], some [(0, 1), (1, 1)], none, none, some [(0, 1), (1, 1)], some [(0, 1), (1, 1)], none, none, none, none, some [(0, 1), (1, 1)], none, some [(0, 1), (1, 1)], some [(0, 1), (1, 1)], none, none, none, none, none, none, none, none, none, none, none, none, none, none, none, none, none, none, none, none, none, none, none, none, none, none, none, none, none, none, none, none, none, none, none, none, none, none, none, none, none, none, none, none, none, none, none, none, none, none, none, none, some [(0, 1), (1, 1), (2, 1), (3, 1)], some [(0, 1), (1, 1), (2, 1), (3, 1)], none, some [(0, 0)], some [(0, 0)], none, none, none, none, none, none, some [(0, 1), (1, 1), (2, 1), (3, 1), (4, 1), (5, 1), (6, 1), (7, 1), (8, 1), (9, 1), (10, 1)], some [(0, 1), (1, 1), (2, 1), (3, 1), (4, 1), (5, 1), (6, 1), (7, 1), (8, 1), (9, 1), (10, 1)]]
def byOf (P : Program) (T : TypeId) : Nat := ((P.info? T).map (·.bytes)).getD 0
theorem mapM_get {P : Program} : ∀ {fs : List Field} {pl : List (Nat × Nat)} {f : Nat} {p : Nat × Nat}, fs.mapM (fun x => (szOf P x.type).map (x.offset, ·)) = some pl → pl[f]? = some p → ∃ x, fs[f]? = some x ∧ p = (x.offset, (szOf P x.type).getD 0)
  | [], pl, f, p, h, hp => by simp at h; subst h; simp at hp
  | x :: fs, pl, f, p, h, hp => by
    simp only [List.mapM_cons, Option.bind_eq_bind, Option.bind_eq_some_iff] at h
    obtain ⟨q, hq, qs, hqs, hpl⟩ := h
    simp only [Option.map_eq_some_iff] at hq
    obtain ⟨k, hk, rfl⟩ := hq
    simp at hpl
    subst hpl
    cases f with
    | zero => simp at hp; exact ⟨x, by simp, by simp [← hp, hk]⟩
    | succ f =>
      obtain ⟨y, hy, hpy⟩ := mapM_get hqs (by simpa using hp)
      exact ⟨y, by simpa using hy, hpy⟩
theorem fldOf_flds {P : Program} {T f : Nat} {pl : List (Nat × Nat)} {p : Nat × Nat} (h : fldsO P T = some pl) (hp : pl[f]? = some p) : fldOf P T f = some p := by
  unfold fldsO at h
  unfold fldOf
  cases hu : P.underlying T with
  | none => rw [hu] at h; simp at h
  | some d =>
    rw [hu] at h
    cases d <;> simp only [reduceCtorEq] at h
    case struct fs =>
      obtain ⟨x, hx, hpx⟩ := mapM_get h hp
      have hx' : fs[f]? = some x := by simpa using hx
      simp only [hx', hpx]
theorem tyAgg_eq : (List.range 174).map (aggOf Tryd.prog) = tyAgg := by kernel_rfl
theorem tySz_eq : (List.range 174).map (szOf Tryd.prog) = tySz := by kernel_rfl
theorem tyBy_eq : (List.range 174).map (byOf Tryd.prog) = tyBy := by kernel_rfl
theorem tyEl_eq : (List.range 174).map (elOf Tryd.prog) = tyEl := by kernel_rfl
theorem tyFl_eq : (List.range 174).map (fldsO Tryd.prog) = tyFl := by kernel_rfl
theorem tab_get {α : Type} {n : Nat} {f : Nat → α} {l : List α} (h : (List.range n).map f = l) {T : Nat} {x : α} (hx : l[T]? = some x) : f T = x := by
  subst h
  simp only [List.getElem?_map, Option.map_eq_some_iff] at hx
  obtain ⟨y, hy, rfl⟩ := hx
  rw [List.getElem?_range] at hy
  · injection hy with hy; rw [hy]
  · rcases Nat.lt_or_ge T n with h | h
    · exact h
    · rw [List.getElem?_eq_none (by simpa using h)] at hy; cases hy
theorem aT {T : Nat} {b : Bool} (h : tyAgg[T]? = some (some b)) : aggOf Tryd.prog T = some b := tab_get tyAgg_eq h
theorem zT {T k : Nat} (h : tySz[T]? = some (some k)) : szOf Tryd.prog T = some k := tab_get tySz_eq h
theorem bT {T k : Nat} (h : tyBy[T]? = some k) : byOf Tryd.prog T = k := tab_get tyBy_eq h
theorem eT {T k : Nat} (h : tyEl[T]? = some (some k)) : elOf Tryd.prog T = some k := tab_get tyEl_eq h
theorem fsT {T : Nat} {pl : List (Nat × Nat)} (h : tyFl[T]? = some (some pl)) : fldsO Tryd.prog T = some pl := tab_get tyFl_eq h
theorem fT {T f : Nat} {p : Nat × Nat} (h : (tyFl[T]?).bind (fun x => x.bind (·[f]?)) = some p) : fldOf Tryd.prog T f = some p := by
  cases hl : tyFl[T]? with
  | none => rw [hl] at h; simp at h
  | some l =>
    rw [hl] at h
    cases l with
    | none => simp at h
    | some pl => exact fldOf_flds (tab_get tyFl_eq hl) (by simpa using h)
def tyZ : List (Option Value) := [some (.tuple #[]), some (.nilFunc), some (.int .i64 0), some (.int .i64 0), some (.bool false), some (.int .u8 0), some (.int .u8 0), some (.agg #[.int .i64 0, .int .i64 0, .bool false, .int .u8 0]), some (.agg #[.int .i64 0, .int .i64 0, .bool false, .int .u8 0]), some (.string ⟨#[]⟩), some (.string ⟨#[]⟩), some (.string ⟨#[]⟩), some (.int .u64 0), some (.agg #[.string ⟨#[]⟩, .int .u64 0]), some (.agg #[.string ⟨#[]⟩, .int .u64 0]), some (.pointer none), some (.pointer none), some (.pointer none), some (.agg #[.pointer none]), some (.agg #[.pointer none]), some (.nilIface), some (.int .i32 0), some (.nilFunc), some (.nilFunc), some (.nilFunc), some (.nilFunc), some (.slice none 0 0), some (.nilFunc), some (.nilFunc), some (.nilFunc), some (.agg #[.int .i64 0, .int .i64 0, .int .i64 0, .int .i64 0, .int .i64 0, .int .i64 0, .int .i64 0, .int .i64 0, .int .i64 0]), some (.slice none 0 0), some (.slice none 0 0), some (.slice none 0 0), some (.tuple #[.slice none 0 0, .slice none 0 0]), some (.nilFunc), some (.agg #[.int .i64 0, .int .i64 0, .int .i64 0, .string ⟨#[]⟩]), some (.agg #[.int .i64 0, .int .i64 0, .int .i64 0, .string ⟨#[]⟩]), some (.agg #[.int .i64 0, .int .i64 0, .int .i64 0, .string ⟨#[]⟩]), some (.nilFunc), some (.nilFunc), some (.nilFunc), some (.nilFunc), some (.nilFunc), some (.nilFunc), some (.nilFunc), some (.nilFunc), some (.slice none 0 0), some (.nilFunc), some (.nilFunc), some (.agg #[.string ⟨#[]⟩, .int .i64 0]), some (.agg #[.string ⟨#[]⟩, .int .i64 0]), some (.slice none 0 0), some (.slice none 0 0), some (.nilFunc), some (.nilFunc), some (.slice none 0 0), some (.slice none 0 0), some (.nilFunc), some (.nilFunc), some (.nilFunc), some (.nilFunc), some (.tuple #[.int .i64 0, .bool false]), some (.nilFunc), some (.nilFunc), some (.tuple #[.string ⟨#[]⟩, .bool false]), some (.nilFunc), some (.nilFunc), some (.nilFunc), some (.nilFunc), some (.nilFunc), some (.nilFunc), some (.nilFunc), some (.nilFunc), some (.nilFunc), some (.nilFunc), some (.nilFunc), some (.slice none 0 0), some (.nilFunc), some (.slice none 0 0), some (.nilFunc), some (.slice none 0 0), some (.nilFunc), some (.agg #[.bool false, .string ⟨#[]⟩, .int .i64 0]), some (.agg #[.bool false, .string ⟨#[]⟩, .int .i64 0]), some (.agg #[.bool false, .string ⟨#[]⟩, .int .i64 0]), some (.agg #[.bool false, .string ⟨#[]⟩, .string ⟨#[]⟩]), some (.agg #[.bool false, .string ⟨#[]⟩, .string ⟨#[]⟩]), some (.nilFunc), some (.nilFunc), some (.agg #[.int .i64 0, .int .i64 0]), some (.agg #[.int .i64 0, .int .i64 0]), some (.slice none 0 0), some (.agg #[.string ⟨#[]⟩, .string ⟨#[]⟩, .string ⟨#[]⟩, .string ⟨#[]⟩, .string ⟨#[]⟩, .string ⟨#[]⟩, .string ⟨#[]⟩, .string ⟨#[]⟩]), some (.map none), some (.agg #[.int .i64 0, .string ⟨#[]⟩]), some (.agg #[.int .i64 0, .string ⟨#[]⟩]), some (.pointer none), some (.slice none 0 0), some (.agg #[.pointer none, .slice none 0 0]), some (.agg #[.pointer none, .slice none 0 0]), some (.nilIface), some (.nilIface), some (.tuple #[.int .i64 0, .nilIface]), some (.nilFunc), some (.agg #[.string ⟨#[]⟩, .int .i64 0]), some (.nilFunc), some (.agg #[.string ⟨#[]⟩, .string ⟨#[]⟩]), some (.agg #[.string ⟨#[]⟩, .string ⟨#[]⟩]), some (.nilFunc), some (.nilFunc), some (.nilFunc), some (.nilFunc), some (.nilFunc), some (.nilFunc), some (.nilFunc), some (.nilFunc), some (.nilFunc), some (.nilFunc), some (.slice none 0 0), some (.pointer none), some (.nilFunc), some (.nilFunc), some (.nilFunc), some (.nilFunc), some (.nilFunc), some (.nilFunc), some (.nilFunc), some (.nilFunc), some (.nilFunc), some (.nilFunc), some (.pointer none), some (.nilFunc), some (.nilFunc), some (.nilFunc), some (.nilFunc), some (.int .u64 0), some (.nilFunc), some (.nilFunc), some (.nilFunc), some (.agg #[.int .u8 0, .int .u8 0, .int .u8 0, .int .u8 0, .int .u8 0, .int .u8 0, .int .u8 0, .int .u8 0, .int .u8 0, .int .u8 0, .int .u8 0, .int .u8 0, .int .u8 0, .int .u8 0, .int .u8 0, .int .u8 0, .int .u8 0, .int .u8 0, .int .u8 0, .int .u8 0, .int .u8 0, .int .u8 0, .int .u8 0, .int .u8 0]), some (.int .u64 0), some (.nilFunc), some (.nilFunc), some (.tuple #[.slice none 0 0, .string ⟨#[]⟩]), some (.nilFunc), some (.nilFunc), some (.nilFunc), some (.nilFunc), some (.nilFunc), some (.agg #[.int .u64 0, .int .u64 0, .int .u64 0, .int .u64 0, .int .u64 0, .int .u64 0, .int .u64 0, .int .u64 0, .int .u64 0, .int .u64 0, .int .u64 0, .int .u64 0, .int .u64 0, .int .u64 0, .int .u64 0, .int .u64 0, .int .u64 0, .int .u64 0, .int .u64 0, .int .u64 0]), some (.int .u32 0), some (.agg #[.int .u8 0, .int .u8 0, .int .u8 0, .int .u8 0, .int .u8 0, .int .u8 0, .int .u8 0, .int .u8 0, .int .u8 0, .int .u8 0, .int .u8 0, .int .u8 0, .int .u8 0, .int .u8 0, .int .u8 0, .int .u8 0, .int .u8 0, .int .u8 0, .int .u8 0, .int .u8 0, .int .u8 0, .int .u8 0, .int .u8 0, .int .u8 0, .int .u8 0, .int .u8 0, .int .u8 0, .int .u8 0, .int .u8 0, .int .u8 0, .int .u8 0, .int .u8 0, .int .u8 0, .int .u8 0, .int .u8 0, .int .u8 0, .int .u8 0, .int .u8 0, .int .u8 0, .int .u8 0, .int .u8 0, .int .u8 0, .int .u8 0, .int .u8 0, .int .u8 0, .int .u8 0, .int .u8 0, .int .u8 0, .int .u8 0, .int .u8 0, .int .u8 0, .int .u8 0, .int .u8 0, .int .u8 0, .int .u8 0, .int .u8 0, .int .u8 0, .int .u8 0, .int .u8 0, .int .u8 0, .int .u8 0, .int .u8 0, .int .u8 0, .int .u8 0, .int .u8 0]), some (.nilFunc), some (.nilFunc), some (.nilFunc), some (.nilFunc), some (.nilFunc), some (.nilFunc), some (.agg #[.int .u8 0, .int .u8 0, .int .u8 0, .int .u8 0, .int .u8 0, .int .u8 0, .int .u8 0, .int .u8 0, .int .u8 0, .int .u8 0, .int .u8 0, .int .u8 0, .int .u8 0, .int .u8 0, .int .u8 0, .int .u8 0, .int .u8 0, .int .u8 0, .int .u8 0, .int .u8 0, .int .u8 0, .int .u8 0, .int .u8 0, .int .u8 0, .int .u8 0, .int .u8 0, .int .u8 0, .int .u8 0, .int .u8 0, .int .u8 0, .int .u8 0, .int .u8 0]), some (.agg #[.int .u8 0, .int .u8 0, .int .u8 0, .int .u8 0, .int .u8 0, .int .u8 0, .int .u8 0, .int .u8 0, .int .u8 0, .int .u8 0, .int .u8 0, .int .u8 0, .int .u8 0, .int .u8 0, .int .u8 0, .int .u8 0, .int .u8 0, .int .u8 0, .int .u8 0, .int .u8 0, .int .u8 0, .int .u8 0, .int .u8 0, .int .u8 0, .int .u8 0, .int .u8 0, .int .u8 0, .int .u8 0, .int .u8 0, .int .u8 0, .int .u8 0, .int .u8 0, .int .u8 0, .int .u8 0, .int .u8 0, .int .u8 0, .int .u8 0, .int .u8 0, .int .u8 0, .int .u8 0, .int .u8 0, .int .u8 0, .int .u8 0, .int .u8 0, .int .u8 0, .int .u8 0, .int .u8 0, .int .u8 0, .int .u8 0, .int .u8 0, .int .u8 0, .int .u8 0, .int .u8 0, .int .u8 0, .int .u8 0, .int .u8 0, .int .u8 0, .int .u8 0, .int .u8 0, .int .u8 0, .int .u8 0, .int .u8 0, .int .u8 0, .int .u8 0]), some (.agg #[.pointer none, .pointer none, .pointer none, .string ⟨#[]⟩]), some (.agg #[.pointer none, .pointer none, .pointer none, .string ⟨#[]⟩]), some (.agg #[]), some (.agg #[]), some (.agg #[]), some (.nilFunc), some (.int .u8 0), some (.int .u8 0), some (.nilFunc), some (.int .i32 0), some (.int .i32 0), some (.agg #[.int .u64 0, .int .u64 0, .int .u32 0, .int .u8 0, .int .u8 0, .int .u8 0, .int .u8 0, .nilFunc, .pointer none, .int .i32 0, .int .i32 0]), some (.agg #[.int .u64 0, .int .u64 0, .int .u32 0, .int .u8 0, .int .u8 0, .int .u8 0, .int .u8 0, .nilFunc, .pointer none, .int .i32 0, .int .i32 0])]
def zeroOr (P : Program) (T : TypeId) : Option Value := match tyZ[T]? with | some (some _) => zeroOf P T | _ => none
theorem tyZ_eq : (List.range 174).map (zeroOr Tryd.prog) = tyZ := by kernel_rfl
theorem oT {T : Nat} {z : Value} (h : tyZ[T]? = some (some z)) : zeroOf Tryd.prog T = some z := by
  have := tab_get tyZ_eq h
  unfold zeroOr at this
  rw [h] at this
  exact this
def tyFv : List (Option (List (Nat × Option Bool))) := [none, none, none, none, none, none, none, some [(0, some false), (1, some false), (2, some false), (3, some false)], some [(0, some false), (1, some false), (2, some false), (3, some false)], none, none, none, none, some [(0, some false), (1, some false)], some [(0, some false), (1, some false)], none, none, none, some [(0, some false)], some [(0, some false)], none, none, none, none, none, none, none, none, none, none, none, none, none, none, none, none, some [(0, some false), (1, some false), (2, some false), (3, some false)], some [(0, some false), (1, some false), (2, some false), (3, some false)], some [(0, some false), (1, some false), (2, some false), (3, some false)], none, none, none, none, none, none, none, none, none, none, none, some [(0, some false), (1, some false)], some [(0, some false), (1, some false)], none, none, none, none, none, none, none, none, none, none, none, none, none, none, none, none, none, none, none, none, none, none, none, none, none, none, none, none, none, none, none, some [(0, some false), (1, some false), (2, some false)], some [(0, some false), (1, some false), (2, some false)], some [(0, some false), (1, some false), (2, some false)], some [(0, some false), (1, some false), (2, some false)], some [(0, some false), (1, some false), (2, some false)], none, none, some [(0, some false), (1, some false)], some [(0, some false), (1, some false)], none, none, none, some [(0, some false), (1, some false)], some [(0, some false), (1, some false)], none, none, some [(0, some false), (1, some false)], some [(0, some false), (1, some false)], none, none, none, none, some [(0, some false), (1, some false)], none, some [(0, some false), (1, some false)], some [(0, some false), (1, some false)], none, none, none, none, none, none, none, none, none, none, none, none, none, none, none, none, none, none, none, none, none, none, none, none, none, none, none, none, none, none, none, none, none, none, none, none, none, none, none, none, none, none, none, none, none, none, none, none, none, none, none, none, some [(0, some false), (1, some false), (2, some false), (3, some false)], some [(0, some false), (1, some false), (2, some false), (3, some false)], none, some [(0, some true)], some [(0, some true)], none, none, none, none, none, none, some [(0, some false), (1, some false), (2, some false), (3, some false), (4, some false), (5, some false), (6, some false), (7, some false), (8, some false), (9, some false), (10, some false)], some [(0, some false), (1, some false), (2, some false), (3, some false), (4, some false), (5, some false), (6, some false), (7, some false), (8, some false), (9, some false), (10, some false)]]
def tyMp : List (Option (Nat × Nat)) := [none, none, none, none, none, none, none, none, none, none, none, none, none, none, none, none, none, none, none, none, none, none, none, none, none, none, none, none, none, none, none, none, none, none, none, none, none, none, none, none, none, none, none, none, none, none, none, none, none, none, none, none, none, none, none, none, none, none, none, none, none, none, none, none, none, none, none, none, none, none, none, none, none, none, none, none, none, none, none, none, none, none, none, none, none, none, none, none, none, none, none, none, none, none, some (96, 3), none, none, none, none, none, none, none, none, none, none, none, none, none, none, none, none, none, none, none, none, none, none, none, none, none, none, none, none, none, none, none, none, none, none, none, none, none, none, none, none, none, none, none, none, none, none, none, none, none, none, none, none, none, none, none, none, none, none, none, none, none, none, none, none, none, none, none, none, none, none, none, none, none, none, none, none, none, none, none]
def tySt : List (Bool) := [false, false, false, false, false, false, false, false, false, true, true, true, false, false, false, false, false, false, false, false, false, false, false, false, false, false, false, false, false, false, false, false, false, false, false, false, false, false, false, false, false, false, false, false, false, false, false, false, false, false, false, false, false, false, false, false, false, false, false, false, false, false, false, false, false, false, false, false, false, false, false, false, false, false, false, false, false, false, false, false, false, false, false, false, false, false, false, false, false, false, false, false, false, false, false, false, false, false, false, false, false, false, false, false, false, false, false, false, false, false, false, false, false, false, false, false, false, false, false, false, false, false, false, false, false, false, false, false, false, false, false, false, false, false, false, false, false, false, false, false, false, false, false, false, false, false, false, false, false, false, false, false, false, false, false, false, false, false, false, false, false, false, false, false, false, false, false, false, false, false, false, false, false, false]
def tyKi : List (Option IntKind) := [none, none, some .i64, some .i64, none, some .u8, some .u8, none, none, none, none, none, some .u64, none, none, none, none, none, none, none, none, some .i32, none, none, none, none, none, none, none, none, none, none, none, none, none, none, none, none, none, none, none, none, none, none, none, none, none, none, none, none, none, none, none, none, none, none, none, none, none, none, none, none, none, none, none, none, none, none, none, none, none, none, none, none, none, none, none, none, none, none, none, none, none, none, none, none, none, none, none, none, none, none, none, none, none, none, none, none, none, none, none, none, none, none, none, none, none, none, none, none, none, none, none, none, none, none, none, none, none, none, none, none, none, none, none, none, none, none, none, none, none, none, none, none, none, none, some .u64, none, none, none, none, some .u64, none, none, none, none, none, none, none, none, none, some .u32, none, none, none, none, none, none, none, none, none, none, none, none, none, none, none, some .u8, some .u8, none, some .i32, some .i32, none, none]
def tyAr : List (Option (Nat × Nat)) := [none, none, none, none, none, none, none, none, none, none, none, none, none, none, none, none, none, none, none, none, none, none, none, none, none, none, none, none, none, none, some (9, 3), none, none, none, none, none, none, none, none, none, none, none, none, none, none, none, none, none, none, none, none, none, none, none, none, none, none, none, none, none, none, none, none, none, none, none, none, none, none, none, none, none, none, none, none, none, none, none, none, none, none, none, none, none, none, none, none, none, none, none, none, none, none, some (8, 9), none, none, none, none, none, none, none, none, none, none, none, none, none, none, none, none, none, none, none, none, none, none, none, none, none, none, none, none, none, none, none, none, none, none, none, none, none, none, none, none, none, none, none, none, none, none, some (24, 5), none, none, none, none, none, none, none, none, none, some (20, 141), none, some (65, 5), none, none, none, none, none, none, some (32, 5), some (64, 5), none, none, some (0, 16), none, none, none, none, none, none, none, none, none, none]
def tyArB (P : Program) (T : TypeId) : Option (Nat × Nat) := match P.underlying T with | some (.array m e) => some (m, e) | _ => none
theorem tyAr_eq : (List.range 174).map (tyArB Tryd.prog) = tyAr := by kernel_rfl
theorem arT {T m e : Nat} (h : tyAr[T]? = some (some (m, e))) : (Tryd.prog).underlying T = some (.array m e) := by
  have := tab_get tyAr_eq h
  unfold tyArB at this
  split at this
  · injection this with this; injection this with h1 h2; subst h1; subst h2; assumption
  · cases this
def tyStB (P : Program) (T : TypeId) : Bool := match P.underlying T with | some .string => true | _ => false
def tyKiB (P : Program) (T : TypeId) : Option IntKind := match P.underlying T with | some (.int k) => some k | _ => none
theorem tyMp_eq : (List.range 174).map (mapOf Tryd.prog) = tyMp := by kernel_rfl
theorem tySt_eq : (List.range 174).map (tyStB Tryd.prog) = tySt := by kernel_rfl
theorem tyKi_eq : (List.range 174).map (tyKiB Tryd.prog) = tyKi := by kernel_rfl
theorem mT {T : Nat} {p : Nat × Nat} (h : tyMp[T]? = some (some p)) : mapOf Tryd.prog T = some p := tab_get tyMp_eq h
theorem sT {T : Nat} (h : tySt[T]? = some true) : (Tryd.prog).underlying T = some .string := by
  have := tab_get tySt_eq h
  unfold tyStB at this
  split at this
  · assumption
  · cases this
theorem iT {T : Nat} {k : IntKind} (h : tyKi[T]? = some (some k)) : (Tryd.prog).underlying T = some (.int k) := by
  have := tab_get tyKi_eq h
  unfold tyKiB at this
  split at this
  · injection this with this; subst this; assumption
  · cases this
def fnBody (P : Program) (f : Nat) : Bool := callable P f
theorem mixed : Tryd.prog.follows .mixedOrders = true := by kernel_rfl
end Go.Proofs.YteoedhkppmbkoaaDoor
namespace Go.Proofs.YteoedhkppmbkoaaDoor
def ksTab : List (Nat × List SK) := [(36, [.int .i64, .int .i64, .int .i64, .str]), (37, [.int .i64, .int .i64, .int .i64, .str]), (38, [.int .i64, .int .i64, .int .i64, .str]), (50, [.str, .int .i64]), (51, [.str, .int .i64]), (83, [.bool, .str, .int .i64]), (84, [.bool, .str, .int .i64]), (85, [.bool, .str, .int .i64]), (86, [.bool, .str, .str]), (87, [.bool, .str, .str]), (90, [.int .i64, .int .i64]), (91, [.int .i64, .int .i64]), (95, [.int .i64, .str]), (96, [.int .i64, .str]), (105, [.str, .int .i64]), (107, [.str, .str]), (108, [.str, .str])]
def ksOf (T : Nat) : Option (List SK) := (ksTab.find? (fun p => Nat.beq p.1 T)).map (·.2)
theorem ks_all : ksTab.map (fun p => (flatT Tryd.prog 6 p.1, Tryd.prog.eqGuardType Tryd.prog.depth p.1)) = ksTab.map (fun p => (some p.2, false)) := by kernel_rfl
theorem ks_find {T : Nat} {ks : List SK} (h : ksOf T = some ks) : flatT Tryd.prog 6 T = some ks ∧ Tryd.prog.eqGuardType Tryd.prog.depth T = false := by
  unfold ksOf at h
  simp only [Option.map_eq_some_iff] at h
  obtain ⟨p, hp, rfl⟩ := h
  have hmem := List.mem_of_find?_eq_some hp
  have hb := List.find?_some hp
  have hT : p.1 = T := Nat.eq_of_beq_eq_true hb
  obtain ⟨i, hi⟩ := List.getElem?_of_mem hmem
  have := congrArg (·[i]?) ks_all
  simp only [List.getElem?_map, hi, Option.map_some, Option.some.injEq, Prod.mk.injEq] at this
  rw [← hT]
  exact this
theorem kT {T : Nat} {ks : List SK} (h : ksOf T = some ks) : flatT Tryd.prog 6 T = some ks := (ks_find h).1
theorem gT {T : Nat} {ks : List SK} (h : ksOf T = some ks) : Tryd.prog.eqGuardType Tryd.prog.depth T = false := (ks_find h).2
end Go.Proofs.YteoedhkppmbkoaaDoor
