/- Steps that part the cases themselves; elements by their places; one round of a loop. -/
import Derived.Test.YtakejjfmbgbedaaL15
import Derived.Test.YtakejjfmbgbedaaLin
import Derived.Tactics
namespace Go.Proofs.Ytakejjfmbgbedaa
variable {df : List Deferred}
variable {rr : Option Nat}
open Go.RowKit

section
variable {P : Program} {Q : Exit → Act → World → Prop} {a : Act} {w w' : World} {w0 : Bs} {n : Nat} {l : List (Nat × Value)} {L L' : List HP}
  {dst : Option Nat} {R : Value → World → Prop} {ty : TypeId} {pos : String} {af : Array Edge} {g : Option (Nat × Bool)}

/-! ## Tests that part -/
theorem sp_lss {x y : Operand} {t t' : TypeId} {k : IntKind} {p q : Int} (hk : Kn df n a l) (ht : p < q → R (.bool true) w) (hf : ¬ p < q → R (.bool false) w)
    (hx : ev l x = some (.int k p) := by rfl) (hy : ev l y = some (.int k q) := by rfl) : Gives P ⟨dst, .binOp .lss t x y t', ty, pos, af, g⟩ a w R := by
  by_cases h : p < q
  · exact g_lss hk (by rw [decide_eq_true h]; exact ht h) hx hy
  · exact g_lss hk (by rw [decide_eq_false h]; exact hf h) hx hy
theorem sp_leq {x y : Operand} {t t' : TypeId} {k : IntKind} {p q : Int} (hk : Kn df n a l) (ht : p ≤ q → R (.bool true) w) (hf : ¬ p ≤ q → R (.bool false) w)
    (hx : ev l x = some (.int k p) := by rfl) (hy : ev l y = some (.int k q) := by rfl) : Gives P ⟨dst, .binOp .leq t x y t', ty, pos, af, g⟩ a w R := by
  by_cases h : p ≤ q
  · exact g_leq hk (by rw [decide_eq_true h]; exact ht h) hx hy
  · exact g_leq hk (by rw [decide_eq_false h]; exact hf h) hx hy
theorem sp_gtr {x y : Operand} {t t' : TypeId} {k : IntKind} {p q : Int} (hk : Kn df n a l) (ht : q < p → R (.bool true) w) (hf : ¬ q < p → R (.bool false) w)
    (hx : ev l x = some (.int k p) := by rfl) (hy : ev l y = some (.int k q) := by rfl) : Gives P ⟨dst, .binOp .gtr t x y t', ty, pos, af, g⟩ a w R := by
  by_cases h : q < p
  · exact g_gtr hk (by rw [decide_eq_true h]; exact ht h) hx hy
  · exact g_gtr hk (by rw [decide_eq_false h]; exact hf h) hx hy
theorem sp_geq {x y : Operand} {t t' : TypeId} {k : IntKind} {p q : Int} (hk : Kn df n a l) (ht : q ≤ p → R (.bool true) w) (hf : ¬ q ≤ p → R (.bool false) w)
    (hx : ev l x = some (.int k p) := by rfl) (hy : ev l y = some (.int k q) := by rfl) : Gives P ⟨dst, .binOp .geq t x y t', ty, pos, af, g⟩ a w R := by
  by_cases h : q ≤ p
  · exact g_geq hk (by rw [decide_eq_true h]; exact ht h) hx hy
  · exact g_geq hk (by rw [decide_eq_false h]; exact hf h) hx hy
theorem sp_eqi {x y : Operand} {t t' : TypeId} {k : IntKind} {p q : Int} (hk : Kn df n a l) (ht : p = q → R (.bool true) w) (hf : ¬ p = q → R (.bool false) w)
    (hx : ev l x = some (.int k p) := by rfl) (hy : ev l y = some (.int k q) := by rfl) : Gives P ⟨dst, .binOp .eql t x y t', ty, pos, af, g⟩ a w R := by
  by_cases h : p = q
  · exact g_eqi hk (by rw [decide_eq_true h]; exact ht h) hx hy
  · exact g_eqi hk (by rw [decide_eq_false h]; exact hf h) hx hy
theorem sp_nei {x y : Operand} {t t' : TypeId} {k : IntKind} {p q : Int} (hk : Kn df n a l) (ht : p = q → R (.bool false) w) (hf : ¬ p = q → R (.bool true) w)
    (hx : ev l x = some (.int k p) := by rfl) (hy : ev l y = some (.int k q) := by rfl) : Gives P ⟨dst, .binOp .neq t x y t', ty, pos, af, g⟩ a w R := by
  by_cases h : p = q
  · exact g_nei hk (by rw [decide_eq_true h]; exact ht h) hx hy
  · exact g_nei hk (by rw [decide_eq_false h]; exact hf h) hx hy
theorem sp_eqS {x y : Operand} {t t' : TypeId} {s r : ByteArray} (hk : Kn df n a l) (ht : s = r → R (.bool true) w) (hf : ¬ s = r → R (.bool false) w)
    (hx : ev l x = some (.string s) := by rfl) (hy : ev l y = some (.string r) := by rfl) : Gives P ⟨dst, .binOp .eql t x y t', ty, pos, af, g⟩ a w R := by
  by_cases h : s = r
  · exact g_eqS hk (by rw [decide_eq_true h]; exact ht h) hx hy
  · exact g_eqS hk (by rw [decide_eq_false h]; exact hf h) hx hy
theorem sp_neS {x y : Operand} {t t' : TypeId} {s r : ByteArray} (hk : Kn df n a l) (ht : s = r → R (.bool false) w) (hf : ¬ s = r → R (.bool true) w)
    (hx : ev l x = some (.string s) := by rfl) (hy : ev l y = some (.string r) := by rfl) : Gives P ⟨dst, .binOp .neq t x y t', ty, pos, af, g⟩ a w R := by
  by_cases h : s = r
  · exact g_neS hk (by rw [decide_eq_true h]; exact ht h) hx hy
  · exact g_neS hk (by rw [decide_eq_false h]; exact hf h) hx hy
theorem sp_eqs {x y : Operand} {t t' : TypeId} {ks : List SK} {us vs : List Value} (hk : Kn df n a l) (ht : eqC us vs = true → R (.bool true) w) (hf : eqC us vs = false → R (.bool false) w)
    (hT : flatT P 6 t = some ks) (ha : aggOf P t = some true) (hg : P.eqGuardType P.depth t = false)
    (hx : ev l x = some (.agg us.toArray) := by rfl) (hy : ev l y = some (.agg vs.toArray) := by rfl) (h1 : shp ks us = true := by rfl) (h2 : shp ks vs = true := by rfl) : Gives P ⟨dst, .binOp .eql t x y t', ty, pos, af, g⟩ a w R := by
  cases h : eqC us vs with
  | true => exact g_eqs hk (by rw [h]; exact ht h) hT ha hg hx hy h1 h2
  | false => exact g_eqs hk (by rw [h]; exact hf h) hT ha hg hx hy h1 h2
theorem sp_nes {x y : Operand} {t t' : TypeId} {ks : List SK} {us vs : List Value} (hk : Kn df n a l) (ht : eqC us vs = true → R (.bool false) w) (hf : eqC us vs = false → R (.bool true) w)
    (hT : flatT P 6 t = some ks) (ha : aggOf P t = some true) (hg : P.eqGuardType P.depth t = false)
    (hx : ev l x = some (.agg us.toArray) := by rfl) (hy : ev l y = some (.agg vs.toArray) := by rfl) (h1 : shp ks us = true := by rfl) (h2 : shp ks vs = true := by rfl) : Gives P ⟨dst, .binOp .neq t x y t', ty, pos, af, g⟩ a w R := by
  cases h : eqC us vs with
  | true => exact g_nes hk (by rw [h]; exact ht h) hT ha hg hx hy h1 h2
  | false => exact g_nes hk (by rw [h]; exact hf h) hT ha hg hx hy h1 h2

/-! ## The same in a drawn region -/
variable {os : List Oper} {i : Nat} {o : Oper} {r : List Oper} {acc : List (Nat × Nat × HV)} {HR : List (Nat × ((Nat → Value) → Value → HP))} {FinE : List (Nat × Nat × HV) → List (Nat × ((Nat → Value) → Value → HP)) → List HP → Prop} {TK : List HP}

theorem obe_bool {b : Bool} (h : ∀ (us : Nat → Value) (a : Act) (w : World), Kn df n a (vwE acc l us (o.looksAt os.toArray)) → depE acc us w (o.looksAt os.toArray) → St w0 L w → Gives P o a w (fun v w' => v = .bool b ∧ St w [] w'))
    (ht : b = true → ObxE df P n os l w0 L FinE (i + 1) r (pushE o.dst i (.val (.bool true)) acc) HR TK) (hf : b = false → ObxE df P n os l w0 L FinE (i + 1) r (pushE o.dst i (.val (.bool false)) acc) HR TK)
    (hg : ∀ us, gdK os.toArray (vwE acc l us (o.looksAt os.toArray)) o.guard = some true := by intro us; rfl) : ObxE df P n os l w0 L FinE i (o :: r) acc HR TK := by
  cases b with
  | true => exact obe_val h (ht rfl) hg
  | false => exact obe_val h (hf rfl) hg

theorem obe_lss {p q : Int} (h : ∀ (us : Nat → Value) (a : Act) (w : World), Kn df n a (vwE acc l us (o.looksAt os.toArray)) → depE acc us w (o.looksAt os.toArray) → St w0 L w → Gives P o a w (fun v w' => v = .bool (decide (p < q)) ∧ St w [] w'))
    (ht : p < q → ObxE df P n os l w0 L FinE (i + 1) r (pushE o.dst i (.val (.bool true)) acc) HR TK) (hf : ¬ p < q → ObxE df P n os l w0 L FinE (i + 1) r (pushE o.dst i (.val (.bool false)) acc) HR TK)
    (hg : ∀ us, gdK os.toArray (vwE acc l us (o.looksAt os.toArray)) o.guard = some true := by intro us; rfl) : ObxE df P n os l w0 L FinE i (o :: r) acc HR TK :=
  obe_bool h (fun e => ht (of_decide_eq_true e)) (fun e => hf (of_decide_eq_false e)) hg
theorem obe_leq {p q : Int} (h : ∀ (us : Nat → Value) (a : Act) (w : World), Kn df n a (vwE acc l us (o.looksAt os.toArray)) → depE acc us w (o.looksAt os.toArray) → St w0 L w → Gives P o a w (fun v w' => v = .bool (decide (p ≤ q)) ∧ St w [] w'))
    (ht : p ≤ q → ObxE df P n os l w0 L FinE (i + 1) r (pushE o.dst i (.val (.bool true)) acc) HR TK) (hf : ¬ p ≤ q → ObxE df P n os l w0 L FinE (i + 1) r (pushE o.dst i (.val (.bool false)) acc) HR TK)
    (hg : ∀ us, gdK os.toArray (vwE acc l us (o.looksAt os.toArray)) o.guard = some true := by intro us; rfl) : ObxE df P n os l w0 L FinE i (o :: r) acc HR TK :=
  obe_bool h (fun e => ht (of_decide_eq_true e)) (fun e => hf (of_decide_eq_false e)) hg
theorem obe_eqi {p q : Int} (h : ∀ (us : Nat → Value) (a : Act) (w : World), Kn df n a (vwE acc l us (o.looksAt os.toArray)) → depE acc us w (o.looksAt os.toArray) → St w0 L w → Gives P o a w (fun v w' => v = .bool (decide (p = q)) ∧ St w [] w'))
    (ht : p = q → ObxE df P n os l w0 L FinE (i + 1) r (pushE o.dst i (.val (.bool true)) acc) HR TK) (hf : ¬ p = q → ObxE df P n os l w0 L FinE (i + 1) r (pushE o.dst i (.val (.bool false)) acc) HR TK)
    (hg : ∀ us, gdK os.toArray (vwE acc l us (o.looksAt os.toArray)) o.guard = some true := by intro us; rfl) : ObxE df P n os l w0 L FinE i (o :: r) acc HR TK :=
  obe_bool h (fun e => ht (of_decide_eq_true e)) (fun e => hf (of_decide_eq_false e)) hg
theorem obe_nei {p q : Int} (h : ∀ (us : Nat → Value) (a : Act) (w : World), Kn df n a (vwE acc l us (o.looksAt os.toArray)) → depE acc us w (o.looksAt os.toArray) → St w0 L w → Gives P o a w (fun v w' => v = .bool (!decide (p = q)) ∧ St w [] w'))
    (ht : p = q → ObxE df P n os l w0 L FinE (i + 1) r (pushE o.dst i (.val (.bool false)) acc) HR TK) (hf : ¬ p = q → ObxE df P n os l w0 L FinE (i + 1) r (pushE o.dst i (.val (.bool true)) acc) HR TK)
    (hg : ∀ us, gdK os.toArray (vwE acc l us (o.looksAt os.toArray)) o.guard = some true := by intro us; rfl) : ObxE df P n os l w0 L FinE i (o :: r) acc HR TK :=
  obe_bool h (fun e => hf (of_decide_eq_false (by simpa using e))) (fun e => ht (by simpa using e)) hg
theorem obe_eqS {p q : ByteArray} (h : ∀ (us : Nat → Value) (a : Act) (w : World), Kn df n a (vwE acc l us (o.looksAt os.toArray)) → depE acc us w (o.looksAt os.toArray) → St w0 L w → Gives P o a w (fun v w' => v = .bool (decide (p = q)) ∧ St w [] w'))
    (ht : p = q → ObxE df P n os l w0 L FinE (i + 1) r (pushE o.dst i (.val (.bool true)) acc) HR TK) (hf : ¬ p = q → ObxE df P n os l w0 L FinE (i + 1) r (pushE o.dst i (.val (.bool false)) acc) HR TK)
    (hg : ∀ us, gdK os.toArray (vwE acc l us (o.looksAt os.toArray)) o.guard = some true := by intro us; rfl) : ObxE df P n os l w0 L FinE i (o :: r) acc HR TK :=
  obe_bool h (fun e => ht (of_decide_eq_true e)) (fun e => hf (of_decide_eq_false e)) hg
theorem obe_neS {p q : ByteArray} (h : ∀ (us : Nat → Value) (a : Act) (w : World), Kn df n a (vwE acc l us (o.looksAt os.toArray)) → depE acc us w (o.looksAt os.toArray) → St w0 L w → Gives P o a w (fun v w' => v = .bool (!decide (p = q)) ∧ St w [] w'))
    (ht : p = q → ObxE df P n os l w0 L FinE (i + 1) r (pushE o.dst i (.val (.bool false)) acc) HR TK) (hf : ¬ p = q → ObxE df P n os l w0 L FinE (i + 1) r (pushE o.dst i (.val (.bool true)) acc) HR TK)
    (hg : ∀ us, gdK os.toArray (vwE acc l us (o.looksAt os.toArray)) o.guard = some true := by intro us; rfl) : ObxE df P n os l w0 L FinE i (o :: r) acc HR TK :=
  obe_bool h (fun e => hf (of_decide_eq_false (by simpa using e))) (fun e => ht (by simpa using e)) hg

/-! ## Elements by their places -/
variable {α : Type} [Enc α]
theorem SlT.atg {xs : List α} {v : Value} {w : World} (h : SlT xs v w) {i : Nat} (hi : i < xs.length) : Cells (blk v) (offs v + i * (Enc.k α + 1)) (Enc.f xs[i]) w := h.get (List.getElem?_eq_getElem hi)

theorem g_la1 {x : Operand} {T : TypeId} {v : Value} {i : Nat} {xs : List α} {u : Value} (hk : Kn df n a l) (h : R u w) (hT : aggOf P T = some false)
    (hx : ev l x = some (.pointer (some ⟨blk v, offs v + i * (Enc.k α + 1), none⟩)) := by rfl) (hs : SlT xs v w) (hi : i < xs.length) (hu : Enc.f xs[i] = [u] := by rfl) :
    Gives P ⟨dst, .load T x, ty, pos, af, g⟩ a w R := g_ldT1 hk h hT hx hs (List.getElem?_eq_getElem hi) hu
theorem g_laN {x : Operand} {T : TypeId} {v : Value} {i : Nat} {xs : List α} {us : List Value} (hk : Kn df n a l) (h : R (.agg us.toArray) w) (hT : aggOf P T = some true)
    (hx : ev l x = some (.pointer (some ⟨blk v, offs v + i * (Enc.k α + 1), none⟩)) := by rfl) (hs : SlT xs v w) (hi : i < xs.length) (hu : Enc.f xs[i] = us) (hz : szOf P T = some (Enc.k α + 1)) :
    Gives P ⟨dst, .load T x, ty, pos, af, g⟩ a w R := g_ldTN hk h hT hx hs (List.getElem?_eq_getElem hi) hu hz
theorem g_laF {x : Operand} {T : TypeId} {v : Value} {i f : Nat} {xs : List α} {u : Value} (hk : Kn df n a l) (h : R u w) (hT : aggOf P T = some false)
    (hx : ev l x = some (.pointer (some ⟨blk v, offs v + i * (Enc.k α + 1) + f, none⟩)) := by rfl) (hs : SlT xs v w) (hi : i < xs.length) (hu : (Enc.f xs[i])[f]? = some u := by rfl) :
    Gives P ⟨dst, .load T x, ty, pos, af, g⟩ a w R := g_ldTF hk h hT hx hs (List.getElem?_eq_getElem hi) hu
/-- A field of a struct within an element. -/
theorem g_ldT2 {x : Operand} {T : TypeId} {v : Value} {i f f' : Nat} {xs : List α} {e : α} {u : Value} (hk : Kn df n a l) (h : R u w) (hT : aggOf P T = some false)
    (hx : ev l x = some (.pointer (some ⟨blk v, offs v + i * (Enc.k α + 1) + f + f', none⟩)) := by rfl) (hs : SlT xs v w) (hi : xs[i]? = some e) (hu : (Enc.f e)[f + f']? = some u := by rfl) :
    Gives P ⟨dst, .load T x, ty, pos, af, g⟩ a w R :=
  g_load1 hk h hT (by rw [Nat.add_assoc]; exact (hs.get hi).get hu) hx
theorem g_la2 {x : Operand} {T : TypeId} {v : Value} {i f f' : Nat} {xs : List α} {u : Value} (hk : Kn df n a l) (h : R u w) (hT : aggOf P T = some false)
    (hx : ev l x = some (.pointer (some ⟨blk v, offs v + i * (Enc.k α + 1) + f + f', none⟩)) := by rfl) (hs : SlT xs v w) (hi : i < xs.length) (hu : (Enc.f xs[i])[f + f']? = some u := by rfl) :
    Gives P ⟨dst, .load T x, ty, pos, af, g⟩ a w R := g_ldT2 hk h hT hx hs (List.getElem?_eq_getElem hi) hu
/-- A struct within an element that is known. -/
theorem g_ldTS {x : Operand} {T : TypeId} {v : Value} {i f k : Nat} {xs : List α} {e : α} {us : List Value} (hk : Kn df n a l) (h : R (.agg us.toArray) w) (hT : aggOf P T = some true)
    (hx : ev l x = some (.pointer (some ⟨blk v, offs v + i * (Enc.k α + 1) + f, none⟩)) := by rfl) (hs : SlT xs v w) (hi : xs[i]? = some e) (hz : szOf P T = some k) (hu : ((Enc.f e).drop f).take k = us := by rfl) (hl : us.length = k := by rfl) :
    Gives P ⟨dst, .load T x, ty, pos, af, g⟩ a w R := by
  have hc := (hs.get hi).sub f k
  rw [hu] at hc
  exact g_loadN hk h hT hc (by rw [hl]; exact hz) hx
/-- A struct within an element. -/
theorem g_laS {x : Operand} {T : TypeId} {v : Value} {i f k : Nat} {xs : List α} {us : List Value} (hk : Kn df n a l) (h : R (.agg us.toArray) w) (hT : aggOf P T = some true)
    (hx : ev l x = some (.pointer (some ⟨blk v, offs v + i * (Enc.k α + 1) + f, none⟩)) := by rfl) (hs : SlT xs v w) (hi : i < xs.length) (hz : szOf P T = some k) (hu : ((Enc.f xs[i]).drop f).take k = us := by rfl) (hl : us.length = k := by rfl) :
    Gives P ⟨dst, .load T x, ty, pos, af, g⟩ a w R := by
  have hc := (hs.get (List.getElem?_eq_getElem hi)).sub f k
  rw [hu] at hc
  exact g_loadN hk h hT hc (by rw [hl]; exact hz) hx

/-- What the call owns is read from here on: a slice as it is in this world. -/
theorem St.fz {w0 : Bs} {w : World} {L L' : List HP} {E : TypeId} {xs : List α} {v : Value} (hS : St w0 L w) (hat : At (OwT E xs v) L L') : SlT xs v w := OwT.rd (hS.rd hat)

/-! ## Tests on what a loop holds -/
theorem c_bool {c : Operand} {x y : Code} {b : Bool} (hk : Kn df n a l) (ht : b = true → x.wpIn (FR rr) 0 P Q a w) (hf : b = false → y.wpIn (FR rr) 0 P Q a w) (hc : ev l c = some (.bool b) := by rfl) : (Code.cond c x y).wpIn (FR rr) 0 P Q a w := c_split hk ht hf hc
/-! ## A list of one -/
theorem g_bs1I {T E : Nat} {q : List (Nat × Operand)} {z : Value} {m : Int} (hk : Kn df n a l) (hS : St w0 L w) (h : ∀ w' v, St w0 (OwT E [m] v :: L) w' → R v w')
    (hp : evP l q = some [(0, .int .i64 m)] := by rfl) (hT : elOf P T = some E) (hE : szOf P E = some 1) (hz : zeroOf P E = some z) :
    Gives P ⟨dst, .buildSlice T 1 q.toArray, ty, pos, af, g⟩ a w R := by
  have hE' : szOf P E = some (Enc.k Int + 1) := hE
  refine g_bsT (xs := [m]) (m := 0) hk hS h hp hT hE' hz ?_ rfl
  simp [bldP, enc, Enc.f, Enc.k, Value.cells, zerosL, splice]; rfl
theorem g_bs1S {T E : Nat} {q : List (Nat × Operand)} {z : Value} {m : ByteArray} (hk : Kn df n a l) (hS : St w0 L w) (h : ∀ w' v, St w0 (OwT E [m] v :: L) w' → R v w')
    (hp : evP l q = some [(0, .string m)] := by rfl) (hT : elOf P T = some E) (hE : szOf P E = some 1) (hz : zeroOf P E = some z) :
    Gives P ⟨dst, .buildSlice T 1 q.toArray, ty, pos, af, g⟩ a w R := by
  have hE' : szOf P E = some (Enc.k ByteArray + 1) := hE
  refine g_bsT (xs := [m]) (m := 0) hk hS h hp hT hE' hz ?_ rfl
  simp [bldP, enc, Enc.f, Enc.k, Value.cells, zerosL, splice]; rfl
/-- append(x, e), and the list of one is let go. -/
theorem g_app1 {α : Type} [Enc α] {x y : Operand} {t tx : TypeId} {E E' : Nat} {v y0 z : Value} {xs : List α} {e : α} {L'' : List HP} (hk : Kn df n a l) (hS : St w0 L w)
    (h : ∀ w' v', St w0 (OwT E (xs ++ [e]) v' :: L'') w' → R v' w')
    (hx : ev l x = some v := by rfl) (hy : ev l y = some y0 := by rfl)
    (hat : At (OwT E xs v) L L' := by (repeat (first | exact At.here | apply At.there)))
    (hT : elOf P t = some E) (hTx : elOf P tx = some E')
    (hat2 : At (OwT E' [e] y0) L' L'' := by (repeat (first | exact At.here | apply At.there)))
    (hE : szOf P E = some (Enc.k α + 1)) (hz : zeroOf P E = some z) (hzs : z.cells.size = Enc.k α + 1) {by_ : Nat} (hby : ((P.info? E).map (·.bytes)).getD 0 = by_) (hbytes : (xs.length + 1) * by_ ≤ 140737488355328) (h63 : xs.length + 1 ≤ 9223372036854775807) :
    Gives P ⟨dst, .call { callee := .builtin .append, args := #[x, y], argTypes := #[t, tx] }, ty, pos, af, g⟩ a w R :=
  g_appD hk hS h hx hy hat hT hTx hat2 hE hz hzs hby (by simpa using hbytes) (by simpa [maxLen] using h63)
/-! ## Variables that others laid -/
theorem g_var1 {x : Operand} {T : TypeId} {b o : Nat} {vs : List Value} {T' : TypeId} {v : Value} (hk : Kn df n a l) (h : R v w) (hT : aggOf P T = some false)
    (hx : ev l x = some (.pointer (some ⟨b, o, none⟩)) := by rfl) (hb : (pts b vs T').rd w) (hv : vs[o]? = some v := by rfl) : Gives P ⟨dst, .load T x, ty, pos, af, g⟩ a w R :=
  g_load1 hk h hT (by rw [cell_of_row w b o _ T' _ (pts.block hb)]; simpa using hv) hx
theorem g_varN {x : Operand} {T : TypeId} {b o k : Nat} {vs us : List Value} {T' : TypeId} (hk : Kn df n a l) (h : R (.agg us.toArray) w) (hT : aggOf P T = some true)
    (hx : ev l x = some (.pointer (some ⟨b, o, none⟩)) := by rfl) (hb : (pts b vs T').rd w) (hs : szOf P T = some k) (hv : (vs.drop o).take k = us := by rfl) (hl : us.length = k := by rfl) : Gives P ⟨dst, .load T x, ty, pos, af, g⟩ a w R := by
  have hc := Cells.of_block (pts.block hb) o k
  rw [hv] at hc
  exact g_loadN hk h hT hc (by rw [hl]; exact hs) hx
/-! ## Kinds of numbers -/
theorem g_convU {x : Operand} {t t' : TypeId} {k' : IntKind} {p : Int} (hk : Kn df n a l) (h : R (.int .u64 p) w) (hx : ev l x = some (.int k' p) := by rfl) (ht : P.underlying t' = some (.int .u64)) {d : TypeDesc} (hs : P.underlying t = some d) (h0 : 0 ≤ p) (h1 : p ≤ 18446744073709551615) :
    Gives P ⟨dst, .convert t t' x, ty, pos, af, g⟩ a w R := g_convI hk (by rw [IntWalk.u64_in _ ⟨h0, h1⟩]; exact h) hx ht hs
theorem g_convS {x : Operand} {t t' : TypeId} {k' : IntKind} {p : Int} (hk : Kn df n a l) (h : R (.int .i64 p) w) (hx : ev l x = some (.int k' p) := by rfl) (ht : P.underlying t' = some (.int .i64)) {d : TypeDesc} (hs : P.underlying t = some d) (h0 : -9223372036854775808 ≤ p) (h1 : p ≤ 9223372036854775807) :
    Gives P ⟨dst, .convert t t' x, ty, pos, af, g⟩ a w R := g_convI hk (by rw [IntWalk.i64_in _ ⟨h0, h1⟩]; exact h) hx ht hs
theorem g_shr1 {x y : Operand} {t t' : TypeId} {k k' : IntKind} {p : Int} (hk : Kn df n a l) (h : R (.int k (p / 2)) w) (hx : ev l x = some (.int k p) := by rfl) (hy : ev l y = some (.int k' 1) := by rfl) (hm : 1 ≤ k.bits) :
    Gives P ⟨dst, .binOp .shr t x y t', ty, pos, af, g⟩ a w R :=
  g_shr (m := 1) hk (by rw [show (2 : Int) ^ 1 = 2 from rfl, Int.fdiv_eq_ediv_of_nonneg _ (by omega)]; exact h) hx hy hm

/-! ## Loops by a measure -/
theorem wp_while {ι : Type} {c : Code} {l0 : List (Nat × Value)} (V : ι → List (Nat × Value)) (Ls : ι → List HP) (F : ι → Prop) (μ : ι → Nat) (x0 : ι) (hk : Kn df n a l0) (hV : subK l0 (V x0)) (hS : St w0 (Ls x0) w) (hF : F x0)
    (step : ∀ (x : ι) (a : Act) (w : World), Kn df n a (V x ++ l0) → St w0 (Ls x) w → F x →
      c.wpIn (FR rr) 0 P (Exit.then (fun a' w' => ∃ x', μ x' < μ x ∧ Kn df n a' (V x' ++ l0) ∧ St w0 (Ls x') w' ∧ F x') Q) a w) : (Code.loop c).wpIn (FR rr) 0 P Q a w := by
  refine wp_loopN (fun k a w => ∃ x, k = μ x ∧ Kn df n a (V x ++ l0) ∧ St w0 (Ls x) w ∧ F x) (k := μ x0) ⟨x0, rfl, hk.app hV, hS, hF⟩ ?_
  rintro k a w ⟨x, rfl, hk, hS, hF⟩
  refine wpIn_mono (step x a w hk hS hF) ?_
  intro e a' w' hq
  cases e with
  | normal =>
    obtain ⟨x', hlt, h1, h2, h3⟩ := hq
    exact ⟨μ x', hlt, x', rfl, h1, h2, h3⟩
  | exit i => exact hq
  | goto i => exact hq
  | ret => exact hq
  | panic c => exact hq
  | outgrown => exact hq
/-- A call of a function value; its contract is asked for last. -/
theorem g_callvO {R' : Value → World → Prop} {x : Operand} {f : FuncId} {first cap : List Value} {xs : List Operand} {vs : List Value} {ts : Array TypeId} (hk : Kn df n a l)
    (hx : ev l x = some (.func (.func f) first.toArray cap.toArray) := by rfl) (hxs : evs l xs = some vs := by rfl) (hf : callable P f = true) (hc : Calls P f (first ++ vs ++ cap).toArray w (Ret R'))
    (h : ∀ v w', R' v w' → R v w') : Gives P ⟨dst, .call { callee := .value x, args := xs.toArray, argTypes := ts }, ty, pos, af, g⟩ a w R :=
  g_callv hk hf hc h hx hxs
/-- The empty list. -/
theorem g_bs0 (α : Type) [Enc α] {T E k : Nat} (hS : St w0 L w) (h : ∀ w' v, St w0 (OwT E ([] : List α) v :: L) w' → R v w') (hT : elOf P T = some E) (hE : szOf P E = some k) :
    Gives P ⟨dst, .buildSlice T 0 #[], ty, pos, af, g⟩ a w R := by
  refine givesv (v := .slice (some ⟨w.heap.size, 0, none⟩) 0 0) (w' := w.alloc (.cells #[] E)) ?_ (h _ _ ?_)
  · simp only [execOp, Instr.buildSlice, Sem.run_bind, run_underlying (elOf_und hT), Result.andThen_ok, szOf_run hE]
    have e : (Array.map (fun (_ : Nat) => (default : Value)) (Array.range 0)) = #[] := Array.eq_empty_of_size_eq_zero (by simp)
    simp [Instr.fill, newRow, e]
  · have := (hS.alloc [] E).ptsOwn At.here (k := Enc.k α + 1) (n := 0) (by simp) (by simp [maxLen])
    unfold OwT
    exact this
theorem g_appE {α : Type} [Enc α] {x y : Operand} {t tx : TypeId} {E E' : Nat} {v y0 z : Value} {xs ys : List α} {L'' : List HP} (hk : Kn df n a l) (hS : St w0 L w)
    (h : ∀ w' v', St w0 (OwT E (xs ++ ys) v' :: L'') w' → R v' w')
    (hx : ev l x = some v := by rfl) (hy : ev l y = some y0 := by rfl)
    (hat : At (OwT E xs v) L L' := by (repeat (first | exact At.here | apply At.there)))
    (hT : elOf P t = some E) (hTx : elOf P tx = some E')
    (hat2 : At (OwT E' ys y0) L' L'' := by (repeat (first | exact At.here | apply At.there)))
    (hE : szOf P E = some (Enc.k α + 1)) (hz : zeroOf P E = some z) (hzs : z.cells.size = Enc.k α + 1) {by_ : Nat} (hby : ((P.info? E).map (·.bytes)).getD 0 = by_) (hbytes : (xs.length + ys.length) * by_ ≤ 140737488355328) (h63 : xs.length + ys.length ≤ 9223372036854775807) :
    Gives P ⟨dst, .call { callee := .builtin .append, args := #[x, y], argTypes := #[t, tx] }, ty, pos, af, g⟩ a w R :=
  g_appD hk hS h hx hy hat hT hTx hat2 hE hz hzs hby hbytes (by simpa [maxLen] using h63)
/-! ## Arrays -/
theorem g_ixArr {x y : Operand} {t : TypeId} {m e b o k : Nat} {i : Int} {kk : IntKind} (hk : Kn df n a l) (h : R (.pointer (some ⟨b, o + i.toNat * k, none⟩)) w)
    (hx : ev l x = some (.pointer (some ⟨b, o, none⟩)) := by rfl) (hy : ev l y = some (.int kk i) := by rfl) (ht : P.underlying t = some (.array m e)) (he : szOf P e = some k) (h0 : 0 ≤ i) (h1 : i < m) :
    Gives P ⟨dst, .indexAddr t x y, ty, pos, af, g⟩ a w R := by
  refine givesv (v := .pointer (some ⟨b, o + i.toNat * k, none⟩)) ?_ h
  simp [execOp, hk.eval hx, hk.eval hy, Instr.indexAt, run_underlying ht, asIntOf, Instr.sureAddr, h0, h1, szOf_run he, addr_add]
theorem g_buildA {T : TypeId} {m e k : Nat} {v : Value} {z : List Value} (h : R (.agg z.toArray) w) (hT : P.underlying T = some (.array m e)) (he : szOf P e = some k) (hz : zeroOf P T = some v) (hv : v.cells = z.toArray := by rfl) :
    Gives P ⟨dst, .build T #[], ty, pos, af, g⟩ a w R := by
  refine givesv (v := .agg z.toArray) ?_ h
  simp [execOp, Instr.build, zeroOf_run hz, run_underlying hT, szOf_run he, hv, Instr.fill]
theorem bits7 {p : Int} (h0 : 0 ≤ p) (h1 : p ≤ 7) : bits .and .i64 p 7 = p := by
  have hc : p = 0 ∨ p = 1 ∨ p = 2 ∨ p = 3 ∨ p = 4 ∨ p = 5 ∨ p = 6 ∨ p = 7 := by omega
  rcases hc with rfl | rfl | rfl | rfl | rfl | rfl | rfl | rfl <;> decide +kernel
theorem bits8 {p : Int} (h0 : 0 ≤ p) (h1 : p ≤ 7) : bits .and .i64 p 8 = 0 := by
  have hc : p = 0 ∨ p = 1 ∨ p = 2 ∨ p = 3 ∨ p = 4 ∨ p = 5 ∨ p = 6 ∨ p = 7 := by omega
  rcases hc with rfl | rfl | rfl | rfl | rfl | rfl | rfl | rfl <;> decide +kernel
theorem g_and {x y : Operand} {t t' : TypeId} {k : IntKind} {p q r : Int} (hk : Kn df n a l) (h : R (.int k r) w) (hb : bits .and k p q = r) (hx : ev l x = some (.int k p) := by rfl) (hy : ev l y = some (.int k q) := by rfl) :
    Gives P ⟨dst, .binOp .and t x y t', ty, pos, af, g⟩ a w R := by
  refine givesv (v := .int k r) ?_ h
  subst hb
  simp [execOp, hk.eval hx, hk.eval hy, eqGuard, binOp_and, intBits_and]
theorem g_and7a {x y : Operand} {t t' : TypeId} {p : Int} (hk : Kn df n a l) (h : R (.int .i64 p) w) (hx : ev l x = some (.int .i64 p) := by rfl) (hy : ev l y = some (.int .i64 7) := by rfl) (h0 : 0 ≤ p) (h1 : p ≤ 7) :
    Gives P ⟨dst, .binOp .and t x y t', ty, pos, af, g⟩ a w R := g_and hk h (bits7 h0 h1) hx hy
theorem g_and7b {x y : Operand} {t t' : TypeId} {p : Int} (hk : Kn df n a l) (h : R (.int .i64 0) w) (hx : ev l x = some (.int .i64 p) := by rfl) (hy : ev l y = some (.int .i64 7) := by rfl) (h0 : p = 8) :
    Gives P ⟨dst, .binOp .and t x y t', ty, pos, af, g⟩ a w R := g_and hk h (by subst h0; decide +kernel) hx hy
theorem g_and8a {x y : Operand} {t t' : TypeId} {p : Int} (hk : Kn df n a l) (h : R (.int .i64 0) w) (hx : ev l x = some (.int .i64 p) := by rfl) (hy : ev l y = some (.int .i64 8) := by rfl) (h0 : 0 ≤ p) (h1 : p ≤ 7) :
    Gives P ⟨dst, .binOp .and t x y t', ty, pos, af, g⟩ a w R := g_and hk h (bits8 h0 h1) hx hy
theorem g_and8b {x y : Operand} {t t' : TypeId} {p : Int} (hk : Kn df n a l) (h : R (.int .i64 8) w) (hx : ev l x = some (.int .i64 p) := by rfl) (hy : ev l y = some (.int .i64 8) := by rfl) (h0 : p = 8) :
    Gives P ⟨dst, .binOp .and t x y t', ty, pos, af, g⟩ a w R := g_and hk h (by subst h0; decide +kernel) hx hy
/-! ## A halt between two codes -/
theorem Oper.wpInK_mono {o : Oper} {K K' K1 K2 : Act → World → Prop} (hk : ∀ a w, K1 a w → K2 a w) (h : o.wpIn (FR rr) 0 P a w K1 (Exit.then K Q)) : o.wpIn (FR rr) 0 P a w K2 (Exit.then K' Q) := by
  unfold Oper.wpIn at h ⊢
  refine ⟨h.1, ?_⟩
  have hh := h.2
  generalize (o.semAt (FR rr).round a.eval).run P w = r at hh ⊢
  cases r with
  | ok x w' =>
    cases x <;> simp only [Oper.uponIn] at hh ⊢ <;>
      first
        | exact hk _ _ hh
        | exact hh
        | exact ⟨hh.1, CallsIn.mono hh.2 (fun e w'' he => by cases e <;> first | exact hk _ _ he | exact he)⟩
        | exact ⟨hh.1, RowsIn.mono hh.2 (fun _ _ he => hk _ _ he)⟩
        | exact ⟨hh.1, RoundIn.mono hh.2 (fun e w'' he => by cases e <;> first | exact hk _ _ he | exact he)⟩
  | halt x w' => cases x <;> simp only [Oper.uponIn] at hh ⊢ <;> exact hh

theorem wpListIn_then {ops : Array Oper} {K K' : Act → World → Prop} (hK : ∀ a w, K a w → K' a w) : ∀ (r : List Oper) (a : Act) (w : World), wpListIn (FR rr) 0 P ops (Exit.then K Q) r a w → wpListIn (FR rr) 0 P ops (Exit.then K' Q) r a w
  | [], a, w, h => hK a w h
  | o :: r, a, w, h => by
    have ih : ∀ a w, wpListIn (FR rr) 0 P ops (Exit.then K Q) r a w → wpListIn (FR rr) 0 P ops (Exit.then K' Q) r a w := fun a w => wpListIn_then hK r a w
    unfold wpListIn at h ⊢
    split
    · rename_i hw
      rw [if_pos hw] at h
      exact Oper.wpInK_mono ih h
    · rename_i hw
      rw [if_neg hw] at h
      exact ⟨h.1, ih _ _ h.2⟩
end

/-! ## Structs that are the same -/
theorem beq_str (a b : ByteArray) : (a == b) = true ↔ a = b := by
  cases a
  cases b
  simp only [BEq.beq, ByteArray.beq, ByteArray.mk.injEq]
  constructor
  · exact fun h => Array.eq_of_isEqv _ _ h
  · intro h
    subst h
    exact Array.isEqv_self _
theorem eqC_eq : ∀ {ks : List SK} {us vs : List Value}, shp ks us = true → shp ks vs = true → (eqC us vs = true ↔ us = vs)
  | [], [], [], _, _ => by simp [eqC]
  | [], _ :: _, _, h, _ => by simp [shp] at h
  | [], [], _ :: _, _, h => by simp [shp] at h
  | .int k :: ks, [], _, h, _ => by simp [shp] at h
  | .bool :: ks, [], _, h, _ => by simp [shp] at h
  | .str :: ks, [], _, h, _ => by simp [shp] at h
  | .int k :: ks, _ :: _, [], _, h => by simp [shp] at h
  | .bool :: ks, _ :: _, [], _, h => by simp [shp] at h
  | .str :: ks, _ :: _, [], _, h => by simp [shp] at h
  | .int k :: ks, u :: us, v :: vs, h1, h2 => by
    cases u <;> simp [shp] at h1
    cases v <;> simp [shp] at h2
    obtain ⟨rfl, h1⟩ := h1
    obtain ⟨rfl, h2⟩ := h2
    simp [eqC, eqC_eq h1 h2]
  | .bool :: ks, u :: us, v :: vs, h1, h2 => by
    cases u <;> simp [shp] at h1
    cases v <;> simp [shp] at h2
    simp [eqC, eqC_eq h1 h2]
  | .str :: ks, u :: us, v :: vs, h1, h2 => by
    cases u <;> simp [shp] at h1
    cases v <;> simp [shp] at h2
    simp [eqC, eqC_eq h1 h2, beq_str]

theorem shp_join : ∀ {k1 k2 : List SK} {us vs : List Value}, shp k1 us = true → shp k2 vs = true → shp (k1 ++ k2) (us ++ vs) = true
  | [], _, [], _, _, h => by simpa using h
  | [], _, _ :: _, _, h, _ => by simp [shp] at h
  | .int k :: ks, _, [], _, h, _ => by simp [shp] at h
  | .bool :: ks, _, [], _, h, _ => by simp [shp] at h
  | .str :: ks, _, [], _, h, _ => by simp [shp] at h
  | .int k :: ks, _, u :: us, vs, h, h2 => by
    cases u <;> simp [shp] at h
    simp [shp, h.1, shp_join h.2 h2]
  | .bool :: ks, _, u :: us, vs, h, h2 => by
    cases u <;> simp [shp] at h
    simp [shp, shp_join h h2]
  | .str :: ks, _, u :: us, vs, h, h2 => by
    cases u <;> simp [shp] at h
    simp [shp, shp_join h h2]

/-- Elements that their cells tell apart. -/
class EncI (α : Type) [Enc α] where
  ks : List SK
  kl : ks.length = Enc.k α + 1
  sh : ∀ x : α, shp ks (Enc.f x) = true
  inj : ∀ {x y : α}, Enc.f x = Enc.f y → x = y
  sur : ∀ us, shp ks us = true → ∃ x : α, Enc.f x = us
instance : EncI Int := ⟨[.int .i64], rfl, fun _ => rfl, fun h => by simpa [Enc.f] using h, fun us h => by obtain ⟨p, rfl⟩ := shp_int h; exact ⟨p, rfl⟩⟩
instance : EncI ByteArray := ⟨[.str], rfl, fun _ => rfl, fun h => by simpa [Enc.f] using h, fun us h => by obtain ⟨p, rfl⟩ := shp_str h; exact ⟨p, rfl⟩⟩
instance : EncI Bool := ⟨[.bool], rfl, fun _ => rfl, fun h => by simpa [Enc.f] using h, fun us h => by obtain ⟨p, rfl⟩ := shp_bool h; exact ⟨p, rfl⟩⟩
instance {α β : Type} [Enc α] [Enc β] [EncI α] [EncI β] : EncI (α × β) := ⟨EncI.ks α ++ EncI.ks β, by rw [List.length_append, EncI.kl, EncI.kl]; show _ = Enc.k α + Enc.k β + 1 + 1; omega, fun x => shp_join (EncI.sh x.1) (EncI.sh x.2), fun {x y} h => by
  have h := List.append_inj h (by rw [Enc.len, Enc.len])
  exact Prod.ext (EncI.inj h.1) (EncI.inj h.2), fun us h => by
  obtain ⟨h1, h2⟩ := shp_app h
  obtain ⟨x, hx⟩ := EncI.sur _ h1
  obtain ⟨y, hy⟩ := EncI.sur _ h2
  exact ⟨(x, y), by show Enc.f x ++ Enc.f y = us; rw [hx, hy, List.take_append_drop]⟩⟩
theorem eqC_enc {α : Type} [Enc α] [EncI α] {x y : α} {b : Bool} (h : eqC (Enc.f x) (Enc.f y) = b) : if b = true then x = y else x ≠ y := by
  cases b with
  | true => exact EncI.inj ((eqC_eq (EncI.sh x) (EncI.sh y)).1 h)
  | false =>
    rw [if_neg (by decide)]
    intro e
    rw [e, eqC_self] at h
    cases h

/-! ## Results, of which some lie in variables -/
inductive ResV (P : Program) (l : List (Nat × Value)) (w : World) : ResultVar → Value → Prop
  | tmp {t : Nat} {v : Value} (h : lk l t = some v) : ResV P l w (.tmp t) v
  | cell {t T b o : Nat} {v : Value} (h : lk l t = some (.pointer (some ⟨b, o, none⟩))) (hv : (Instr.loadAt T (.pointer (some ⟨b, o, none⟩))).run P w = .ok v w) : ResV P l w (.cell t T) v

section
variable {P : Program} {a : Act} {w : World} {w0 : Bs} {n : Nat} {l : List (Nat × Value)} {L L' : List HP} {fn : Func} {R : Value → World → Prop}

def rvOf (tmps : Array Value) : ResultVar → Sem Value
  | .tmp t => pure (tmps.getD t undef)
  | .cell x t => do loadVar t (← asAddr (tmps.getD x undef))
theorem results_rv (fn : Func) (tmps : Array Value) : results fn tmps = (do
    let vs ← fn.results.mapM (rvOf tmps)
    pure (if h : vs.size = 1 then vs[0] else .tuple vs)) := rfl

theorem ResV.run {r : ResultVar} {v : Value} (hk : Kn df n a l) (h : ResV P l w r v) : (rvOf a.tmps r).run P w = .ok v w := by
  cases h with
  | tmp h =>
    have := hk.get _ _ h
    simp [rvOf]
    simpa using this
  | cell h hv =>
    simp only [Instr.loadAt, Instr.sureAddr] at hv
    have hp := hk.get _ _ h
    simp at hv
    unfold rvOf
    simp only [hp]
    simp [asAddr, hv]

/-- A variable of the call's own, of one cell. -/
theorem ResV.one {t T b o : Nat} {v : Value} {vs : List Value} {T' : TypeId} (hS : St w0 L w) (h : lk l t = some (.pointer (some ⟨b, o, none⟩)) := by rfl) (hat : At (pts b vs T') L L' := by (repeat (first | exact At.here | apply At.there))) (hT : aggOf P T = some false) (hv : vs[o]? = some v := by rfl) : ResV P l w (.cell t T) v :=
  .cell h (run_load1 hT (by rw [cell_of_row w b o _ T' _ (pts.block (hS.rd hat))]; simpa using hv))
/-- A variable of the call's own: a struct. -/
theorem ResV.str {t T b o k : Nat} {vs us : List Value} {T' : TypeId} (hS : St w0 L w) (h : lk l t = some (.pointer (some ⟨b, o, none⟩)) := by rfl) (hat : At (pts b vs T') L L' := by (repeat (first | exact At.here | apply At.there))) (hT : aggOf P T = some true) (hs : szOf P T = some k)
    (hus : (vs.drop o).take k = us := by rfl) (hl : us.length = k := by rfl) : ResV P l w (.cell t T) (.agg us.toArray) :=
  .cell h (run_loadN hT (by rw [hl]; exact hs) (by have hc := Cells.of_block (pts.block (hS.rd hat)) o k; rw [hus] at hc; exact hc))

theorem done1R {r : ResultVar} {v : Value} (hk : Kn [] n a l) (hr : fn.results = #[r]) (h1 : ResV P l w r v) (h : R v w) : Done P fn R .ret a w := by
  refine bodyPost_ret (v := v) ?_ hk.defers ⟨_, rfl, h⟩
  have e1 := h1.run hk
  rw [results_rv, hr]
  simp [e1]
theorem done2R {r r' : ResultVar} {v v' : Value} (hk : Kn [] n a l) (hr : fn.results = #[r, r']) (h1 : ResV P l w r v) (h2 : ResV P l w r' v') (h : R (.tuple #[v, v']) w) : Done P fn R .ret a w := by
  refine bodyPost_ret (v := .tuple #[v, v']) ?_ hk.defers ⟨_, rfl, h⟩
  have e1 := h1.run hk
  have e2 := h2.run hk
  rw [results_rv, hr]
  simp [e1, e2]
theorem done3R {r r' r'' : ResultVar} {v v' v'' : Value} (hk : Kn [] n a l) (hr : fn.results = #[r, r', r'']) (h1 : ResV P l w r v) (h2 : ResV P l w r' v') (h3 : ResV P l w r'' v'') (h : R (.tuple #[v, v', v'']) w) : Done P fn R .ret a w := by
  refine bodyPost_ret (v := .tuple #[v, v', v'']) ?_ hk.defers ⟨_, rfl, h⟩
  have e1 := h1.run hk
  have e2 := h2.run hk
  have e3 := h3.run hk
  rw [results_rv, hr]
  simp [e1, e2, e3]
end
end Go.Proofs.Ytakejjfmbgbedaa
