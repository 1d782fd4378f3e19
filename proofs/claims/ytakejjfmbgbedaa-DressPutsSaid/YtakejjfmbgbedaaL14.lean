/- Texts, parts of slices, fields of values, functions as values. -/
import Derived.Test.YtakejjfmbgbedaaL13
import Derived.Laws.Strings3
import Derived.Laws.DeepStrings4
namespace Go.Proofs.Ytakejjfmbgbedaa
variable {df : List Deferred}
open Go.RowKit

section
variable {P : Program} {a : Act} {w w' : World} {w0 : Bs} {n : Nat} {l : List (Nat × Value)} {L L' : List HP}
  {dst : Option Nat} {R : Value → World → Prop} {ty : TypeId} {pos : String} {af : Array Edge} {g : Option (Nat × Bool)} {α : Type} [Enc α]

/-! ## Texts -/
theorem toList_beq (s t : ByteArray) : (s.toList == t.toList) = decide (s = t) := by
  rw [Bool.eq_iff_iff]
  simp [ByteArray.toList_eq]
  exact ⟨fun h => ByteArray.ext h, fun h => by rw [h]⟩

theorem g_eqS {x y : Operand} {t t' : TypeId} {s r : ByteArray} (hk : Kn df n a l) (h : R (.bool (decide (s = r))) w)
    (hx : ev l x = some (.string s) := by rfl) (hy : ev l y = some (.string r) := by rfl) : Gives P ⟨dst, .binOp .eql t x y t', ty, pos, af, g⟩ a w R :=
  givesv (v := .bool (decide (s = r))) (by simp [execOp, hk.eval hx, hk.eval hy, eqGuard, binOp_string_eql, toList_beq]) h
theorem g_neS {x y : Operand} {t t' : TypeId} {s r : ByteArray} (hk : Kn df n a l) (h : R (.bool (!decide (s = r))) w)
    (hx : ev l x = some (.string s) := by rfl) (hy : ev l y = some (.string r) := by rfl) : Gives P ⟨dst, .binOp .neq t x y t', ty, pos, af, g⟩ a w R :=
  givesv (v := .bool (!decide (s = r))) (by simp [execOp, hk.eval hx, hk.eval hy, eqGuard, binOp_string_neq, toList_beq]) h
theorem g_eqST {x y : Operand} {t t' : TypeId} {s r : ByteArray} (hk : Kn df n a l) (h : R (.bool true) w)
    (hx : ev l x = some (.string s) := by rfl) (hy : ev l y = some (.string r) := by rfl) (hpq : s = r) : Gives P ⟨dst, .binOp .eql t x y t', ty, pos, af, g⟩ a w R :=
  g_eqS hk (by rw [decide_eq_true hpq]; exact h) hx hy
theorem g_eqSF {x y : Operand} {t t' : TypeId} {s r : ByteArray} (hk : Kn df n a l) (h : R (.bool false) w)
    (hx : ev l x = some (.string s) := by rfl) (hy : ev l y = some (.string r) := by rfl) (hpq : ¬ s = r) : Gives P ⟨dst, .binOp .eql t x y t', ty, pos, af, g⟩ a w R :=
  g_eqS hk (by rw [decide_eq_false hpq]; exact h) hx hy
theorem g_neST {x y : Operand} {t t' : TypeId} {s r : ByteArray} (hk : Kn df n a l) (h : R (.bool true) w)
    (hx : ev l x = some (.string s) := by rfl) (hy : ev l y = some (.string r) := by rfl) (hpq : ¬ s = r) : Gives P ⟨dst, .binOp .neq t x y t', ty, pos, af, g⟩ a w R :=
  g_neS hk (by rw [decide_eq_false hpq]; exact h) hx hy
theorem g_neSF {x y : Operand} {t t' : TypeId} {s r : ByteArray} (hk : Kn df n a l) (h : R (.bool false) w)
    (hx : ev l x = some (.string s) := by rfl) (hy : ev l y = some (.string r) := by rfl) (hpq : s = r) : Gives P ⟨dst, .binOp .neq t x y t', ty, pos, af, g⟩ a w R :=
  g_neS hk (by rw [decide_eq_true hpq]; exact h) hx hy
theorem g_ltS {x y : Operand} {t t' : TypeId} {s r : ByteArray} (hk : Kn df n a l) (h : R (.bool (Op.bytesLess s.toList r.toList)) w)
    (hx : ev l x = some (.string s) := by rfl) (hy : ev l y = some (.string r) := by rfl) : Gives P ⟨dst, .binOp .lss t x y t', ty, pos, af, g⟩ a w R :=
  givesv (v := .bool (Op.bytesLess s.toList r.toList)) (by simp [execOp, hk.eval hx, hk.eval hy, eqGuard, binOp_string_lss]) h
theorem g_cat {x y : Operand} {t t' : TypeId} {s r : ByteArray} (hk : Kn df n a l) (h : R (.string (s ++ r)) w)
    (hx : ev l x = some (.string s) := by rfl) (hy : ev l y = some (.string r) := by rfl) (hl : s.size + r.size ≤ maxLen) : Gives P ⟨dst, .binOp .add t x y t', ty, pos, af, g⟩ a w R := by
  refine givesv (v := .string (s ++ r)) ?_ h
  have hm : (IntKind.i64.max : Int) = 9223372036854775807 := by decide
  have hn : ¬ (IntKind.i64.max < ((s.size + r.size : Nat) : Int)) := by
    rw [hm]; simp only [maxLen] at hl; omega
  simp only [execOp, hk.eval hx, hk.eval hy, eqGuard, binOp_string_add, Op.stringOp]
  simp only [gt_iff_lt, if_neg hn]
  rfl
/-- s[:j] -/
theorem g_slSt {x y : Operand} {t : TypeId} {s : ByteArray} {k : IntKind} {j : Int} (hk : Kn df n a l) (h : R (.string (s.extract 0 j.toNat)) w) (hx : ev l x = some (.string s) := by rfl) (hy : ev l y = some (.int k j) := by rfl)
    (ht : P.underlying t = some .string) (h0 : 0 ≤ j) (h1 : j ≤ s.size) : Gives P ⟨dst, .slice t x none (some y) none, ty, pos, af, g⟩ a w R := by
  refine givesv (v := .string (s.extract 0 j.toNat)) ?_ h
  have := run_slice_string_to_if (P := P) w t s k j ht
  rw [if_pos ⟨h0, h1⟩] at this
  simp [execOp, hk.eval hx, hk.eval hy, Instr.sliceAt, run_underlying ht, this]
/-- s[i:] -/
theorem g_slSf {x y : Operand} {t : TypeId} {s : ByteArray} {k : IntKind} {i : Int} (hk : Kn df n a l) (h : R (.string (s.extract i.toNat s.size)) w) (hx : ev l x = some (.string s) := by rfl) (hy : ev l y = some (.int k i) := by rfl)
    (ht : P.underlying t = some .string) (h0 : 0 ≤ i) (h1 : i ≤ s.size) : Gives P ⟨dst, .slice t x (some y) none none, ty, pos, af, g⟩ a w R := by
  refine givesv (v := .string (s.extract i.toNat s.size)) ?_ h
  have := run_slice_string_from_if (P := P) w t s k i ht
  rw [if_pos ⟨h0, h1⟩] at this
  simp [execOp, hk.eval hx, hk.eval hy, Instr.sliceAt, run_underlying ht, this]
/-- s[i:j] -/
theorem g_slS {x y z : Operand} {t : TypeId} {s : ByteArray} {k k' : IntKind} {i j : Int} (hk : Kn df n a l) (h : R (.string (s.extract i.toNat j.toNat)) w) (hx : ev l x = some (.string s) := by rfl) (hy : ev l y = some (.int k i) := by rfl) (hz : ev l z = some (.int k' j) := by rfl)
    (ht : P.underlying t = some .string) (h0 : 0 ≤ i) (h1 : i ≤ j) (h2 : j ≤ s.size) : Gives P ⟨dst, .slice t x (some y) (some z) none, ty, pos, af, g⟩ a w R := by
  refine givesv (v := .string (s.extract i.toNat j.toNat)) ?_ h
  have := run_slice_string (P := P) w t s k k' i j ht h0 h1 h2
  simp [execOp, hk.eval hx, hk.eval hy, hk.eval hz, Instr.sliceAt, run_underlying ht, this]
/-- s[i] -/
theorem g_ixS {x y : Operand} {t : TypeId} {s : ByteArray} {k : IntKind} {i : Nat} (hk : Kn df n a l) (hx : ev l x = some (.string s) := by rfl) (hy : ev l y = some (.int k (i : Int)) := by rfl)
    (ht : P.underlying t = some .string) (h1 : i < s.size) (h : R (.int .u8 (s[i].toNat : Nat)) w) : Gives P ⟨dst, .index t x y, ty, pos, af, g⟩ a w R := by
  refine givesv (v := .int .u8 (s[i].toNat : Nat)) ?_ h
  have h0 : (0 : Int) ≤ (i : Int) := by omega
  simp [execOp, hk.eval hx, hk.eval hy, Instr.index, asIntOf, run_underlying ht, h0, ByteArray.getElem?_lt' s i h1]
/-- s[0] -/
theorem g_ixS0 {x y : Operand} {t : TypeId} {s : ByteArray} {k : IntKind} (hk : Kn df n a l) (hx : ev l x = some (.string s) := by rfl) (hy : ev l y = some (.int k 0) := by rfl)
    (ht : P.underlying t = some .string) (h1 : 0 < s.size) (h : R (.int .u8 (s[0].toNat : Nat)) w) : Gives P ⟨dst, .index t x y, ty, pos, af, g⟩ a w R :=
  g_ixS (i := 0) hk hx hy ht h1 h

/-! ## A part of a slice that is read -/
theorem SlT.part {xs : List α} {v : Value} {w : World} (h : SlT xs v w) {i j : Nat} (hij : i ≤ j) (hj : j ≤ xs.length) :
    ∃ ao c, v = .slice ao xs.length c ∧ SlT ((xs.take j).drop i) (.slice (if c = i then ao else ao.map (·.add (i * (Enc.k α + 1)))) (j - i) (c - i)) w := by
  have hl : ((xs.take j).drop i).length = j - i := by simp; omega
  obtain ⟨h1, h2, h3⟩ := h
  have he : enc ((xs.take j).drop i) = ((enc xs).take (j * (Enc.k α + 1))).drop (i * (Enc.k α + 1)) := by rw [enc_take, enc_drop]
  rcases h3 with ⟨rfl, h0⟩ | ⟨ad, c, rfl, hn, hc, hcell⟩
  · have e1 : i = 0 := by omega
    have e2 : j = 0 := by omega
    subst e1; subst e2
    refine ⟨none, 0, by rw [h0], ?_⟩
    simp only [List.take_zero, List.drop_nil, if_true]
    exact SlT.nil w
  · refine ⟨some ad, c, rfl, by rw [enc_len], by rw [hl]; omega, ?_⟩
    right
    refine ⟨if c = i then ad else ad.add (i * (Enc.k α + 1)), c - i, by rw [hl]; congr 1; split <;> rfl, by omega, by omega, fun q u hq => ?_⟩
    have hql : q < (enc ((xs.take j).drop i)).length := by
      rcases Nat.lt_or_ge q (enc ((xs.take j).drop i)).length with h' | h'
      · exact h'
      · rw [List.getElem?_eq_none h'] at hq; cases hq
    have hci : ¬ c = i := by
      intro e
      rw [enc_len, hl] at hql
      have : j - i = 0 := by omega
      rw [this] at hql
      omega
    rw [if_neg hci]
    rw [he, List.getElem?_drop, List.getElem?_take] at hq
    split at hq
    · obtain ⟨hsp, hcl⟩ := hcell _ u hq
      obtain ⟨b, o, sp⟩ := ad
      simp only at hsp
      subst hsp
      rw [addr_add]
      refine ⟨rfl, ?_⟩
      simp only
      rw [Nat.add_assoc]
      exact hcl
    · cases hq

theorem g_part {x : Operand} {y z : Option Operand} {vy vz : Option Value} {t E i j : Nat} {v : Value} {xs : List α} (hk : Kn df n a l)
    (h : ∀ v', (∀ w1, SlT xs v w1 → SlT ((xs.take j).drop i) v' w1) → R v' w) (hx : ev l x = some v) (hs : SlT xs v w) (ht : elOf P t = some E) (hE : szOf P E = some (Enc.k α + 1)) (hij : i ≤ j) (hj : j ≤ xs.length)
    (hev : ∀ ρ : Operand → Value, (∀ o u, ev l o = some u → ρ o = u) → y.map ρ = vy ∧ z.map ρ = vz) (hb : ∀ (w1 : World) (c : Nat), xs.length ≤ c → (Instr.sliceBounds true xs.length c vy vz none).run P w1 = .ok (i, j, c) w1) :
    Gives P ⟨dst, .slice t x y z none, ty, pos, af, g⟩ a w R := by
  obtain ⟨ao, c, hv, _, hc, _⟩ := hs.shape
  refine givesv (v := .slice (if c = i then ao else ao.map (·.add (i * (Enc.k α + 1)))) (j - i) (c - i)) ?_ (h _ (fun w1 h1 => ?_))
  · obtain ⟨e1, e2⟩ := hev a.eval (fun o u ho => hk.eval ho)
    subst hv
    have hbb := hb w c hc
    simp [execOp, hk.eval hx, e1, e2, Instr.sliceAt, Instr.slice, run_underlying (elOf_und ht), hbb, szOf_run hE]
  · obtain ⟨ao', c', hv', hh⟩ := h1.part hij hj
    rw [hv] at hv'
    cases hv'
    exact hh

/-- x[:j] -/
theorem g_partT {x y : Operand} {t E j : Nat} {v : Value} {xs : List α} {k : IntKind} (hk : Kn df n a l)
    (h : ∀ v', (∀ w1, SlT xs v w1 → SlT (xs.take j) v' w1) → R v' w) (hx : ev l x = some v := by rfl) (hy : ev l y = some (.int k (j : Int)) := by rfl) (ht : elOf P t = some E) (hs : SlT xs v w) (hE : szOf P E = some (Enc.k α + 1)) (hj : j ≤ xs.length) :
    Gives P ⟨dst, .slice t x none (some y) none, ty, pos, af, g⟩ a w R := by
  refine g_part (i := 0) (j := j) (vy := none) (vz := some (.int k j)) hk (fun v' h' => h v' (by simpa using h')) hx hs ht hE (by omega) hj (fun ρ hρ => ⟨rfl, by simp [hρ y _ hy]⟩) (fun w1 c hc => ?_)
  have h1 : (0 : Int) ≤ (j : Int) ∧ (j : Int) ≤ (c : Int) := ⟨by omega, by omega⟩
  have hjc : j ≤ c := Nat.le_trans hj hc
  simp [Instr.sliceBounds, Instr.sliceBound, asIntOf, hjc]
/-- x[i:] -/
theorem g_partF {x y : Operand} {t E i : Nat} {v : Value} {xs : List α} {k : IntKind} (hk : Kn df n a l)
    (h : ∀ v', (∀ w1, SlT xs v w1 → SlT (xs.drop i) v' w1) → R v' w) (hx : ev l x = some v := by rfl) (hy : ev l y = some (.int k (i : Int)) := by rfl) (ht : elOf P t = some E) (hs : SlT xs v w) (hE : szOf P E = some (Enc.k α + 1)) (hi : i ≤ xs.length) :
    Gives P ⟨dst, .slice t x (some y) none none, ty, pos, af, g⟩ a w R := by
  refine g_part (i := i) (j := xs.length) (vy := some (.int k i)) (vz := none) hk (fun v' h' => h v' (by simpa using h')) hx hs ht hE hi (Nat.le_refl _) (fun ρ hρ => ⟨by simp [hρ y _ hy], rfl⟩) (fun w1 c hc => ?_)
  simp [Instr.sliceBounds, Instr.sliceBound, asIntOf, hi]
/-- x[i:j] -/
theorem g_partB {x y z : Operand} {t E i j : Nat} {v : Value} {xs : List α} {k k' : IntKind} (hk : Kn df n a l)
    (h : ∀ v', (∀ w1, SlT xs v w1 → SlT ((xs.take j).drop i) v' w1) → R v' w) (hx : ev l x = some v := by rfl) (hy : ev l y = some (.int k (i : Int)) := by rfl) (hz : ev l z = some (.int k' (j : Int)) := by rfl) (ht : elOf P t = some E) (hs : SlT xs v w) (hE : szOf P E = some (Enc.k α + 1)) (hij : i ≤ j) (hj : j ≤ xs.length) :
    Gives P ⟨dst, .slice t x (some y) (some z) none, ty, pos, af, g⟩ a w R := by
  refine g_part (i := i) (j := j) (vy := some (.int k i)) (vz := some (.int k' j)) hk h hx hs ht hE hij hj (fun ρ hρ => ⟨by simp [hρ y _ hy], by simp [hρ z _ hz]⟩) (fun w1 c hc => ?_)
  have hjc : j ≤ c := Nat.le_trans hj hc
  simp [Instr.sliceBounds, Instr.sliceBound, asIntOf, hjc, hij]

/-! ## A field of a value; functions as values; numbers -/
theorem g_fieldV {x : Operand} {T f off : Nat} {us : List Value} {u : Value} {fv : List (Nat × Option Bool)} (hk : Kn df n a l) (h : R u w) (hf : fvOf P T = some fv) (hx : ev l x = some (.agg us.toArray) := by rfl)
    (ho : fv[f]? = some (off, some false) := by rfl) (hu : us[off]? = some u := by rfl) : Gives P ⟨dst, .field T x f, ty, pos, af, g⟩ a w R := by
  refine givesv (v := u) ?_ h
  unfold fvOf at hf
  cases hd : P.underlying T with
  | none => rw [hd] at hf; simp at hf
  | some d =>
    rw [hd] at hf
    cases d <;> simp only [reduceCtorEq, Option.some.injEq] at hf
    case struct fs =>
      subst hf
      simp only [List.getElem?_map, Option.map_eq_some_iff] at ho
      obtain ⟨fl, hfl, he⟩ := ho
      simp only [Prod.mk.injEq] at he
      have hfl' : fs[f]? = some fl := by simpa using hfl
      simp [execOp, hk.eval hx, Instr.field, run_underlying hd, hfl', part, asAgg, aggOf_run he.2, he.1, hu]

theorem g_makeFunc {f : Fn} {first cap : List Operand} {vf vc : List Value} (hk : Kn df n a l) (h : R (.func f vf.toArray vc.toArray) w) (h1 : evs l first = some vf := by rfl) (h2 : evs l cap = some vc := by rfl) :
    Gives P ⟨dst, .makeFunc f first.toArray cap.toArray, ty, pos, af, g⟩ a w R := by
  refine givesv (v := .func f vf.toArray vc.toArray) ?_ h
  have e1 := evs_map hk h1
  have e2 := evs_map hk h2
  simp [execOp, Instr.makeFunc, e1, e2]

theorem g_shr {x y : Operand} {t t' : TypeId} {k k' : IntKind} {p : Int} {m : Nat} (hk : Kn df n a l) (h : R (.int k (p.fdiv (2 ^ m))) w) (hx : ev l x = some (.int k p) := by rfl) (hy : ev l y = some (.int k' (m : Int)) := by rfl) (hm : m ≤ k.bits) :
    Gives P ⟨dst, .binOp .shr t x y t', ty, pos, af, g⟩ a w R := by
  refine givesv (v := .int k (p.fdiv (2 ^ m))) ?_ h
  have h0 : ¬ ((m : Int) < 0) := by omega
  simp [execOp, hk.eval hx, hk.eval hy, eqGuard, binOp, Op.shift, h0, Nat.min_eq_left hm]
theorem g_rem {x y : Operand} {t t' : TypeId} {k : IntKind} {p q : Int} (hk : Kn df n a l) (h : R (.int k (p.tmod q)) w) (hx : ev l x = some (.int k p) := by rfl) (hy : ev l y = some (.int k q) := by rfl) (hq : q ≠ 0) :
    Gives P ⟨dst, .binOp .rem t x y t', ty, pos, af, g⟩ a w R := by
  refine givesv (v := .int k (p.tmod q)) ?_ h
  simp [execOp, hk.eval hx, hk.eval hy, eqGuard, binOp, Op.intDiv, hq]
theorem g_quo {x y : Operand} {t t' : TypeId} {k : IntKind} {p q : Int} (hk : Kn df n a l) (h : R (.int k (k.wrap (p.tdiv q))) w) (hx : ev l x = some (.int k p) := by rfl) (hy : ev l y = some (.int k q) := by rfl) (hq : q ≠ 0) :
    Gives P ⟨dst, .binOp .quo t x y t', ty, pos, af, g⟩ a w R := by
  refine givesv (v := .int k (k.wrap (p.tdiv q))) ?_ h
  simp [execOp, hk.eval hx, hk.eval hy, eqGuard, binOp, Op.intDiv, hq]
theorem g_convI {x : Operand} {t t' : TypeId} {k k' : IntKind} {p : Int} (hk : Kn df n a l) (h : R (.int k (k.wrap p)) w) (hx : ev l x = some (.int k' p) := by rfl) (ht : P.underlying t' = some (.int k)) {d : TypeDesc} (hs : P.underlying t = some d) :
    Gives P ⟨dst, .convert t t' x, ty, pos, af, g⟩ a w R := by
  refine givesv (v := .int k (k.wrap p)) ?_ h
  simp [execOp, hk.eval hx, convert, run_underlying ht, run_underlying hs, Conv.intToInt]

/-- A call whose arguments are looked up ahead of its contract's conditions. -/
theorem g_callO {R' : Value → World → Prop} {f : FuncId} {xs : List Operand} {vs : List Value} {ts : Array TypeId} (hk : Kn df n a l) (hxs : evs l xs = some vs := by rfl) (hf : callable P f = true) (hc : Calls P f vs.toArray w (Ret R'))
    (h : ∀ v w', R' v w' → R v w') : Gives P ⟨dst, .call { callee := .value (.func f), args := xs.toArray, argTypes := ts }, ty, pos, af, g⟩ a w R :=
  g_call hk hf hc h hxs

/-! ## Variables that a drawn region lays -/
def ptv (us : List Value) (E : TypeId) (v : Value) : HP where
  holds F w := ∃ b, v = .pointer (some ⟨b, 0, none⟩) ∧ (pts b us E).holds F w
  stable := fun F w w' ⟨b, hv, h⟩ hh => ⟨b, hv, (pts b us E).stable F w w' h hh⟩
  dom := fun F w x ⟨b, _, h⟩ hx => (pts b us E).dom F w x h hx

theorem St.ptv {us : List Value} {E : TypeId} {v : Value} (h : St w0 L w) (hat : At (Proofs.Ytakejjfmbgbedaa.ptv us E v) L L') : ∃ b, v = .pointer (some ⟨b, 0, none⟩) ∧ St w0 (pts b us E :: L') w := by
  obtain ⟨F, b, hv, hb⟩ := h.rd hat
  refine ⟨b, hv, h.conv (As := [_]) hat (fun F' hF' => ?_)⟩
  obtain ⟨b', hv', hb'⟩ := hF'
  have : b' = b := by rw [hv] at hv'; injection hv' with e; injection e with e; injection e with e; exact e.symm
  subst this
  exact ⟨F', fun _ h => h, Sep.one hb'⟩

theorem ptv.of {us : List Value} {E : TypeId} {b : Nat} {w : World} {w0 : Bs} (h : St w0 [pts b us E] w) : St w0 [Proofs.Ytakejjfmbgbedaa.ptv us E (.pointer (some ⟨b, 0, none⟩))] w :=
  h.conv (As := [_]) At.here (fun F hF => ⟨F, fun _ h => h, Sep.one ⟨b, rfl, hF⟩⟩)

/-- In a drawn region: a new variable. -/
theorem v_alloc {T : TypeId} {z : Value} {vs : List Value} (hk : Kn df n a l) (hz : zeroOf P T = some z) (hv : z.cells = vs.toArray := by rfl) :
    Gives P ⟨dst, .alloc T, ty, pos, af, g⟩ a w (fun v w' => St w [Proofs.Ytakejjfmbgbedaa.ptv vs T v] w') :=
  g_alloc hk (St.refl w) (fun _ _ h => ptv.of h) hz hv

/-- In a drawn region: a new slice. -/
theorem v_bsT {T E : Nat} {q : List (Nat × Operand)} {vals : List (Nat × Value)} {z : Value} {xs : List α} {m : Nat} (hk : Kn df n a l)
    (hp : evP l q = some vals := by rfl)
    (hT : elOf P T = some E) (hE : szOf P E = some (Enc.k α + 1)) (hz : zeroOf P E = some z)
    (hb : bldP (fun i => some (i * (Enc.k α + 1), Enc.k α + 1)) (zerosL z (m + 1) (Enc.k α + 1)) vals = some (enc xs) := by rfl) (hl : xs.length = m + 1 := by rfl) (hm : Nat.ble ((m + 1) * (Enc.k α + 1)) 16777216 = true := by rfl) :
    Gives P ⟨dst, .buildSlice T (m + 1) q.toArray, ty, pos, af, g⟩ a w (fun v w' => St w [OwT E xs v] w') :=
  g_bsT hk (St.refl w) (fun _ _ h => h) hp hT hE hz hb hl hm

/-- In a drawn region: an append to a slice that is the operation's own. -/
theorem v_app {x y : Operand} {t tx : TypeId} {E E' : Nat} {v y0 z : Value} {xs ys : List α} {X : List HP} (hk : Kn df n a l) (hS : St w0 (OwT E xs v :: X) w)
    (hx : ev l x = some v := by rfl) (hy : ev l y = some y0 := by rfl)
    (hT : elOf P t = some E) (hTx : elOf P tx = some E')
    (hs : SlT ys y0 w)
    (hE : szOf P E = some (Enc.k α + 1)) (hz : zeroOf P E = some z) (hzs : z.cells.size = Enc.k α + 1) {by_ : Nat} (hby : ((P.info? E).map (·.bytes)).getD 0 = by_) (hbytes : (xs.length + ys.length) * by_ ≤ 140737488355328) (h63 : xs.length + ys.length ≤ maxLen) :
    Gives P ⟨dst, .call { callee := .builtin .append, args := #[x, y], argTypes := #[t, tx] }, ty, pos, af, g⟩ a w (fun v' w' => St w0 (OwT E (xs ++ ys) v' :: X) w') :=
  g_appT hk hS (fun _ _ h => h) hx hy At.here hT hTx hE hz hzs hs hby hbytes h63

end
end Go.Proofs.Ytakejjfmbgbedaa
