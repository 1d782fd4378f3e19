/- Structs of plain parts held against each other. -/
import Derived.Test.YtakejjfmbgbedaaL7
namespace Go.Proofs.Ytakejjfmbgbedaa
variable {df : List Deferred}
open Go.RowKit

inductive SK where
  | int (k : IntKind)
  | bool
  | str

def stepF (P : Program) (fl : TypeId → Option (List SK)) (acc : Option (Nat × List SK)) (f : Field) : Option (Nat × List SK) :=
  match acc with
  | none => none
  | some (off, ks) => match fl f.type with
    | none => none
    | some k1 => bif (!(f.name == "_") && Nat.beq f.offset off && (match szOf P f.type with | some s => Nat.beq s k1.length | none => false) && (aggOf P f.type).isSome && ((aggOf P f.type).getD true || Nat.beq k1.length 1)) then some (off + k1.length, ks ++ k1) else none

/-- The kinds of a plain type's cells, one by one. -/
def flatT (P : Program) : Nat → TypeId → Option (List SK)
  | 0, _ => none
  | d + 1, T => match P.underlying T with
    | some .bool => some [.bool]
    | some (.int k) => some [.int k]
    | some .string => some [.str]
    | some (.struct fs) => bif P.stoodInHeld T then none else (fs.toList.foldl (stepF P (flatT P d)) (some (0, []))).map (·.2)
    | _ => none

def shp : List SK → List Value → Bool
  | [], [] => true
  | .int k :: ks, .int k' _ :: vs => decide (k = k') && shp ks vs
  | .bool :: ks, .bool _ :: vs => shp ks vs
  | .str :: ks, .string _ :: vs => shp ks vs
  | _, _ => false

def eqC : List Value → List Value → Bool
  | .int _ a :: r, .int _ b :: s => (a == b) && eqC r s
  | .bool a :: r, .bool b :: s => (a == b) && eqC r s
  | .string a :: r, .string b :: s => (a == b) && eqC r s
  | _, _ => true

theorem shp_len : ∀ {ks : List SK} {vs : List Value}, shp ks vs = true → vs.length = ks.length
  | [], [], _ => rfl
  | [], _ :: _, h => by simp [shp] at h
  | .int k :: ks, [], h => by simp [shp] at h
  | .bool :: ks, [], h => by simp [shp] at h
  | .str :: ks, [], h => by simp [shp] at h
  | .int k :: ks, v :: vs, h => by cases v <;> simp [shp] at h; simp [shp_len h.2]
  | .bool :: ks, v :: vs, h => by cases v <;> simp [shp] at h; simp [shp_len h]
  | .str :: ks, v :: vs, h => by cases v <;> simp [shp] at h; simp [shp_len h]

theorem shp_app : ∀ {k1 k2 : List SK} {vs : List Value}, shp (k1 ++ k2) vs = true → shp k1 (vs.take k1.length) = true ∧ shp k2 (vs.drop k1.length) = true
  | [], k2, vs, h => ⟨by simp [shp], by simpa using h⟩
  | .int k :: k1, k2, [], h => by simp [shp] at h
  | .bool :: k1, k2, [], h => by simp [shp] at h
  | .str :: k1, k2, [], h => by simp [shp] at h
  | .int k :: k1, k2, v :: vs, h => by
    cases v <;> simp [shp] at h
    obtain ⟨h1, h2⟩ := shp_app h.2
    exact ⟨by simp [shp, h.1, h1], by simpa using h2⟩
  | .bool :: k1, k2, v :: vs, h => by
    cases v <;> simp [shp] at h
    obtain ⟨h1, h2⟩ := shp_app h
    exact ⟨by simp [shp, h1], by simpa using h2⟩
  | .str :: k1, k2, v :: vs, h => by
    cases v <;> simp [shp] at h
    obtain ⟨h1, h2⟩ := shp_app h
    exact ⟨by simp [shp, h1], by simpa using h2⟩

theorem eqC_app : ∀ {k1 : List SK} {as bs as' bs' : List Value}, shp k1 as = true → shp k1 bs = true → eqC (as ++ as') (bs ++ bs') = (eqC as bs && eqC as' bs')
  | [], [], [], _, _, _, _ => by simp [eqC]
  | [], _ :: _, _, _, _, h, _ => by simp [shp] at h
  | [], [], _ :: _, _, _, _, h => by simp [shp] at h
  | .int k :: ks, [], _, _, _, h, _ => by simp [shp] at h
  | .bool :: ks, [], _, _, _, h, _ => by simp [shp] at h
  | .str :: ks, [], _, _, _, h, _ => by simp [shp] at h
  | .int k :: ks, _ :: _, [], _, _, _, h => by simp [shp] at h
  | .bool :: ks, _ :: _, [], _, _, _, h => by simp [shp] at h
  | .str :: ks, _ :: _, [], _, _, _, h => by simp [shp] at h
  | .int k :: ks, a :: as, b :: bs, as', bs', h1, h2 => by
    cases a <;> simp [shp] at h1
    cases b <;> simp [shp] at h2
    simp [eqC, eqC_app h1.2 h2.2, Bool.and_assoc]
  | .bool :: ks, a :: as, b :: bs, as', bs', h1, h2 => by
    cases a <;> simp [shp] at h1
    cases b <;> simp [shp] at h2
    simp [eqC, eqC_app h1 h2, Bool.and_assoc]
  | .str :: ks, a :: as, b :: bs, as', bs', h1, h2 => by
    cases a <;> simp [shp] at h1
    cases b <;> simp [shp] at h2
    simp [eqC, eqC_app h1 h2, Bool.and_assoc]

theorem eqC_self : ∀ us : List Value, eqC us us = true
  | [] => rfl
  | u :: us => by cases u <;> simp [eqC, eqC_self us, beq_toListBytes]

theorem shp_int {k : IntKind} {vs : List Value} (h : shp [.int k] vs = true) : ∃ p, vs = [.int k p] := by
  cases vs with
  | nil => simp [shp] at h
  | cons v vs =>
    cases v <;> simp [shp] at h
    have := shp_len h.2
    simp at this
    exact ⟨_, by rw [h.1, this]⟩
theorem shp_bool {vs : List Value} (h : shp [.bool] vs = true) : ∃ p, vs = [.bool p] := by
  cases vs with
  | nil => simp [shp] at h
  | cons v vs =>
    cases v <;> simp [shp] at h
    have := shp_len h
    simp at this
    exact ⟨_, by rw [this]⟩
theorem shp_str {vs : List Value} (h : shp [.str] vs = true) : ∃ p, vs = [.string p] := by
  cases vs with
  | nil => simp [shp] at h
  | cons v vs =>
    cases v <;> simp [shp] at h
    have := shp_len h
    simp at this
    exact ⟨_, by rw [this]⟩

theorem stepF_none (P : Program) (fl : TypeId → Option (List SK)) : ∀ fs : List Field, fs.foldl (stepF P fl) none = none
  | [] => rfl
  | _ :: fs => by simpa [List.foldl_cons, stepF] using stepF_none P fl fs

section
variable {P : Program}

/-- What a struct's part is, as a value. -/
def partV (P : Program) (T : TypeId) (us : List Value) : Option Value :=
  match aggOf P T with
  | some true => some (.agg us.toArray)
  | some false => us[0]?
  | none => none

theorem run_part {T : TypeId} {xs : List Value} {off k : Nat} {v : Value} {w : World} (hs : szOf P T = some k) (hv : partV P T ((xs.drop off).take k) = some v) (h1 : aggOf P T = some false → k = 1) : (part T xs.toArray off).run P w = .ok v w := by
  unfold partV at hv
  cases ha : aggOf P T with
  | none => rw [ha] at hv; simp at hv
  | some b =>
    rw [ha] at hv
    cases b with
    | true =>
      simp only [Option.some.injEq] at hv
      subst hv
      simp [part, aggOf_run ha, szOf_run hs]
    | false =>
      have hk := h1 ha
      subst hk
      have hx : xs[off]? = some v := by
        have : ((xs.drop off).take 1)[0]? = some v := hv
        rw [List.getElem?_take, if_pos (by omega)] at this
        simpa using this
      simp [part, aggOf_run ha, hx]

theorem foldl_pre (fl : TypeId → Option (List SK)) : ∀ (fs : List Field) (off : Nat) (ks : List SK) (off' : Nat) (ks' : List SK), fs.foldl (stepF P fl) (some (off, ks)) = some (off', ks') → ∃ t, ks' = ks ++ t
  | [], off, ks, off', ks', h => by simp at h; exact ⟨[], by simp [h.2]⟩
  | f :: fs, off, ks, off', ks', h => by
    simp only [List.foldl_cons] at h
    cases hs : stepF P fl (some (off, ks)) f with
    | none => rw [hs, stepF_none] at h; cases h
    | some p =>
      obtain ⟨o2, k2⟩ := p
      rw [hs] at h
      obtain ⟨t, ht⟩ := foldl_pre fl fs o2 k2 off' ks' h
      unfold stepF at hs
      cases hf : fl f.type with
      | none => rw [hf] at hs; simp at hs
      | some k1 =>
        rw [hf] at hs
        simp only at hs
        generalize (!(f.name == "_") && Nat.beq f.offset off && (match szOf P f.type with | some s => Nat.beq s k1.length | none => false) && (aggOf P f.type).isSome && ((aggOf P f.type).getD true || Nat.beq k1.length 1)) = c at hs
        cases c with
        | false => simp at hs
        | true =>
          simp at hs
          exact ⟨k1 ++ t, by rw [ht, ← hs.2]; simp⟩

theorem eqFields_flat {d : Nat} (ih : ∀ (T : TypeId) (ks : List SK) (as bs : List Value) (x y : Value) (w : World), flatT P d T = some ks → shp ks as = true → shp ks bs = true → partV P T as = some x → partV P T bs = some y → ∀ e, (Op.equalIn (d + e) T x y).run P w = .ok (eqC as bs) w) (e : Nat) (w : World) (xs ys : List Value) :
    ∀ (fs : List Field) (off : Nat) (ks : List SK) (off' : Nat) (ks' : List SK), fs.foldl (stepF P (flatT P d)) (some (off, ks)) = some (off', ks') → off = ks.length → shp ks' xs = true → shp ks' ys = true →
      (Op.eqFields (d + e) xs.toArray ys.toArray fs).run P w = .ok (eqC (xs.drop off) (ys.drop off)) w
  | [], off, ks, off', ks', h, ho, hx, hy => by
    simp at h
    obtain ⟨h1, h2⟩ := h
    subst h2
    have l1 := shp_len hx
    have l2 := shp_len hy
    rw [List.drop_eq_nil_of_le (by omega), List.drop_eq_nil_of_le (by omega)]
    simp [Op.eqFields, eqC]
  | f :: fs, off, ks, off', ks', h, ho, hx, hy => by
    simp only [List.foldl_cons] at h
    cases hs : stepF P (flatT P d) (some (off, ks)) f with
    | none => rw [hs, stepF_none] at h; cases h
    | some p =>
      obtain ⟨o2, k2⟩ := p
      rw [hs] at h
      obtain ⟨t, ht⟩ := foldl_pre _ fs o2 k2 off' ks' h
      have hs0 := hs
      unfold stepF at hs
      cases hf : flatT P d f.type with
      | none => rw [hf] at hs; simp at hs
      | some k1 =>
        rw [hf] at hs
        simp only at hs
        cases hc : (!(f.name == "_") && Nat.beq f.offset off && (match szOf P f.type with | some s => Nat.beq s k1.length | none => false) && (aggOf P f.type).isSome && ((aggOf P f.type).getD true || Nat.beq k1.length 1)) with
        | false => rw [hc] at hs; simp at hs
        | true =>
          rw [hc] at hs
          simp only [cond_true, Option.some.injEq, Prod.mk.injEq] at hs
          obtain ⟨e1, e2⟩ := hs
          simp only [Bool.and_eq_true] at hc
          obtain ⟨⟨⟨⟨c1, c2⟩, c3⟩, c4⟩, c5⟩ := hc
          have hname : f.name ≠ "_" := by simpa using c1
          have hoff : f.offset = off := Nat.eq_of_beq_eq_true c2
          have hsz : szOf P f.type = some k1.length := by
            cases hz : szOf P f.type with
            | none => rw [hz] at c3; cases c3
            | some s => rw [hz] at c3; rw [Nat.eq_of_beq_eq_true c3]
          subst e2
          rw [ht, List.append_assoc] at hx hy
          obtain ⟨_, x2⟩ := shp_app hx
          obtain ⟨_, y2⟩ := shp_app hy
          obtain ⟨x3, x4⟩ := shp_app x2
          obtain ⟨y3, y4⟩ := shp_app y2
          rw [← ho] at x3 y3 x4 y4
          have part1 : ∀ us : List Value, shp k1 us = true → ∃ v, partV P f.type us = some v := by
            intro us hus
            unfold partV
            cases ha : aggOf P f.type with
            | none => rw [ha] at c4; cases c4
            | some b =>
              cases b with
              | true => exact ⟨_, rfl⟩
              | false =>
                rw [ha] at c5
                simp only [Option.getD_some, Bool.false_or] at c5
                have := Nat.eq_of_beq_eq_true c5
                have l := shp_len hus
                exact ⟨us[0]'(by omega), List.getElem?_eq_getElem (by omega)⟩
          have hone : aggOf P f.type = some false → k1.length = 1 := by
            intro ha
            rw [ha] at c5
            simp only [Option.getD_some, Bool.false_or] at c5
            exact Nat.eq_of_beq_eq_true c5
          obtain ⟨vx, hvx⟩ := part1 _ x3
          obtain ⟨vy, hvy⟩ := part1 _ y3
          have px := run_part (w := w) hsz hvx hone
          have py := run_part (w := w) hsz hvy hone
          have heq := ih f.type k1 _ _ vx vy w hf x3 y3 hvx hvy e
          have rest := eqFields_flat ih e w xs ys fs o2 (ks ++ k1) off' ks' h (by simp; omega) (by rw [ht, List.append_assoc]; exact hx) (by rw [ht, List.append_assoc]; exact hy)
          unfold Op.eqFields
          rw [if_pos hname, hoff]
          simp only [Sem.run_bind, px, py, Result.andThen_ok, heq, Sem.run_ite, Sem.run_pure]
          have split1 : eqC (xs.drop off) (ys.drop off) = (eqC ((xs.drop off).take k1.length) ((ys.drop off).take k1.length) && eqC (xs.drop o2) (ys.drop o2)) := by
            have hx' : xs.drop off = (xs.drop off).take k1.length ++ xs.drop o2 := by rw [← e1, ← List.drop_drop, List.take_append_drop]
            have hy' : ys.drop off = (ys.drop off).take k1.length ++ ys.drop o2 := by rw [← e1, ← List.drop_drop, List.take_append_drop]
            have := eqC_app (as' := xs.drop o2) (bs' := ys.drop o2) x3 y3
            rw [← hx', ← hy'] at this
            exact this
          rw [split1, rest]
          cases eqC ((xs.drop off).take k1.length) ((ys.drop off).take k1.length) <;> simp

theorem run_equalF : ∀ (d : Nat) (T : TypeId) (ks : List SK) (as bs : List Value) (x y : Value) (w : World), flatT P d T = some ks → shp ks as = true → shp ks bs = true → partV P T as = some x → partV P T bs = some y → ∀ e, (Op.equalIn (d + e) T x y).run P w = .ok (eqC as bs) w
  | 0, T, ks, as, bs, x, y, w, h, _, _, _, _ => by simp [flatT] at h
  | d + 1, T, ks, as, bs, x, y, w, h, ha, hb, hx, hy => by
    intro e
    unfold flatT at h
    rw [show d + 1 + e = d + e + 1 by omega]
    cases hu : P.underlying T with
    | none => rw [hu] at h; simp at h
    | some dsc =>
      rw [hu] at h
      have scal : ∀ (hag : aggOf P T = some false), as[0]? = some x ∧ bs[0]? = some y := fun hag => by
        unfold partV at hx hy
        rw [hag] at hx hy
        exact ⟨hx, hy⟩
      cases dsc <;> simp at h
      case bool =>
        subst h
        obtain ⟨s1, s2⟩ := scal (by simp [aggOf, hu])
        obtain ⟨p, rfl⟩ := shp_bool ha
        obtain ⟨q, rfl⟩ := shp_bool hb
        simp at s1 s2; subst s1; subst s2
        rw [run_equalIn_bool w (d + e) T p q hu]; simp [eqC]
      case int k =>
        subst h
        obtain ⟨s1, s2⟩ := scal (by simp [aggOf, hu])
        obtain ⟨p, rfl⟩ := shp_int ha
        obtain ⟨q, rfl⟩ := shp_int hb
        simp at s1 s2; subst s1; subst s2
        rw [run_equalIn_int w (d + e) T k k p q hu]; simp [eqC]
      case string =>
        subst h
        obtain ⟨s1, s2⟩ := scal (by simp [aggOf, hu])
        obtain ⟨p, rfl⟩ := shp_str ha
        obtain ⟨q, rfl⟩ := shp_str hb
        simp at s1 s2; subst s1; subst s2
        rw [run_equalIn_string w (d + e) T p q hu]; simp [eqC, beq_toListBytes]
      case struct fs =>
        cases hst : P.stoodInHeld T with
        | true => rw [hst] at h; simp at h
        | false =>
          rw [hst] at h
          simp only [cond_false, ← Array.foldl_toList] at h
          cases hf : fs.toList.foldl (stepF P (flatT P d)) (some (0, [])) with
          | none => rw [hf] at h; simp at h
          | some p =>
            rw [hf] at h
            simp at h
            subst h
            have hag : aggOf P T = some true := by simp [aggOf, hu]
            unfold partV at hx hy
            rw [hag] at hx hy
            simp only [Option.some.injEq] at hx hy
            subst hx; subst hy
            have hfo : P.fieldsOf T = fs := by simp [Program.fieldsOf, hu]
            rw [run_equalIn_struct w (d + e) T as.toArray bs.toArray (by rw [hfo]; exact hu) hst, hfo]
            obtain ⟨o', k'⟩ := p
            have := eqFields_flat (run_equalF d) e w as bs fs.toList 0 [] o' k' hf rfl ha hb
            simpa using this

variable {a : Act} {w : World} {n : Nat} {l : List (Nat × Value)} {dst : Option Nat} {R : Value → World → Prop} {ty : TypeId} {pos : String} {af : Array Edge} {g : Option (Nat × Bool)}

theorem g_eqs {x y : Operand} {t t' : TypeId} {ks : List SK} {us vs : List Value} (hk : Kn df n a l) (h : R (.bool (eqC us vs)) w)
    (hf : flatT P 6 t = some ks) (hag : aggOf P t = some true) (hgd : P.eqGuardType P.depth t = false)
    (hx : ev l x = some (.agg us.toArray) := by rfl) (hy : ev l y = some (.agg vs.toArray) := by rfl) (h1 : shp ks us = true := by rfl) (h2 : shp ks vs = true := by rfl) :
    Gives P ⟨dst, .binOp .eql t x y t', ty, pos, af, g⟩ a w R := by
  refine givesv (v := .bool (eqC us vs)) ?_ h
  have he := run_equalF 6 t ks us vs (.agg us.toArray) (.agg vs.toArray) w hf h1 h2 (by simp [partV, hag]) (by simp [partV, hag]) 9994
  simp [execOp, hk.eval hx, hk.eval hy, run_eqGuard_agg w .eql t x y us.toArray vs.toArray hgd, run_eql_struct, he]

theorem g_nes {x y : Operand} {t t' : TypeId} {ks : List SK} {us vs : List Value} (hk : Kn df n a l) (h : R (.bool (!eqC us vs)) w)
    (hf : flatT P 6 t = some ks) (hag : aggOf P t = some true) (hgd : P.eqGuardType P.depth t = false)
    (hx : ev l x = some (.agg us.toArray) := by rfl) (hy : ev l y = some (.agg vs.toArray) := by rfl) (h1 : shp ks us = true := by rfl) (h2 : shp ks vs = true := by rfl) :
    Gives P ⟨dst, .binOp .neq t x y t', ty, pos, af, g⟩ a w R := by
  refine givesv (v := .bool (!eqC us vs)) ?_ h
  have he := run_equalF 6 t ks us vs (.agg us.toArray) (.agg vs.toArray) w hf h1 h2 (by simp [partV, hag]) (by simp [partV, hag]) 9994
  simp [execOp, hk.eval hx, hk.eval hy, run_eqGuard_agg w .neq t x y us.toArray vs.toArray hgd, run_neq_struct, he]

theorem g_eqsT {x y : Operand} {t t' : TypeId} {ks : List SK} {us vs : List Value} (hk : Kn df n a l) (h : R (.bool true) w)
    (hf : flatT P 6 t = some ks) (hag : aggOf P t = some true) (hgd : P.eqGuardType P.depth t = false)
    (hx : ev l x = some (.agg us.toArray) := by rfl) (hy : ev l y = some (.agg vs.toArray) := by rfl) (h1 : shp ks us = true := by rfl) (h2 : shp ks vs = true := by rfl) (he : us = vs := by rfl) :
    Gives P ⟨dst, .binOp .eql t x y t', ty, pos, af, g⟩ a w R := by
  subst he
  exact g_eqs hk (by rw [eqC_self]; exact h) hf hag hgd hx hy h1 h2
end
end Go.Proofs.Ytakejjfmbgbedaa
