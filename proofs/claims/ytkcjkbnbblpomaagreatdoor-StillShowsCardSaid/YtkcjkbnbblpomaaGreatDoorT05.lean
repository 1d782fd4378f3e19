/- Structs of plain parts held against each other. From the form's reading of the arguments to what a walk asks; and from a law's walk to the row's contract. -/
import Derived.Test.YtkcjkbnbblpomaaGreatDoorT04
import Derived.ProofKit
set_option linter.all false
namespace Go.Proofs.YtkcjkbnbblpomaaGreatDoor
variable {df : List Deferred}
open Go.RowKit

inductive SK where
  | int (k : IntKind)
  | bool
  | str

def stepF (P : Program) (fl : TypeId → Option (List SK)) (acc : Option (Nat × List SK)) (f : Field) : Option (Nat × List SK) :=
  match acc with
  | none => none
  | some (off, ks) => match fl f.type with
    | none => none
    | some k1 => bif (!(f.name == "_") && Nat.beq f.offset off && (match szOf P f.type with | some s => Nat.beq s k1.length | none => false) && (aggOf P f.type).isSome && ((aggOf P f.type).getD true || Nat.beq k1.length 1)) then some (off + k1.length, ks ++ k1) else none

def flatT (P : Program) : Nat → TypeId → Option (List SK)
  | 0, _ => none
  | d + 1, T => match P.underlying T with
    | some .bool => some [.bool]
    | some (.int k) => some [.int k]
    | some .string => some [.str]
    | some (.struct fs) => bif P.stoodInHeld T then none else (fs.toList.foldl (stepF P (flatT P d)) (some (0, []))).map (·.2)
    | _ => none

def shp : List SK → List Value → Bool
  | [], [] => true
  | .int k :: ks, .int k' _ :: vs => decide (k = k') && shp ks vs
  | .bool :: ks, .bool _ :: vs => shp ks vs
  | .str :: ks, .string _ :: vs => shp ks vs
  | _, _ => false

def eqC : List Value → List Value → Bool
  | .int _ a :: r, .int _ b :: s => (a == b) && eqC r s
  | .bool a :: r, .bool b :: s => (a == b) && eqC r s
  | .string a :: r, .string b :: s => (a == b) && eqC r s
  | _, _ => true

theorem shp_len : ∀ {ks : List SK} {vs : List Value}, shp ks vs = true → vs.length = ks.length
  | [], [], _ => rfl
  | [], _ :: _, h => by simp [shp] at h
  | .int k :: ks, [], h => by simp [shp] at h
  | .bool :: ks, [], h => by simp [shp] at h
  | .str :: ks, [], h => by simp [shp] at h
  | .int k :: ks, v :: vs, h => by cases v <;> simp [shp] at h; simp [shp_len h.2]
  | .bool :: ks, v :: vs, h => by cases v <;> simp [shp] at h; simp [shp_len h]
  | .str :: ks, v :: vs, h => by cases v <;> simp [shp] at h; simp [shp_len h]

theorem shp_app : ∀ {k1 k2 : List SK} {vs : List Value}, shp (k1 ++ k2) vs = true → shp k1 (vs.take k1.length) = true ∧ shp k2 (vs.drop k1.length) = true
  | [], k2, vs, h => ⟨by simp [shp], by simpa using h⟩
  | .int k :: k1, k2, [], h => by simp [shp] at h
  | .bool :: k1, k2, [], h => by simp [shp] at h
  | .str :: k1, k2, [], h => by simp [shp] at h
  | .int k :: k1, k2, v :: vs, h => by
    cases v <;> simp [shp] at h
    obtain ⟨h1, h2⟩ := shp_app h.2
    exact ⟨by simp [shp, h.1, h1], by simpa using h2⟩
  | .bool :: k1, k2, v :: vs, h => by
    cases v <;> simp [shp] at h
    obtain ⟨h1, h2⟩ := shp_app h
    exact ⟨by simp [shp, h1], by simpa using h2⟩
  | .str :: k1, k2, v :: vs, h => by
    cases v <;> simp [shp] at h
    obtain ⟨h1, h2⟩ := shp_app h
    exact ⟨by simp [shp, h1], by simpa using h2⟩

theorem eqC_app : ∀ {k1 : List SK} {as bs as' bs' : List Value}, shp k1 as = true → shp k1 bs = true → eqC (as ++ as') (bs ++ bs') = (eqC as bs && eqC as' bs')
  | [], [], [], _, _, _, _ => by simp [eqC]
  | [], _ :: _, _, _, _, h, _ => by simp [shp] at h
  | [], [], _ :: _, _, _, _, h => by simp [shp] at h
  | .int k :: ks, [], _, _, _, h, _ => by simp [shp] at h
  | .bool :: ks, [], _, _, _, h, _ => by simp [shp] at h
  | .str :: ks, [], _, _, _, h, _ => by simp [shp] at h
  | .int k :: ks, _ :: _, [], _, _, _, h => by simp [shp] at h
  | .bool :: ks, _ :: _, [], _, _, _, h => by simp [shp] at h
  | .str :: ks, _ :: _, [], _, _, _, h => by simp [shp] at h
  | .int k :: ks, a :: as, b :: bs, as', bs', h1, h2 => by
    cases a <;> simp [shp] at h1
    cases b <;> simp [shp] at h2
    simp [eqC, eqC_app h1.2 h2.2, Bool.and_assoc]
  | .bool :: ks, a :: as, b :: bs, as', bs', h1, h2 => by
    cases a <;> simp [shp] at h1
    cases b <;> simp [shp] at h2
    simp [eqC, eqC_app h1 h2, Bool.and_assoc]
  | .str :: ks, a :: as, b :: bs, as', bs', h1, h2 => by
    cases a <;> simp [shp] at h1
    cases b <;> simp [shp] at h2
    simp [eqC, eqC_app h1 h2, Bool.and_assoc]

theorem eqC_self : ∀ us : List Value, eqC us us = true
  | [] => rfl
  | u :: us => by cases u <;> simp [eqC, eqC_self us, beq_toListBytes]

theorem shp_int {k : IntKind} {vs : List Value} (h : shp [.int k] vs = true) : ∃ p, vs = [.int k p] := by
  cases vs with
  | nil => simp [shp] at h
  | cons v vs =>
    cases v <;> simp [shp] at h
    have := shp_len h.2
    simp at this
    exact ⟨_, by rw [h.1, this]⟩
theorem shp_bool {vs : List Value} (h : shp [.bool] vs = true) : ∃ p, vs = [.bool p] := by
  cases vs with
  | nil => simp [shp] at h
  | cons v vs =>
    cases v <;> simp [shp] at h
    have := shp_len h
    simp at this
    exact ⟨_, by rw [this]⟩
theorem shp_str {vs : List Value} (h : shp [.str] vs = true) : ∃ p, vs = [.string p] := by
  cases vs with
  | nil => simp [shp] at h
  | cons v vs =>
    cases v <;> simp [shp] at h
    have := shp_len h
    simp at this
    exact ⟨_, by rw [this]⟩

theorem stepF_none (P : Program) (fl : TypeId → Option (List SK)) : ∀ fs : List Field, fs.foldl (stepF P fl) none = none
  | [] => rfl
  | _ :: fs => by simpa [List.foldl_cons, stepF] using stepF_none P fl fs

section
variable {P : Program}

def partV (P : Program) (T : TypeId) (us : List Value) : Option Value :=
  match aggOf P T with
  | some true => some (.agg us.toArray)
  | some false => us[0]?
  | none => none

theorem run_part {T : TypeId} {xs : List Value} {off k : Nat} {v : Value} {w : World} (hs : szOf P T = some k) (hv : partV P T ((xs.drop off).take k) = some v) (h1 : aggOf P T = some false → k = 1) : (part T xs.toArray off).run P w = .ok v w := by
  unfold partV at hv
  cases ha : aggOf P T with
  | none => rw [ha] at hv; simp at hv
  | some b =>
    rw [ha] at hv
    cases b with
    | true =>
      simp only [Option.some.injEq] at hv
      subst hv
      simp [part, aggOf_run ha, szOf_run hs]
    | false =>
      have hk := h1 ha
      subst hk
      have hx : xs[off]? = some v := by
        have : ((xs.drop off).take 1)[0]? = some v := hv
        rw [List.getElem?_take, if_pos (by omega)] at this
        simpa using this
      simp [part, aggOf_run ha, hx]

theorem foldl_pre (fl : TypeId → Option (List SK)) : ∀ (fs : List Field) (off : Nat) (ks : List SK) (off' : Nat) (ks' : List SK), fs.foldl (stepF P fl) (some (off, ks)) = some (off', ks') → ∃ t, ks' = ks ++ t
  | [], off, ks, off', ks', h => by simp at h; exact ⟨[], by simp [h.2]⟩
  | f :: fs, off, ks, off', ks', h => by
    simp only [List.foldl_cons] at h
    cases hs : stepF P fl (some (off, ks)) f with
    | none => rw [hs, stepF_none] at h; cases h
    | some p =>
      obtain ⟨o2, k2⟩ := p
      rw [hs] at h
      obtain ⟨t, ht⟩ := foldl_pre fl fs o2 k2 off' ks' h
      unfold stepF at hs
      cases hf : fl f.type with
      | none => rw [hf] at hs; simp at hs
      | some k1 =>
        rw [hf] at hs
        simp only at hs
        generalize (!(f.name == "_") && Nat.beq f.offset off && (match szOf P f.type with | some s => Nat.beq s k1.length | none => false) && (aggOf P f.type).isSome && ((aggOf P f.type).getD true || Nat.beq k1.length 1)) = c at hs
        cases c with
        | false => simp at hs
        | true =>
          simp at hs
          exact ⟨k1 ++ t, by rw [ht, ← hs.2]; simp⟩

theorem eqFields_flat {d : Nat} (ih : ∀ (T : TypeId) (ks : List SK) (as bs : List Value) (x y : Value) (w : World), flatT P d T = some ks → shp ks as = true → shp ks bs = true → partV P T as = some x → partV P T bs = some y → ∀ e, (Op.equalIn (d + e) T x y).run P w = .ok (eqC as bs) w) (e : Nat) (w : World) (xs ys : List Value) :
    ∀ (fs : List Field) (off : Nat) (ks : List SK) (off' : Nat) (ks' : List SK), fs.foldl (stepF P (flatT P d)) (some (off, ks)) = some (off', ks') → off = ks.length → shp ks' xs = true → shp ks' ys = true →
      (Op.eqFields (d + e) xs.toArray ys.toArray fs).run P w = .ok (eqC (xs.drop off) (ys.drop off)) w
  | [], off, ks, off', ks', h, ho, hx, hy => by
    simp at h
    obtain ⟨h1, h2⟩ := h
    subst h2
    have l1 := shp_len hx
    have l2 := shp_len hy
    rw [List.drop_eq_nil_of_le (by omega), List.drop_eq_nil_of_le (by omega)]
    simp [Op.eqFields, eqC]
  | f :: fs, off, ks, off', ks', h, ho, hx, hy => by
    simp only [List.foldl_cons] at h
    cases hs : stepF P (flatT P d) (some (off, ks)) f with
    | none => rw [hs, stepF_none] at h; cases h
    | some p =>
      obtain ⟨o2, k2⟩ := p
      rw [hs] at h
      obtain ⟨t, ht⟩ := foldl_pre _ fs o2 k2 off' ks' h
      have hs0 := hs
      unfold stepF at hs
      cases hf : flatT P d f.type with
      | none => rw [hf] at hs; simp at hs
      | some k1 =>
        rw [hf] at hs
        simp only at hs
        cases hc : (!(f.name == "_") && Nat.beq f.offset off && (match szOf P f.type with | some s => Nat.beq s k1.length | none => false) && (aggOf P f.type).isSome && ((aggOf P f.type).getD true || Nat.beq k1.length 1)) with
        | false => rw [hc] at hs; simp at hs
        | true =>
          rw [hc] at hs
          simp only [cond_true, Option.some.injEq, Prod.mk.injEq] at hs
          obtain ⟨e1, e2⟩ := hs
          simp only [Bool.and_eq_true] at hc
          obtain ⟨⟨⟨⟨c1, c2⟩, c3⟩, c4⟩, c5⟩ := hc
          have hname : f.name ≠ "_" := by simpa using c1
          have hoff : f.offset = off := Nat.eq_of_beq_eq_true c2
          have hsz : szOf P f.type = some k1.length := by
            cases hz : szOf P f.type with
            | none => rw [hz] at c3; cases c3
            | some s => rw [hz] at c3; rw [Nat.eq_of_beq_eq_true c3]
          subst e2
          rw [ht, List.append_assoc] at hx hy
          obtain ⟨_, x2⟩ := shp_app hx
          obtain ⟨_, y2⟩ := shp_app hy
          obtain ⟨x3, x4⟩ := shp_app x2
          obtain ⟨y3, y4⟩ := shp_app y2
          rw [← ho] at x3 y3 x4 y4
          have part1 : ∀ us : List Value, shp k1 us = true → ∃ v, partV P f.type us = some v := by
            intro us hus
            unfold partV
            cases ha : aggOf P f.type with
            | none => rw [ha] at c4; cases c4
            | some b =>
              cases b with
              | true => exact ⟨_, rfl⟩
              | false =>
                rw [ha] at c5
                simp only [Option.getD_some, Bool.false_or] at c5
                have := Nat.eq_of_beq_eq_true c5
                have l := shp_len hus
                exact ⟨us[0]'(by omega), List.getElem?_eq_getElem (by omega)⟩
          have hone : aggOf P f.type = some false → k1.length = 1 := by
            intro ha
            rw [ha] at c5
            simp only [Option.getD_some, Bool.false_or] at c5
            exact Nat.eq_of_beq_eq_true c5
          obtain ⟨vx, hvx⟩ := part1 _ x3
          obtain ⟨vy, hvy⟩ := part1 _ y3
          have px := run_part (w := w) hsz hvx hone
          have py := run_part (w := w) hsz hvy hone
          have heq := ih f.type k1 _ _ vx vy w hf x3 y3 hvx hvy e
          have rest := eqFields_flat ih e w xs ys fs o2 (ks ++ k1) off' ks' h (by simp; omega) (by rw [ht, List.append_assoc]; exact hx) (by rw [ht, List.append_assoc]; exact hy)
          unfold Op.eqFields
          rw [if_pos hname, hoff]
          simp only [Sem.run_bind, px, py, Result.andThen_ok, heq, Sem.run_ite, Sem.run_pure]
          have split1 : eqC (xs.drop off) (ys.drop off) = (eqC ((xs.drop off).take k1.length) ((ys.drop off).take k1.length) && eqC (xs.drop o2) (ys.drop o2)) := by
            have hx' : xs.drop off = (xs.drop off).take k1.length ++ xs.drop o2 := by rw [← e1, ← List.drop_drop, List.take_append_drop]
            have hy' : ys.drop off = (ys.drop off).take k1.length ++ ys.drop o2 := by rw [← e1, ← List.drop_drop, List.take_append_drop]
            have := eqC_app (as' := xs.drop o2) (bs' := ys.drop o2) x3 y3
            rw [← hx', ← hy'] at this
            exact this
          rw [split1, rest]
          cases eqC ((xs.drop off).take k1.length) ((ys.drop off).take k1.length) <;> simp

theorem run_equalF : ∀ (d : Nat) (T : TypeId) (ks : List SK) (as bs : List Value) (x y : Value) (w : World), flatT P d T = some ks → shp ks as = true → shp ks bs = true → partV P T as = some x → partV P T bs = some y → ∀ e, (Op.equalIn (d + e) T x y).run P w = .ok (eqC as bs) w
  | 0, T, ks, as, bs, x, y, w, h, _, _, _, _ => by simp [flatT] at h
  | d + 1, T, ks, as, bs, x, y, w, h, ha, hb, hx, hy => by
    intro e
    unfold flatT at h
    rw [show d + 1 + e = d + e + 1 by omega]
    cases hu : P.underlying T with
    | none => rw [hu] at h; simp at h
    | some dsc =>
      rw [hu] at h
      have scal : ∀ (hag : aggOf P T = some false), as[0]? = some x ∧ bs[0]? = some y := fun hag => by
        unfold partV at hx hy
        rw [hag] at hx hy
        exact ⟨hx, hy⟩
      cases dsc <;> simp at h
      case bool =>
        subst h
        obtain ⟨s1, s2⟩ := scal (by simp [aggOf, hu])
        obtain ⟨p, rfl⟩ := shp_bool ha
        obtain ⟨q, rfl⟩ := shp_bool hb
        simp at s1 s2; subst s1; subst s2
        rw [run_equalIn_bool w (d + e) T p q hu]; simp [eqC]
      case int k =>
        subst h
        obtain ⟨s1, s2⟩ := scal (by simp [aggOf, hu])
        obtain ⟨p, rfl⟩ := shp_int ha
        obtain ⟨q, rfl⟩ := shp_int hb
        simp at s1 s2; subst s1; subst s2
        rw [run_equalIn_int w (d + e) T k k p q hu]; simp [eqC]
      case string =>
        subst h
        obtain ⟨s1, s2⟩ := scal (by simp [aggOf, hu])
        obtain ⟨p, rfl⟩ := shp_str ha
        obtain ⟨q, rfl⟩ := shp_str hb
        simp at s1 s2; subst s1; subst s2
        rw [run_equalIn_string w (d + e) T p q hu]; simp [eqC, beq_toListBytes]
      case struct fs =>
        cases hst : P.stoodInHeld T with
        | true => rw [hst] at h; simp at h
        | false =>
          rw [hst] at h
          simp only [cond_false, ← Array.foldl_toList] at h
          cases hf : fs.toList.foldl (stepF P (flatT P d)) (some (0, [])) with
          | none => rw [hf] at h; simp at h
          | some p =>
            rw [hf] at h
            simp at h
            subst h
            have hag : aggOf P T = some true := by simp [aggOf, hu]
            unfold partV at hx hy
            rw [hag] at hx hy
            simp only [Option.some.injEq] at hx hy
            subst hx; subst hy
            have hfo : P.fieldsOf T = fs := by simp [Program.fieldsOf, hu]
            rw [run_equalIn_struct w (d + e) T as.toArray bs.toArray (by rw [hfo]; exact hu) hst, hfo]
            obtain ⟨o', k'⟩ := p
            have := eqFields_flat (run_equalF d) e w as bs fs.toList 0 [] o' k' hf rfl ha hb
            simpa using this

variable {a : Act} {w : World} {n : Nat} {l : List (Nat × Value)} {dst : Option Nat} {R : Value → World → Prop} {ty : TypeId} {pos : String} {af : Array Edge} {g : Option (Nat × Bool)}

theorem g_eqs {x y : Operand} {t t' : TypeId} {ks : List SK} {us vs : List Value} (hk : Kn df n a l) (h : R (.bool (eqC us vs)) w)
    (hf : flatT P 6 t = some ks) (hag : aggOf P t = some true) (hgd : P.eqGuardType P.depth t = false)
    (hx : ev l x = some (.agg us.toArray) := by rfl) (hy : ev l y = some (.agg vs.toArray) := by rfl) (h1 : shp ks us = true := by rfl) (h2 : shp ks vs = true := by rfl) :
    Gives P ⟨dst, .binOp .eql t x y t', ty, pos, af, g⟩ a w R := by
  refine givesv (v := .bool (eqC us vs)) ?_ h
  have he := run_equalF 6 t ks us vs (.agg us.toArray) (.agg vs.toArray) w hf h1 h2 (by simp [partV, hag]) (by simp [partV, hag]) 9994
  simp [execOp, hk.eval hx, hk.eval hy, run_eqGuard_agg w .eql t x y us.toArray vs.toArray hgd, run_eql_struct, he]

theorem g_nes {x y : Operand} {t t' : TypeId} {ks : List SK} {us vs : List Value} (hk : Kn df n a l) (h : R (.bool (!eqC us vs)) w)
    (hf : flatT P 6 t = some ks) (hag : aggOf P t = some true) (hgd : P.eqGuardType P.depth t = false)
    (hx : ev l x = some (.agg us.toArray) := by rfl) (hy : ev l y = some (.agg vs.toArray) := by rfl) (h1 : shp ks us = true := by rfl) (h2 : shp ks vs = true := by rfl) :
    Gives P ⟨dst, .binOp .neq t x y t', ty, pos, af, g⟩ a w R := by
  refine givesv (v := .bool (!eqC us vs)) ?_ h
  have he := run_equalF 6 t ks us vs (.agg us.toArray) (.agg vs.toArray) w hf h1 h2 (by simp [partV, hag]) (by simp [partV, hag]) 9994
  simp [execOp, hk.eval hx, hk.eval hy, run_eqGuard_agg w .neq t x y us.toArray vs.toArray hgd, run_neq_struct, he]

end
end Go.Proofs.YtkcjkbnbblpomaaGreatDoor
namespace Go.Proofs.YtkcjkbnbblpomaaGreatDoor
open Go.ChangeShapes Go.WideShapes Go.ChangeAt Go.RowKit

def Rdg (P : Program) (W : World) : Nat → TypeId → List Value → Prop
  | 0, _, _ => True
  | D + 1, T, cs => match P.underlying T with
    | some .bool => ∃ b, cs = [.bool b]
    | some (.int k) => ∃ n, cs = [.int k n] ∧ k.min ≤ n ∧ n ≤ k.max
    | some .string => ∃ s : ByteArray, cs = [.string s] ∧ s.size ≤ maxLen
    | some (.slice e) => ∃ v, cs = [v] ∧ (v = .slice none 0 0 ∨ ∃ a len cap, v = .slice (some a) len cap ∧ len ≤ cap ∧ cap ≤ maxLen ∧
        ∀ i, i < len → ∃ us : List Value, us.length = P.cellsOf e ∧ (∀ j u, us[j]? = some u → W.cell? ((a.add (i * P.cellsOf e)).add j) = some u) ∧ Rdg P W D e us)
    | some (.struct fs) => cs.length = P.cellsOf T ∧ ∀ f ∈ fs.toList, Rdg P W D f.type ((cs.drop f.offset).take (P.cellsOf f.type))
    | _ => True

theorem cells?_get {w : World} {base : Nat} {a : Addr} {n : Nat} {us : List Value} (h : w.cells? base a n = some us) : us.length = n ∧ ∀ j u, us[j]? = some u → w.cell? (a.add j) = some u := by
  unfold World.cells? at h
  split at h
  · have h1 : us.length = n := by simpa using mapM_some_length h
    refine ⟨h1, fun j u hj => ?_⟩
    have hjn : j < n := by
      rcases Nat.lt_or_ge j us.length with h' | h'
      · omega
      · rw [List.getElem?_eq_none h'] at hj; cases hj
    have := mapM_some_get h j j (by simp [hjn])
    rw [this, hj]
  · cases h

theorem rdg_of_trod {H : Type} {enc : TypeId × Value → H} {P : Program} {W : World} {base : Nat} {spare : Nat → Bool} {held : Bool} : ∀ (fuel D : Nat) (T : TypeId) (cs : List Value) (d : DataW H) (ps : List MemPlace),
    DataW.trod enc P W base spare held fuel T cs = some (d, ps) → Rdg P W D T cs
  | 0, _, _, _, _, _, h => by simp [DataW.trod] at h
  | fuel + 1, 0, _, _, _, _, _ => trivial
  | fuel + 1, D + 1, T, cs, d, ps, h => by
    unfold Rdg
    cases hu : P.underlying T with
    | none => trivial
    | some dsc =>
      cases dsc <;> first | trivial | skip
      case bool =>
        obtain ⟨b, hb, _⟩ := DataW.trod_bool hu h
        exact ⟨b, hb⟩
      case int k =>
        obtain ⟨n, hn, _, hw⟩ := DataW.trod_int hu h
        simp only [Lit.wf, Bool.and_eq_true, decide_eq_true_eq] at hw
        exact ⟨n, hn, hw⟩
      case string =>
        obtain ⟨s, hs, _, hl⟩ := DataW.trod_string hu h
        exact ⟨s, hs, hl⟩
      case slice e =>
        rcases DataW.trod_slice hu h with ⟨hc, _⟩ | ⟨a, len, cap, elems, rest, n, hfu, hc, _, _, hl, hm, hel, hget, _⟩
        · exact ⟨_, hc, .inl rfl⟩
        · refine ⟨_, hc, .inr ⟨a, len, cap, rfl, hl, hm, fun i hi => ?_⟩⟩
          have h1 := hget i hi
          have hx : elems[i]? = some (elems[i]'(by omega)) := List.getElem?_eq_getElem (by omega)
          rw [hx, Option.bind_eq_some_iff] at h1
          obtain ⟨us, hus, htr⟩ := h1
          obtain ⟨hlen, hcell⟩ := cells?_get hus
          have hfn : fuel = n := by omega
          subst hfn
          exact ⟨us, hlen, hcell, rdg_of_trod fuel D e us _ _ htr⟩
      case struct fs =>
        obtain ⟨xs, n, hfu, _, hl, hlen, hget⟩ := DataW.trod_struct hu h
        refine ⟨hl, fun f hf => ?_⟩
        obtain ⟨i, hi⟩ := List.getElem?_of_mem hf
        have hi' : fs[i]? = some f := by simpa using hi
        have hlt : i < fs.size := by
          rcases Nat.lt_or_ge i fs.size with h' | h'
          · exact h'
          · rw [Array.getElem?_eq_none h'] at hi'; cases hi'
        have h1 := hget i f hi'
        have hx : xs[i]? = some (xs[i]'(by omega)) := List.getElem?_eq_getElem (by omega)
        rw [hx] at h1
        have hfn : fuel = n := by omega
        subst hfn
        exact rdg_of_trod fuel D f.type _ _ _ h1

def Arg (P : Program) (W : World) (T : TypeId) (v : Value) : Prop := Rdg P W 8 T v.cells.toList ∧ (aggOf P T = some true → ∃ cs : List Value, v = .agg cs.toArray) ∧ (aggOf P T = some false → v.cells = #[v])

theorem arg_of {H : Type} {enc : TypeId × Value → H} {P : Program} {W : World} {base : Nat} {T : TypeId} {v : Value} {d : DataW H} {ps : List MemPlace} (hv : Value.okWide P W .any base T v) (h : DataW.Trod enc P W 0 (fun _ => true) true T v d ps) : Arg P W T v := by
  obtain ⟨fuel, hf⟩ := h
  refine ⟨rdg_of_trod fuel 8 T _ _ _ hf, fun ha => ?_, fun ha => ?_⟩
  rotate_left
  · unfold aggOf at ha
    unfold Value.okWide at hv
    cases hu : P.underlying T with
    | none => rw [hu] at ha; cases ha
    | some dsc =>
      rw [hu] at ha hv
      cases v <;> first
        | rfl
        | (cases dsc <;> first | (simp at ha; done) | (simp [Cell.okWide, Cell.ok, hu] at hv; done))
  unfold aggOf at ha
  unfold Value.okWide at hv
  cases hu : P.underlying T with
  | none => rw [hu] at ha; cases ha
  | some dsc =>
    rw [hu] at ha hv
    cases dsc <;> first
      | (simp at ha; done)
      | (obtain ⟨cs, h1, _⟩ := hv; exact ⟨cs.toList, by simpa using h1⟩)

def Args (P : Program) (W : World) : List TypeId → List Value → Prop
  | [], [] => True
  | t :: ts, v :: vs => Arg P W t v ∧ Args P W ts vs
  | _, _ => False

theorem args_of {H : Type} {enc : TypeId × Value → H} {P : Program} {W : World} {base : Nat} : ∀ {ts : List TypeId} {vs : List Value} {ds : List (DataW H)} {ps : List MemPlace},
    (∀ (j : Nat) t v, ts[j]? = some t → vs[j]? = some v → Value.okWide P W .any base t v) → DataW.TrodAll enc P W 0 (fun _ => true) true ts vs ds ps → Args P W ts vs
  | [], [], _, _, _, _ => trivial
  | t :: ts, v :: vs, d :: ds, ps, hok, ⟨p, q, h1, h2, _⟩ => ⟨arg_of (hok 0 t v rfl rfl) h1, args_of (fun j t' v' ht hv => hok (j + 1) t' v' (by simpa using ht) (by simpa using hv)) h2⟩
  | [], _ :: _, _, _, _, h => h.elim
  | _ :: _, [], _, _, _, h => h.elim
  | _ :: _, _ :: _, [], _, _, h => h.elim

theorem args_cons {P : Program} {W : World} {t : TypeId} {ts : List TypeId} {vs : List Value} (h : Args P W (t :: ts) vs) : ∃ v vs', vs = v :: vs' ∧ Arg P W t v ∧ Args P W ts vs' := by
  cases vs with
  | nil => exact h.elim
  | cons v vs => exact ⟨v, vs, rfl, h.1, h.2⟩
theorem args_nil {P : Program} {W : World} {vs : List Value} (h : Args P W [] vs) : vs = [] := by
  cases vs with
  | nil => rfl
  | cons v vs => exact h.elim
theorem args1 {P : Program} {W : World} {t : TypeId} {vs : List Value} (h : Args P W [t] vs) : ∃ a, vs = [a] ∧ Arg P W t a := by
  obtain ⟨a, r, rfl, ha, h⟩ := args_cons h
  rw [args_nil h]; exact ⟨a, rfl, ha⟩
theorem args2 {P : Program} {W : World} {t u : TypeId} {vs : List Value} (h : Args P W [t, u] vs) : ∃ a b, vs = [a, b] ∧ Arg P W t a ∧ Arg P W u b := by
  obtain ⟨a, r, rfl, ha, h⟩ := args_cons h
  obtain ⟨b, rfl, hb⟩ := args1 h
  exact ⟨a, b, rfl, ha, hb⟩
theorem trodAll_stays {H : Type} {enc : TypeId × Value → H} {P : Program} (hl : laidOutB P = true) {W W' : World} (hb : Below W.heap.size W W') : ∀ {ts : List TypeId} {vs : List Value} {ds : List (DataW H)} {ps : List MemPlace},
    (ts.all fun t => P.readableRec t && Nat.blt t P.types.size) = true → (∀ x ∈ ps, x.block < W.heap.size) → DataW.TrodAll enc P W 0 (fun _ => true) true ts vs ds ps → DataW.TrodAll enc P W' 0 (fun b => decide (b < W.heap.size)) true ts vs ds ps
  | [], [], [], _, _, _, h => h
  | t :: ts, v :: vs, d :: ds, ps, hr, hlt, ⟨p, q, h1, h2, h3⟩ => by
    simp only [List.all_cons, Bool.and_eq_true] at hr
    subst h3
    have ht : t < P.types.size := by
      have : t + 1 ≤ P.types.size := by simpa [Nat.blt, Nat.ble_eq] using hr.1.2
      exact this
    exact ⟨p, q, Below.trod hl hr.1.1 ht h1 hb (fun x hx => hlt x (by simp [hx])), trodAll_stays hl hb hr.2 (fun x hx => hlt x (by simp [hx])) h2, rfl⟩
  | [], _ :: _, _, _, _, _, h => h.elim
  | [], [], _ :: _, _, _, _, h => h.elim
  | _ :: _, [], _, _, _, _, h => h.elim
  | _ :: _, _ :: _, [], _, _, _, h => h.elim

theorem law_contractX (X : World → Prop) {H : Type} {enc : TypeId × Value → H} {P : Program} {f : FuncId} {fn : Func} {s : ChangeSpec} {tb : TypeId} (hl : laidOutB P = true) (hr : (fn.params.toList.all fun t => P.readableRec t && Nat.blt t P.types.size) = true)
    (hb : fn.resultTypes = #[tb]) (hbool : P.underlying tb = some .bool) (hvars : s.vars = [])
    (hspec : ∀ ds : List (DataW H), ds.length = fn.params.size → s.fn H (ds ++ []) = { results := [.lit (.bool true)], args := ds, vars := [] })
    (walk : ∀ (W : World) (vs : List Value), X W → Args P W fn.params.toList vs → Calls P f vs.toArray W (Ret fun v w => v = .bool true ∧ St W [] w))
    (W : World) (hX : X W) (base : Nat) (args : Array Value) (ds gs : List (DataW H)) (before : List MemPlace)
    (hok : ∀ (j : Nat) t v, fn.params[j]? = some t → args[j]? = some v → Value.okWide P W .any base t v)
    (hW : DataW.Whole enc P fn.params.toList s.vars false W args.toList ds gs before) :
    Calls P f args W fun e W' => ∃ v, e = .returned v ∧ s.post enc P fn false true false false W args v W' := by
  have hlt := hW.lt
  have hW' := hW
  obtain ⟨p, q, hA, hV, hpq, _, _⟩ := hW
  have hgs : gs = [] ∧ q = [] := by
    rw [hvars] at hV
    cases gs with
    | nil => exact ⟨rfl, hV⟩
    | cons g gs => exact hV.elim
  obtain ⟨rfl, rfl⟩ := hgs
  have hlen : ds.length = fn.params.size := by
    have : ∀ {ts : List TypeId} {vs : List Value} {ds : List (DataW H)} {ps : List MemPlace}, DataW.TrodAll enc P W 0 (fun _ => true) true ts vs ds ps → ds.length = ts.length := by
      intro ts
      induction ts with
      | nil => intro vs ds ps h; cases vs <;> cases ds <;> first | rfl | exact h.elim
      | cons t ts ih =>
        intro vs ds ps h
        cases vs with
        | nil => exact h.elim
        | cons v vs =>
          cases ds with
          | nil => exact h.elim
          | cons d ds => obtain ⟨_, _, _, h2, _⟩ := h; simp [ih h2]
    simpa using this hA
  have hargs := args_of (fun j t v ht hv => hok j t v (by simpa using ht) (by simpa using hv)) hA
  have hc := walk W args.toList hX hargs
  simp only [Array.toArray_toList] at hc
  refine hc.mono fun e W' ⟨v, he, hv, hS⟩ => ⟨v, he, ?_⟩
  subst hv
  have hsp := hspec ds hlen
  refine ⟨ds, [], before, [], p, [], hW', ?_, ?_, ?_, hS.below.frame _, fun h => by cases h⟩
  · rw [hsp, hb]
    exact trodAll_mk1 (shut_bool hbool true)
  · rw [hsp]
    have : before = p := by simpa using hpq
    subst this
    exact trodAll_stays hl hS.below hr (fun x hx => hlt x hx) hA
  · rw [hsp, hvars]
    exact rfl

theorem cellsOf_sz {P : Program} {T k : Nat} (h : szOf P T = some k) : P.cellsOf T = k := by
  unfold szOf at h
  unfold Program.cellsOf
  rw [h]; rfl

end Go.Proofs.YtkcjkbnbblpomaaGreatDoor
