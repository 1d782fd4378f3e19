/- One operation at a time: what each operation does to the known slots and to the world. -/
import Derived.Test.YtakejjfmbgbedaaL2
namespace Go.Proofs.Ytakejjfmbgbedaa
variable {df : List Deferred}
variable {rr : Option Nat}
open Go.RowKit

def gdK (ops : Array Oper) (l : List (Nat × Value)) : Option (Nat × Bool) → Option Bool
  | none => some true
  | some (j, want) => match (ops[j]?).bind (·.dst) with
    | some t => match lk l t with
      | some (.bool c) => some (c == want)
      | some (.tuple _) => some false
      | _ => none
    | none => none

theorem wanted_of {n : Nat} {a : Act} {l : List (Nat × Value)} {ops : Array Oper} {o : Oper} {b : Bool} (hk : Kn df n a l) (h : gdK ops l o.guard = some b) :
    Region.wanted o (yielded ops a.tmps) = b := by
  unfold Region.wanted
  cases hg : o.guard with
  | none => rw [hg] at h; simpa [gdK] using h
  | some p =>
    obtain ⟨j, want⟩ := p
    rw [hg] at h
    simp only [gdK] at h
    simp only [yielded]
    cases ht : (ops[j]?).bind (·.dst) with
    | none => rw [ht] at h; simp at h
    | some t =>
      rw [ht] at h
      simp only [Option.bind_some] at h ⊢
      cases hv : lk l t with
      | none => rw [hv] at h; simp at h
      | some v =>
        rw [hv] at h
        have hget := hk.get t v hv
        cases v <;> simp only [Option.some.injEq, reduceCtorEq] at h
        case bool c =>
          have : a.tmps[t]? = some (.bool c) := by
            rcases Nat.lt_or_ge t a.tmps.size with h' | h'
            · simpa [Array.getD_eq_getD_getElem?, Array.getElem?_eq_getElem h'] using hget
            · simp [Array.getD_eq_getD_getElem?, Array.getElem?_eq_none h', undef] at hget
          rw [this]
          subst h
          cases c <;> cases want <;> rfl
        case tuple c =>
          subst h
          rcases Nat.lt_or_ge t a.tmps.size with h' | h'
          · have : a.tmps[t]? = some (.tuple c) := by simpa [Array.getD_eq_getD_getElem?, Array.getElem?_eq_getElem h'] using hget
            rw [this]; cases want <;> rfl
          · rw [Array.getElem?_eq_none h']; cases want <;> rfl

/-- The operation, in this state, gives a value and a world of which R holds (a store gives 'undef'). -/
def Gives (P : Program) (o : Oper) (a : Act) (w : World) (R : Value → World → Prop) : Prop :=
  match (execOp a.eval o).run P w with
  | .ok (.value v) w' => R v w'
  | .ok .skip w' => R undef w'
  | .ok (.enter f args) w' => Calls P f args w' (Ret R)
  | .ok (.round l f tmps assign body) w' => RoundIn Fence.wide 0 P l f tmps assign body w' (Ret R)
  | _ => False

theorem Gives.mono {P : Program} {o : Oper} {a : Act} {w : World} {R R' : Value → World → Prop} (h : Gives P o a w R) (hr : ∀ v w, R v w → R' v w) : Gives P o a w R' := by
  unfold Gives at *
  generalize (execOp a.eval o).run P w = r at *
  cases r with
  | halt x w' => exact h
  | ok nx w' => cases nx <;> first | exact hr _ _ h | exact Calls.mono h (fun e w hh => hh.mono hr) | exact RoundIn.mono h (fun e w hh => hh.mono hr) | exact h

theorem Gives.wp {P : Program} {o : Oper} {a : Act} {w : World} {R : Value → World → Prop} {K : Act → World → Prop} {Q : Exit → Act → World → Prop} (h : Gives P o a w R)
    (hK : ∀ v w', R v w' → K (a.put o.dst v) w') : o.wpIn (FR rr) 0 P a w K Q := by
  have hs : (o.semAt (FR rr).round a.eval).run P w = (execOp a.eval o).run P w := by
    by_cases hd : ∀ c, o.op ≠ .defer c
    · rw [Oper.semAt_eq _ _ _ hd]
    · exfalso
      simp only [Classical.not_forall, Classical.not_not] at hd
      obtain ⟨c, hc⟩ := hd
      unfold Gives execOp at h
      rw [hc] at h
      simp only [Sem.run_bind] at h
      generalize (resolve a.eval c o.type).run P w = r at h
      cases r <;> exact h
  refine ⟨fun _ _ => trivial, ?_⟩
  rw [hs]
  unfold Gives at h
  generalize (execOp a.eval o).run P w = r at *
  cases r with
  | halt x w' => exact h.elim
  | ok nx w' =>
    cases nx <;> first
      | exact hK _ _ h
      | exact h.elim
      | exact ⟨fun h => (by cases h), CallsIn.fr (Calls.mono h (fun e w'' ⟨v, he, hv⟩ => by subst he; exact hK _ _ hv))⟩
      | exact ⟨fun h => (by cases h), RoundIn.fr (RoundIn.mono h (fun e w'' ⟨v, he, hv⟩ => by subst he; exact hK _ _ hv))⟩

section
variable {P : Program} {ops : Array Oper} {Q : Exit → Act → World → Prop} {a : Act} {w w' : World} {rest : List Oper} {n : Nat} {l : List (Nat × Value)}
  {d : Nat} {dst : Option Nat} {ty : TypeId} {pos : String} {af : Array Edge} {g : Option (Nat × Bool)} {R R' : Value → World → Prop}

theorem givesv {o : Oper} {v : Value} (hrun : (execOp a.eval o).run P w = .ok (.value v) w') (h : R v w') : Gives P o a w R := by
  unfold Gives; rw [hrun]; exact h

theorem givesu {o : Oper} (hrun : (execOp a.eval o).run P w = .ok .skip w') (h : R undef w') : Gives P o a w R := by
  unfold Gives; rw [hrun]; exact h

theorem givesc {o : Oper} {f : FuncId} {args : Array Value} (hrun : (execOp a.eval o).run P w = .ok (.enter f args) w') (hc : Calls P f args w' (Ret R')) (h : ∀ v w', R' v w' → R v w') : Gives P o a w R := by
  unfold Gives; rw [hrun]; exact hc.mono (fun e w hh => hh.mono h)

/-- The next operation runs. -/
theorem sg {o : Op} (hk : Kn df n a l) (h : Gives P ⟨some d, o, ty, pos, af, g⟩ a w (fun v w' => ∀ a', Kn df n a' ((d, v) :: l) → wpListIn (FR rr) 0 P ops Q rest a' w'))
    (hg : gdK ops l g = some true := by rfl) (hd : Nat.blt d n = true := by rfl) : wpListIn (FR rr) 0 P ops Q (⟨some d, o, ty, pos, af, g⟩ :: rest) a w := by
  unfold wpListIn
  rw [if_pos (wanted_of (o := ⟨some d, o, ty, pos, af, g⟩) hk hg)]
  exact h.wp (fun v w' hv => hv _ (hk.put (d := some d) hd v))

theorem su {o : Op} (hk : Kn df n a l) (h : Gives P ⟨none, o, ty, pos, af, g⟩ a w (fun _ w' => ∀ a', Kn df n a' l → wpListIn (FR rr) 0 P ops Q rest a' w'))
    (hg : gdK ops l g = some true := by rfl) : wpListIn (FR rr) 0 P ops Q (⟨none, o, ty, pos, af, g⟩ :: rest) a w := by
  unfold wpListIn
  rw [if_pos (wanted_of (o := ⟨none, o, ty, pos, af, g⟩) hk hg)]
  exact h.wp (fun v w' hv => hv _ hk)

theorem s_skip {o : Op} (hk : Kn df n a l) (h : ∀ a', Kn df n a' ((d, undef) :: l) → wpListIn (FR rr) 0 P ops Q rest a' w) (hg : gdK ops l g = some false := by rfl) (hd : Nat.blt d n = true := by rfl) :
    wpListIn (FR rr) 0 P ops Q (⟨some d, o, ty, pos, af, g⟩ :: rest) a w := by
  unfold wpListIn
  rw [if_neg (by rw [wanted_of (o := ⟨some d, o, ty, pos, af, g⟩) hk hg]; decide)]
  exact ⟨fun _ _ => trivial, h _ (hk.put (d := some d) hd undef)⟩

theorem s_skip0 {o : Op} (hk : Kn df n a l) (h : ∀ a', Kn df n a' l → wpListIn (FR rr) 0 P ops Q rest a' w) (hg : gdK ops l g = some false := by rfl) :
    wpListIn (FR rr) 0 P ops Q (⟨none, o, ty, pos, af, g⟩ :: rest) a w := by
  unfold wpListIn
  rw [if_neg (by rw [wanted_of (o := ⟨none, o, ty, pos, af, g⟩) hk hg]; decide)]
  exact ⟨fun _ _ => trivial, h _ hk⟩

theorem s_end (hk : Kn df n a l) (h : ∀ a', Kn df n a' l → Q .normal a' w) : wpListIn (FR rr) 0 P ops Q [] a w := h _ hk

theorem g_move {x : Operand} {v : Value} (hk : Kn df n a l) (h : R (v) w)
    (hx : ev l x = some v := by rfl) :
    Gives P ⟨dst, .move x, ty, pos, af, g⟩ a w R :=
  givesv (v := v) (by rw [← hk.eval hx]; rfl) h

theorem g_assign {x : Operand} {v : Value} (hk : Kn df n a l) (h : R (v) w)
    (hx : ev l x = some v := by rfl) :
    Gives P ⟨dst, .assign x, ty, pos, af, g⟩ a w R :=
  givesv (v := v) (by rw [← hk.eval hx]; rfl) h

theorem g_pick_t {c x y : Operand} {v : Value} (hk : Kn df n a l) (h : R (v) w)
    (hc : ev l c = some (.bool true) := by rfl) (hx : ev l x = some v := by rfl) :
    Gives P ⟨dst, .pick c x y, ty, pos, af, g⟩ a w R :=
  givesv (v := v) (by simp [execOp, hk.eval hc, hk.eval hx, asBool]) h

theorem g_pick_f {c x y : Operand} {v : Value} (hk : Kn df n a l) (h : R (v) w)
    (hc : ev l c = some (.bool false) := by rfl) (hx : ev l y = some v := by rfl) :
    Gives P ⟨dst, .pick c x y, ty, pos, af, g⟩ a w R :=
  givesv (v := v) (by simp [execOp, hk.eval hc, hk.eval hx, asBool]) h

/-! ### Numbers -/
theorem g_add {x y : Operand} {t t' : TypeId} {p q : Int} (hk : Kn df n a l) (h : R (.int .i64 (p + q)) w)
    (hx : ev l x = some (.int .i64 p) := by rfl) (hy : ev l y = some (.int .i64 q) := by rfl)
    (hlo : -9223372036854775808 ≤ p + q) (hhi : p + q ≤ 9223372036854775807) :
    Gives P ⟨dst, .binOp .add t x y t', ty, pos, af, g⟩ a w R :=
  givesv (v := .int .i64 (p + q)) (by
    have e : IntKind.i64.wrap (p + q) = p + q := IntWalk.i64_in _ ⟨hlo, hhi⟩
    simp [execOp, hk.eval hx, hk.eval hy, eqGuard, binOp_add, Op.intArith, e]) h

theorem g_sub {x y : Operand} {t t' : TypeId} {p q : Int} (hk : Kn df n a l) (h : R (.int .i64 (p - q)) w)
    (hx : ev l x = some (.int .i64 p) := by rfl) (hy : ev l y = some (.int .i64 q) := by rfl)
    (hlo : -9223372036854775808 ≤ p - q) (hhi : p - q ≤ 9223372036854775807) :
    Gives P ⟨dst, .binOp .sub t x y t', ty, pos, af, g⟩ a w R :=
  givesv (v := .int .i64 (p - q)) (by
    have e : IntKind.i64.wrap (p - q) = p - q := IntWalk.i64_in _ ⟨hlo, hhi⟩
    simp [execOp, hk.eval hx, hk.eval hy, eqGuard, binOp_sub, Op.intArith, e]) h

theorem g_mul {x y : Operand} {t t' : TypeId} {p q : Int} (hk : Kn df n a l) (h : R (.int .i64 (p * q)) w)
    (hx : ev l x = some (.int .i64 p) := by rfl) (hy : ev l y = some (.int .i64 q) := by rfl)
    (hlo : -9223372036854775808 ≤ p * q) (hhi : p * q ≤ 9223372036854775807) :
    Gives P ⟨dst, .binOp .mul t x y t', ty, pos, af, g⟩ a w R :=
  givesv (v := .int .i64 (p * q)) (by
    have e : IntKind.i64.wrap (p * q) = p * q := IntWalk.i64_in _ ⟨hlo, hhi⟩
    simp [execOp, hk.eval hx, hk.eval hy, eqGuard, binOp_mul, Op.intArith, e]) h

theorem g_lss {x y : Operand} {t t' : TypeId} {k : IntKind} {p q : Int} (hk : Kn df n a l) (h : R (.bool (decide (p < q))) w)
    (hx : ev l x = some (.int k p) := by rfl) (hy : ev l y = some (.int k q) := by rfl) :
    Gives P ⟨dst, .binOp .lss t x y t', ty, pos, af, g⟩ a w R :=
  givesv (v := .bool (decide (p < q))) (by simp [execOp, hk.eval hx, hk.eval hy, eqGuard, binOp_lss]) h

theorem g_leq {x y : Operand} {t t' : TypeId} {k : IntKind} {p q : Int} (hk : Kn df n a l) (h : R (.bool (decide (p ≤ q))) w)
    (hx : ev l x = some (.int k p) := by rfl) (hy : ev l y = some (.int k q) := by rfl) :
    Gives P ⟨dst, .binOp .leq t x y t', ty, pos, af, g⟩ a w R :=
  givesv (v := .bool (decide (p ≤ q))) (by simp [execOp, hk.eval hx, hk.eval hy, eqGuard, binOp_leq]) h

theorem g_gtr {x y : Operand} {t t' : TypeId} {k : IntKind} {p q : Int} (hk : Kn df n a l) (h : R (.bool (decide (q < p))) w)
    (hx : ev l x = some (.int k p) := by rfl) (hy : ev l y = some (.int k q) := by rfl) :
    Gives P ⟨dst, .binOp .gtr t x y t', ty, pos, af, g⟩ a w R :=
  givesv (v := .bool (decide (q < p))) (by simp [execOp, hk.eval hx, hk.eval hy, eqGuard, binOp_gtr]) h

theorem g_geq {x y : Operand} {t t' : TypeId} {k : IntKind} {p q : Int} (hk : Kn df n a l) (h : R (.bool (decide (q ≤ p))) w)
    (hx : ev l x = some (.int k p) := by rfl) (hy : ev l y = some (.int k q) := by rfl) :
    Gives P ⟨dst, .binOp .geq t x y t', ty, pos, af, g⟩ a w R :=
  givesv (v := .bool (decide (q ≤ p))) (by simp [execOp, hk.eval hx, hk.eval hy, eqGuard, binOp_geq]) h

theorem g_eqi {x y : Operand} {t t' : TypeId} {k : IntKind} {p q : Int} (hk : Kn df n a l) (h : R (.bool (decide (p = q))) w)
    (hx : ev l x = some (.int k p) := by rfl) (hy : ev l y = some (.int k q) := by rfl) :
    Gives P ⟨dst, .binOp .eql t x y t', ty, pos, af, g⟩ a w R :=
  givesv (v := .bool (decide (p = q))) (by simp [execOp, hk.eval hx, hk.eval hy, eqGuard, binOp_eql]; rfl) h

theorem g_nei {x y : Operand} {t t' : TypeId} {k : IntKind} {p q : Int} (hk : Kn df n a l) (h : R (.bool (!decide (p = q))) w)
    (hx : ev l x = some (.int k p) := by rfl) (hy : ev l y = some (.int k q) := by rfl) :
    Gives P ⟨dst, .binOp .neq t x y t', ty, pos, af, g⟩ a w R :=
  givesv (v := .bool (!decide (p = q))) (by simp [execOp, hk.eval hx, hk.eval hy, eqGuard, binOp_neq]; rfl) h

theorem g_eqb {x y : Operand} {t t' : TypeId} {p q : Bool} (hk : Kn df n a l) (h : R (.bool (p == q)) w)
    (ht : P.underlying t = some .bool)
    (hx : ev l x = some (.bool p) := by rfl) (hy : ev l y = some (.bool q) := by rfl) :
    Gives P ⟨dst, .binOp .eql t x y t', ty, pos, af, g⟩ a w R :=
  givesv (v := .bool (p == q)) (by simp [execOp, hk.eval hx, hk.eval hy, eqGuard, run_eql_bool w t p q ht]) h

theorem g_neb {x y : Operand} {t t' : TypeId} {p q : Bool} (hk : Kn df n a l) (h : R (.bool (!(p == q))) w)
    (ht : P.underlying t = some .bool)
    (hx : ev l x = some (.bool p) := by rfl) (hy : ev l y = some (.bool q) := by rfl) :
    Gives P ⟨dst, .binOp .neq t x y t', ty, pos, af, g⟩ a w R :=
  givesv (v := .bool (!(p == q))) (by simp [execOp, hk.eval hx, hk.eval hy, eqGuard, run_neq_bool w t p q ht]) h

theorem g_not {x : Operand} {t : TypeId} {p : Bool} (hk : Kn df n a l) (h : R (.bool (!p)) w)
    (hx : ev l x = some (.bool p) := by rfl) :
    Gives P ⟨dst, .unOp .not t x, ty, pos, af, g⟩ a w R :=
  givesv (v := .bool (!p)) (by simp [execOp, hk.eval hx, Op.unary]) h

theorem g_min {x y : Operand} {ts : Array TypeId} {p q : Int} (hk : Kn df n a l) (h : R (.int .i64 (min p q)) w)
    (hx : ev l x = some (.int .i64 p) := by rfl) (hy : ev l y = some (.int .i64 q) := by rfl) :
    Gives P ⟨dst, .call { callee := .builtin .min, args := #[x, y], argTypes := ts }, ty, pos, af, g⟩ a w R :=
  givesv (v := .int .i64 (min p q)) (by
    simp [execOp, resolve, invoke, builtin, hk.eval hx, hk.eval hy, run_min_int2]
    omega) h

theorem g_max {x y : Operand} {ts : Array TypeId} {p q : Int} (hk : Kn df n a l) (h : R (.int .i64 (max p q)) w)
    (hx : ev l x = some (.int .i64 p) := by rfl) (hy : ev l y = some (.int .i64 q) := by rfl) :
    Gives P ⟨dst, .call { callee := .builtin .max, args := #[x, y], argTypes := ts }, ty, pos, af, g⟩ a w R :=
  givesv (v := .int .i64 (max p q)) (by
    simp [execOp, resolve, invoke, builtin, hk.eval hx, hk.eval hy, run_max_int2]
    omega) h

theorem g_extract {x : Operand} {i : Nat} {vs : Array Value} {v : Value} (hk : Kn df n a l) (h : R (v) w)
    (hx : ev l x = some (.tuple vs) := by rfl) (hv : vs[i]? = some v := by rfl) :
    Gives P ⟨dst, .extract x i, ty, pos, af, g⟩ a w R :=
  givesv (v := v) (by simp [execOp, hk.eval hx, Instr.extract, hv]) h

theorem g_ex0 {x : Operand} {v v' : Value} (hk : Kn df n a l) (h : R v w) (hx : ev l x = some (.tuple #[v, v']) := by rfl) : Gives P ⟨dst, .extract x 0, ty, pos, af, g⟩ a w R :=
  g_extract hk h hx rfl
theorem g_ex1 {x : Operand} {v v' : Value} (hk : Kn df n a l) (h : R v' w) (hx : ev l x = some (.tuple #[v, v']) := by rfl) : Gives P ⟨dst, .extract x 1, ty, pos, af, g⟩ a w R :=
  g_extract hk h hx rfl

end
end Go.Proofs.Ytakejjfmbgbedaa
