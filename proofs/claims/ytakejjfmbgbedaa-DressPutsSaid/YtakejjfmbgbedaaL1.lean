/- The frame of a call as a list of known slots, and the rules by which its code is stepped through: no program in sight. -/
import Derived.WalkKit
import Derived.WalkLawsBesides
import Derived.KernelRfl
import Derived.TacticsIn
import Derived.OrdersIn
import Derived.RangeFuncRecord
namespace Go.Proofs.Ytakejjfmbgbedaa
variable {df : List Deferred}
open Go.RowKit

/-- Where a code runs: in a function's own activation (none), or in a round of a range over a function. -/
def FR (r : Option Nat) : Fence := { Fence.wide with round := r }

theorem CallsIn.fr {r : Option Nat} {n : Nat} {P : Program} {f : FuncId} {args : Array Value} {w : World} {R : Ending → World → Prop} (h : Calls P f args w R) : CallsIn (FR r) n P f args w R :=
  (callsIn_wide (n := n)).2 h

theorem RoundIn.fr {r : Option Nat} {n : Nat} {P : Program} {l : Nat} {f : FuncId} {tmps : Array Value} {assign body : Code} {w : World} {R : Ending → World → Prop} (h : RoundIn Fence.wide n P l f tmps assign body w R) :
    RoundIn (FR r) n P l f tmps assign body w R := h

/-! ## Known slots -/
def lk : List (Nat × Value) → Nat → Option Value
  | [], _ => none
  | (d, v) :: l, x => bif Nat.beq d x then some v else lk l x

theorem lk_cons_same (d : Nat) (v : Value) (l : List (Nat × Value)) : lk ((d, v) :: l) d = some v := by
  simp [lk]
theorem lk_cons_ne {d x : Nat} (v : Value) (l : List (Nat × Value)) (h : d ≠ x) : lk ((d, v) :: l) x = lk l x := by
  have : Nat.beq d x = false := by
    cases hb : Nat.beq d x with
    | false => rfl
    | true => exact absurd (Nat.eq_of_beq_eq_true hb) h
  simp [lk, this]

structure Kn (df : List Deferred) (n : Nat) (a : Act) (l : List (Nat × Value)) : Prop where
  size : a.tmps.size = n
  get : ∀ x v, lk l x = some v → a.tmps.getD x undef = v
  defers : a.defers = df

def ev (l : List (Nat × Value)) : Operand → Option Value
  | .tmp t => lk l t
  | .const v => some v
  | .global g => some (.pointer (some ⟨g, 0, none⟩))
  | .func f => some (.func (.func f) #[] #[])

theorem Kn.eval {n : Nat} {a : Act} {l : List (Nat × Value)} (hk : Kn df n a l) {x : Operand} {v : Value} (h : ev l x = some v) : a.eval x = v := by
  cases x with
  | tmp t => exact hk.get t v h
  | const u => simpa [ev, Act.eval] using h
  | global g => simpa [ev, Act.eval] using h
  | func f => simpa [ev, Act.eval] using h

def putK (d : Option Nat) (v : Value) (l : List (Nat × Value)) : List (Nat × Value) :=
  match d with
  | some d => (d, v) :: l
  | none => l

def okDst (n : Nat) : Option Nat → Bool
  | some d => Nat.blt d n
  | none => true

theorem Kn.put {n : Nat} {a : Act} {l : List (Nat × Value)} (hk : Kn df n a l) {d : Option Nat} (hd : okDst n d = true) (v : Value) : Kn df n (a.put d v) (putK d v l) := by
  cases d with
  | none => exact hk
  | some d =>
    have hd' : d < n := by
      have : d + 1 ≤ n := by simpa [okDst, Nat.blt, Nat.ble_eq] using hd
      omega
    refine ⟨?_, ?_, hk.defers⟩
    · simp [Act.put, hk.size]
    · intro x u hu
      by_cases hx : d = x
      · subst hx
        rw [show putK (some d) v l = (d, v) :: l from rfl, lk_cons_same] at hu
        injection hu with hu
        subst hu
        simp [Act.put, Array.getD_eq_getD_getElem?, hk.size, hd']
      · rw [show putK (some d) v l = (d, v) :: l from rfl, lk_cons_ne v l hx] at hu
        have := hk.get x u hu
        simpa [Act.put, Array.getD_eq_getD_getElem?, Array.getElem?_setIfInBounds_ne hx] using this

def subK (l : List (Nat × Value)) : List (Nat × Value) → Prop
  | [] => True
  | (x, v) :: l' => lk l x = some v ∧ subK l l'

theorem subK.lk {l : List (Nat × Value)} : ∀ {l' : List (Nat × Value)}, subK l l' → ∀ x v, lk l' x = some v → lk l x = some v
  | [], _, _, _, h => by simp [Proofs.Ytakejjfmbgbedaa.lk] at h
  | (y, u) :: l', hs, x, v, h => by
    by_cases hx : y = x
    · subst hx
      rw [lk_cons_same] at h
      injection h with h
      subst h
      exact hs.1
    · rw [lk_cons_ne u l' hx] at h
      exact subK.lk hs.2 x v h

theorem Kn.sub {n : Nat} {a : Act} {l l' : List (Nat × Value)} (hk : Kn df n a l) (h : subK l l') : Kn df n a l' :=
  ⟨hk.size, fun x v hx => hk.get x v (h.lk x v hx), hk.defers⟩

def initK : Nat → List Value → List (Nat × Value)
  | _, [] => []
  | i, v :: l => (i, v) :: initK (i + 1) l

theorem lk_initK : ∀ (l : List Value) (i x : Nat) (v : Value), lk (initK i l) x = some v → i ≤ x ∧ l[x - i]? = some v
  | [], _, _, _, h => by simp [initK, lk] at h
  | u :: l, i, x, v, h => by
    by_cases hx : i = x
    · subst hx
      rw [initK, lk_cons_same] at h
      injection h with h
      subst h
      simp
    · rw [initK, lk_cons_ne u _ hx] at h
      obtain ⟨h1, h2⟩ := lk_initK l (i + 1) x v h
      refine ⟨by omega, ?_⟩
      rw [show x - i = (x - (i + 1)) + 1 from by omega]
      simpa using h2

theorem Kn.init {n : Nat} {args : List Value} (hn : args.length ≤ n) : Kn [] n { tmps := args.toArray ++ Array.replicate (n - args.toArray.size) undef, defers := [] } (initK 0 args) := by
  refine ⟨by simp; omega, ?_, rfl⟩
  intro x v h
  obtain ⟨_, h2⟩ := lk_initK args 0 x v h
  have h3 : args[x]? = some v := by simpa using h2
  have hx : x < args.length := by
    rcases Nat.lt_or_ge x args.length with h' | h'
    · exact h'
    · rw [List.getElem?_eq_none h'] at h3; cases h3
  have h4 : args[x] = v := by rw [List.getElem?_eq_getElem hx] at h3; injection h3
  simp [Array.getD_eq_getD_getElem?, Array.getElem?_append, hx, h4]

/-! ## A call's ending -/
/-- The call returned v, of which R holds in the world behind it. -/
def Ret (R : Value → World → Prop) (e : Ending) (w : World) : Prop := ∃ v, e = .returned v ∧ R v w

theorem Ret.mono {R R' : Value → World → Prop} {e : Ending} {w : World} (h : Ret R e w) (hr : ∀ v w, R v w → R' v w) : Ret R' e w :=
  let ⟨v, he, hv⟩ := h
  ⟨v, he, hr v w hv⟩

/-- What stands at the end of a body: the frame that gives the result. -/
def Done (P : Program) (fn : Func) (R : Value → World → Prop) : Exit → Act → World → Prop := bodyPost P fn (Ret R)

theorem enter {P : Program} {f : FuncId} {fn : Func} {c : Code} {args : List Value} {w : World} {R : Value → World → Prop}
    {n : Nat} (hf : P.funcs[f]? = some fn) (hb : fn.body = some c) (hnt : fn.ntmps = n) (hn : Nat.ble args.length n = true)
    (h : ∀ a, Kn [] n a (initK 0 args) → c.wpIn (FR none) 0 P (Done P fn R) a w) : Calls P f args.toArray w (Ret R) := by
  subst hnt
  exact callsIn_wide.1 (callsIn_of_wp (F := Fence.wide) (n := 0) hf hb trivial (h _ (Kn.init (Nat.le_of_ble_eq_true hn))) rfl)

def resK (l : List (Nat × Value)) : List ResultVar → Option (List Value)
  | [] => some []
  | .tmp t :: r => match lk l t, resK l r with | some v, some vs => some (v :: vs) | _, _ => none
  | .cell .. :: _ => none

def packV : List Value → Value
  | [v] => v
  | vs => .tuple vs.toArray

end Go.Proofs.Ytakejjfmbgbedaa
