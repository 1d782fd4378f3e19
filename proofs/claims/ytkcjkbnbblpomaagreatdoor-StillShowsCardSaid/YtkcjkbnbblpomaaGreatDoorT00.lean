/- The frame of a call as a list of known slots, and the rules by which its code is stepped through: no program in sight. What a call owns in memory: a list of resources, each in blocks of its own; all that was there before is as it was. One operation at a time: what each operation does to the known slots and to the world. -/
import Derived.WalkKit
import Derived.WalkLawsBesides
import Derived.KernelRfl
import Derived.TacticsIn
import Derived.OrdersIn
import Derived.RangeFuncRecord
import Derived.Below
set_option linter.all false
namespace Go.Proofs.YtkcjkbnbblpomaaGreatDoor
variable {df : List Deferred}
open Go.RowKit

def FR (r : Option Nat) : Fence := { Fence.wide with round := r }

theorem CallsIn.fr {r : Option Nat} {n : Nat} {P : Program} {f : FuncId} {args : Array Value} {w : World} {R : Ending → World → Prop} (h : Calls P f args w R) : CallsIn (FR r) n P f args w R :=
  (callsIn_wide (n := n)).2 h

theorem RoundIn.fr {r : Option Nat} {n : Nat} {P : Program} {l : Nat} {f : FuncId} {tmps : Array Value} {assign body : Code} {w : World} {R : Ending → World → Prop} (h : RoundIn Fence.wide n P l f tmps assign body w R) :
    RoundIn (FR r) n P l f tmps assign body w R := h

def lk : List (Nat × Value) → Nat → Option Value
  | [], _ => none
  | (d, v) :: l, x => bif Nat.beq d x then some v else lk l x

theorem lk_cons_same (d : Nat) (v : Value) (l : List (Nat × Value)) : lk ((d, v) :: l) d = some v := by
  simp [lk]
theorem lk_cons_ne {d x : Nat} (v : Value) (l : List (Nat × Value)) (h : d ≠ x) : lk ((d, v) :: l) x = lk l x := by
  have : Nat.beq d x = false := by
    cases hb : Nat.beq d x with
    | false => rfl
    | true => exact absurd (Nat.eq_of_beq_eq_true hb) h
  simp [lk, this]

structure Kn (df : List Deferred) (n : Nat) (a : Act) (l : List (Nat × Value)) : Prop where
  size : a.tmps.size = n
  get : ∀ x v, lk l x = some v → a.tmps.getD x undef = v
  defers : a.defers = df

def ev (l : List (Nat × Value)) : Operand → Option Value
  | .tmp t => lk l t
  | .const v => some v
  | .global g => some (.pointer (some ⟨g, 0, none⟩))
  | .func f => some (.func (.func f) #[] #[])

theorem Kn.eval {n : Nat} {a : Act} {l : List (Nat × Value)} (hk : Kn df n a l) {x : Operand} {v : Value} (h : ev l x = some v) : a.eval x = v := by
  cases x with
  | tmp t => exact hk.get t v h
  | const u => simpa [ev, Act.eval] using h
  | global g => simpa [ev, Act.eval] using h
  | func f => simpa [ev, Act.eval] using h

def putK (d : Option Nat) (v : Value) (l : List (Nat × Value)) : List (Nat × Value) :=
  match d with
  | some d => (d, v) :: l
  | none => l

def okDst (n : Nat) : Option Nat → Bool
  | some d => Nat.blt d n
  | none => true

theorem Kn.put {n : Nat} {a : Act} {l : List (Nat × Value)} (hk : Kn df n a l) {d : Option Nat} (hd : okDst n d = true) (v : Value) : Kn df n (a.put d v) (putK d v l) := by
  cases d with
  | none => exact hk
  | some d =>
    have hd' : d < n := by
      have : d + 1 ≤ n := by simpa [okDst, Nat.blt, Nat.ble_eq] using hd
      omega
    refine ⟨?_, ?_, hk.defers⟩
    · simp [Act.put, hk.size]
    · intro x u hu
      by_cases hx : d = x
      · subst hx
        rw [show putK (some d) v l = (d, v) :: l from rfl, lk_cons_same] at hu
        injection hu with hu
        subst hu
        simp [Act.put, Array.getD_eq_getD_getElem?, hk.size, hd']
      · rw [show putK (some d) v l = (d, v) :: l from rfl, lk_cons_ne v l hx] at hu
        have := hk.get x u hu
        simpa [Act.put, Array.getD_eq_getD_getElem?, Array.getElem?_setIfInBounds_ne hx] using this

def subK (l : List (Nat × Value)) : List (Nat × Value) → Prop
  | [] => True
  | (x, v) :: l' => lk l x = some v ∧ subK l l'

theorem subK.lk {l : List (Nat × Value)} : ∀ {l' : List (Nat × Value)}, subK l l' → ∀ x v, lk l' x = some v → lk l x = some v
  | [], _, _, _, h => by simp [Proofs.YtkcjkbnbblpomaaGreatDoor.lk] at h
  | (y, u) :: l', hs, x, v, h => by
    by_cases hx : y = x
    · subst hx
      rw [lk_cons_same] at h
      injection h with h
      subst h
      exact hs.1
    · rw [lk_cons_ne u l' hx] at h
      exact subK.lk hs.2 x v h

theorem Kn.sub {n : Nat} {a : Act} {l l' : List (Nat × Value)} (hk : Kn df n a l) (h : subK l l') : Kn df n a l' :=
  ⟨hk.size, fun x v hx => hk.get x v (h.lk x v hx), hk.defers⟩

def initK : Nat → List Value → List (Nat × Value)
  | _, [] => []
  | i, v :: l => (i, v) :: initK (i + 1) l

theorem lk_initK : ∀ (l : List Value) (i x : Nat) (v : Value), lk (initK i l) x = some v → i ≤ x ∧ l[x - i]? = some v
  | [], _, _, _, h => by simp [initK, lk] at h
  | u :: l, i, x, v, h => by
    by_cases hx : i = x
    · subst hx
      rw [initK, lk_cons_same] at h
      injection h with h
      subst h
      simp
    · rw [initK, lk_cons_ne u _ hx] at h
      obtain ⟨h1, h2⟩ := lk_initK l (i + 1) x v h
      refine ⟨by omega, ?_⟩
      rw [show x - i = (x - (i + 1)) + 1 from by omega]
      simpa using h2

theorem Kn.init {n : Nat} {args : List Value} (hn : args.length ≤ n) : Kn [] n { tmps := args.toArray ++ Array.replicate (n - args.toArray.size) undef, defers := [] } (initK 0 args) := by
  refine ⟨by simp; omega, ?_, rfl⟩
  intro x v h
  obtain ⟨_, h2⟩ := lk_initK args 0 x v h
  have h3 : args[x]? = some v := by simpa using h2
  have hx : x < args.length := by
    rcases Nat.lt_or_ge x args.length with h' | h'
    · exact h'
    · rw [List.getElem?_eq_none h'] at h3; cases h3
  have h4 : args[x] = v := by rw [List.getElem?_eq_getElem hx] at h3; injection h3
  simp [Array.getD_eq_getD_getElem?, Array.getElem?_append, hx, h4]

def Ret (R : Value → World → Prop) (e : Ending) (w : World) : Prop := ∃ v, e = .returned v ∧ R v w

theorem Ret.mono {R R' : Value → World → Prop} {e : Ending} {w : World} (h : Ret R e w) (hr : ∀ v w, R v w → R' v w) : Ret R' e w :=
  let ⟨v, he, hv⟩ := h
  ⟨v, he, hr v w hv⟩

def Done (P : Program) (fn : Func) (R : Value → World → Prop) : Exit → Act → World → Prop := bodyPost P fn (Ret R)

theorem enter {P : Program} {f : FuncId} {fn : Func} {c : Code} {args : List Value} {w : World} {R : Value → World → Prop}
    {n : Nat} (hf : P.funcs[f]? = some fn) (hb : fn.body = some c) (hnt : fn.ntmps = n) (hn : Nat.ble args.length n = true)
    (h : ∀ a, Kn [] n a (initK 0 args) → c.wpIn (FR none) 0 P (Done P fn R) a w) : Calls P f args.toArray w (Ret R) := by
  subst hnt
  exact callsIn_wide.1 (callsIn_of_wp (F := Fence.wide) (n := 0) hf hb trivial (h _ (Kn.init (Nat.le_of_ble_eq_true hn))) rfl)

def resK (l : List (Nat × Value)) : List ResultVar → Option (List Value)
  | [] => some []
  | .tmp t :: r => match lk l t, resK l r with | some v, some vs => some (v :: vs) | _, _ => none
  | .cell .. :: _ => none

def packV : List Value → Value
  | [v] => v
  | vs => .tuple vs.toArray

end Go.Proofs.YtkcjkbnbblpomaaGreatDoor
namespace Go.Proofs.YtkcjkbnbblpomaaGreatDoor
open Go.RowKit

structure HP where
  holds : (Nat → Prop) → World → Prop
  stable : ∀ F w w', holds F w → (∀ b, F b → w'.heap[b]? = w.heap[b]?) → holds F w'
  dom : ∀ F w b, holds F w → F b → b < w.heap.size

def Sep : List HP → (Nat → Prop) → World → Prop
  | [], _, _ => True
  | A :: L, F, w => ∃ F1 F2 : Nat → Prop, (∀ b, F1 b → F b) ∧ (∀ b, F2 b → F b) ∧ (∀ b, F1 b → F2 b → False) ∧ A.holds F1 w ∧ Sep L F2 w

theorem Sep.mono {w : World} : ∀ {L : List HP} {F F' : Nat → Prop}, Sep L F w → (∀ b, F b → F' b) → Sep L F' w
  | [], _, _, _, _ => trivial
  | _ :: _, _, _, ⟨F1, F2, h1, h2, h3, h4, h5⟩, hF => ⟨F1, F2, fun b h => hF b (h1 b h), fun b h => hF b (h2 b h), h3, h4, h5⟩

theorem Sep.stable {w w' : World} : ∀ {L : List HP} {F : Nat → Prop}, Sep L F w → (∀ b, F b → w'.heap[b]? = w.heap[b]?) → Sep L F w'
  | [], _, _, _ => trivial
  | A :: _, _, ⟨F1, F2, h1, h2, h3, h4, h5⟩, hF => ⟨F1, F2, h1, h2, h3, A.stable _ _ _ h4 (fun b h => hF b (h1 b h)), Sep.stable h5 (fun b h => hF b (h2 b h))⟩

theorem Sep.append {w : World} : ∀ {L L' : List HP} {F F' : Nat → Prop}, Sep L F w → Sep L' F' w → (∀ b, F b → F' b → False) → Sep (L ++ L') (fun b => F b ∨ F' b) w
  | [], _, _, _, _, h', _ => h'.mono (fun _ h => Or.inr h)
  | _ :: _, L', _, F', ⟨F1, F2, h1, h2, h3, h4, h5⟩, h', hd =>
    ⟨F1, fun b => F2 b ∨ F' b, fun b h => .inl (h1 b h), fun b h => h.elim (fun h => .inl (h2 b h)) .inr,
      fun b a c => c.elim (h3 b a) (hd b (h1 b a)), h4, Sep.append h5 h' (fun b a c => hd b (h2 b a) c)⟩

inductive At : HP → List HP → List HP → Prop
  | here {A : HP} {L : List HP} : At A (A :: L) L
  | there {A B : HP} {L L' : List HP} : At A L L' → At A (B :: L) (B :: L')

theorem Sep.pull {w : World} {A : HP} {L L' : List HP} (h : At A L L') : ∀ {F : Nat → Prop}, Sep L F w → Sep (A :: L') F w := by
  induction h with
  | here => exact fun h => h
  | there h ih =>
    intro F ⟨F1, F2, h1, h2, h3, h4, h5⟩
    obtain ⟨G1, G2, g1, g2, g3, g4, g5⟩ := ih h5
    exact ⟨G1, fun b => F1 b ∨ G2 b, fun b h => h2 b (g1 b h), fun b h => h.elim (h1 b) (fun h => h2 b (g2 b h)),
      fun b a c => c.elim (fun c => h3 b c (g1 b a)) (g3 b a), g4,
      F1, G2, fun b h => .inl h, fun b h => .inr h, fun b a c => h3 b a (g2 b c), h4, g5⟩

inductive Sub : List HP → List HP → Prop
  | nil {L : List HP} : Sub [] L
  | refl {L : List HP} : Sub L L
  | cons {A : HP} {L L1 L' : List HP} : At A L L1 → Sub L' L1 → Sub (A :: L') L

theorem Sub.under {L' L : List HP} (h : Sub L' L) : ∀ {A : HP}, Sub L' (A :: L) := by
  induction h with
  | nil => exact .nil
  | refl =>
    rename_i L
    intro A
    induction L generalizing A with
    | nil => exact .nil
    | cons B L ih => exact .cons (At.there At.here) ih
  | cons hat _ ih => intro A; exact .cons (At.there hat) ih
theorem Sub.cons_drop {A : HP} {L : List HP} : Sub L (A :: L) := Sub.under .refl

theorem Sep.sub {w : World} {L' L : List HP} (h : Sub L' L) : ∀ {F : Nat → Prop}, Sep L F w → Sep L' F w := by
  induction h with
  | nil => exact fun _ => trivial
  | refl => exact fun h => h
  | cons hat _ ih =>
    intro F h
    obtain ⟨F1, F2, h1, h2, h3, h4, h5⟩ := h.pull hat
    exact ⟨F1, F2, h1, h2, h3, h4, ih h5⟩

def dead : Obj := .coro none
def live (g : World) (b : Nat) : Prop := ∃ o : Obj, g.heap[b]? = some o ∧ o ≠ dead
def Frz (g w : World) : Prop := ∀ (b : Nat) (o : Obj), g.heap[b]? = some o → o ≠ dead → w.heap[b]? = some o
theorem Frz.refl (w : World) : Frz w w := fun _ _ h _ => h
theorem Frz.trans {a b c : World} (h : Frz a b) (k : Frz b c) : Frz a c := fun i o hi ho => k i o (h i o hi ho) ho
theorem Frz.live {a b : World} (h : Frz a b) {i : Nat} (hi : live a i) : Proofs.YtkcjkbnbblpomaaGreatDoor.live b i := let ⟨o, h1, h2⟩ := hi; ⟨o, h i o h1 h2, h2⟩
theorem live.lt {w : World} {b : Nat} (h : live w b) : b < w.heap.size := by
  obtain ⟨o, h, _⟩ := h
  rcases Nat.lt_or_ge b w.heap.size with h' | h'
  · exact h'
  · rw [Array.getElem?_eq_none h'] at h; cases h
theorem Frz.cell {g w : World} (h : Frz g w) {a : Addr} {u : Value} (hc : g.cell? a = some u) : w.cell? a = some u := by
  unfold World.cell? at hc ⊢
  cases hb : g.heap[a.block]? with
  | none => rw [hb] at hc; cases hc
  | some o =>
    rw [hb] at hc
    cases o <;> try (simp at hc; done)
    rw [h a.block _ hb (by intro h; cases h)]
    exact hc
theorem Frz.below {g w w' : World} (h : Frz g w) (hb : Below w.heap.size w w') : Frz g w' := fun b o h1 h2 => by
  have h3 := h b o h1 h2
  rw [hb.block b (live.lt ⟨o, h3, h2⟩)]
  exact h3
theorem Frz.of_below {w w' : World} (hb : Below w.heap.size w w') : Frz w w' := (Frz.refl w).below hb
def Ext (g g' w : World) : Prop := Frz g g' ∧ ∀ b, live g' b → live g b ∨ w.heap.size ≤ b
theorem Ext.refl (g w : World) : Ext g g w := ⟨Frz.refl g, fun _ h => .inl h⟩
structure Bs where
  g : World
  w : World
instance : Coe World Bs := ⟨fun w => ⟨w, w⟩⟩

structure St (B : Bs) (L : List HP) (w : World) : Prop where
  below : Below B.w.heap.size B.w w
  frz : Frz B.g w
  own : ∃ F : Nat → Prop, (∀ b, F b → (B.w.heap.size ≤ b ∧ ¬ live B.g b) ∧ b < w.heap.size) ∧ Sep L F w

theorem St.refl (w : World) : St w [] w := ⟨Below.refl _ _, Frz.refl _, fun _ => False, fun _ h => h.elim, trivial⟩
theorem St.sub {B : Bs} {w : World} {L L' : List HP} (h : St B L w) (hs : Sub L' L) : St B L' w :=
  let ⟨F, hF, h'⟩ := h.own
  ⟨h.below, h.frz, F, hF, h'.sub hs⟩

theorem St.drew {B : Bs} {w : World} {L : List HP} (h : St B L w) : St B L w.drew :=
  let ⟨F, hF, h'⟩ := h.own
  ⟨h.below.drew, fun b o h1 h2 => h.frz b o h1 h2, F, hF, h'.stable (fun _ _ => rfl)⟩

def HP.rd (A : HP) (w : World) : Prop := ∃ F, A.holds F w

theorem St.rd {B : Bs} {w : World} {L L' : List HP} (h : St B L w) {A : HP} (hat : At A L L') : A.rd w :=
  let ⟨_, _, h'⟩ := h.own
  let ⟨F1, _, _, _, _, h4, _⟩ := h'.pull hat
  ⟨F1, h4⟩

theorem St.callG {B : Bs} {g w w' : World} {L L1 : List HP} (h : St B L w) (hx : Ext B.g g w) (h1 : St ⟨g, w⟩ L1 w') : St ⟨g, B.w⟩ (L1 ++ L) w' := by
  obtain ⟨F, hF, hS⟩ := h.own
  obtain ⟨G, hG, hT⟩ := h1.own
  refine ⟨h.below.trans (h1.below.mono h.below.size), h1.frz, fun b => G b ∨ F b, ?_, ?_⟩
  · intro b hb
    rcases hb with hb | hb
    · exact ⟨⟨Nat.le_trans h.below.size (hG b hb).1.1, (hG b hb).1.2⟩, (hG b hb).2⟩
    · refine ⟨⟨(hF b hb).1.1, fun hl => ?_⟩, Nat.lt_of_lt_of_le (hF b hb).2 h1.below.size⟩
      rcases hx.2 b hl with hl | hl
      · exact (hF b hb).1.2 hl
      · have := (hF b hb).2; omega
  · exact hT.append (hS.stable (fun b hb => h1.below.block b (hF b hb).2)) (fun b a c => by have h1 : w.heap.size ≤ b := (hG b a).1.1; have h2 := (hF b c).2; omega)

theorem St.call {B : Bs} {w w' : World} {L L1 : List HP} (h : St B L w) (h1 : St w L1 w') : St B (L1 ++ L) w' := by
  refine h.callG (g := B.g) (Ext.refl _ _) ⟨h1.below, h.frz.below h1.below, ?_⟩
  obtain ⟨G, hG, hT⟩ := h1.own
  exact ⟨G, fun b hb => ⟨⟨(hG b hb).1.1, fun hl => (hG b hb).1.2 (h.frz.live hl)⟩, (hG b hb).2⟩, hT⟩

theorem St.change {B : Bs} {w w' : World} {L L' : List HP} {A : HP} {As : List HP} (h : St B L w) (hat : At A L L')
    (hw : ∀ F, A.holds F w → w'.os = w.os ∧ w'.tape = w.tape ∧ w'.output = w.output ∧ w.heap.size ≤ w'.heap.size ∧ (∀ b, b < w.heap.size → ¬ F b → w'.heap[b]? = w.heap[b]?) ∧
      ∃ G : Nat → Prop, (∀ b, G b → (F b ∨ w.heap.size ≤ b) ∧ b < w'.heap.size) ∧ Sep As G w') : St B (As ++ L') w' := by
  obtain ⟨F, hF, hS⟩ := h.own
  obtain ⟨F1, F2, h1, h2, h3, h4, h5⟩ := hS.pull hat
  obtain ⟨ho, ht, hou, hsz, hbl, G, hG, hT⟩ := hw F1 h4
  have hB : Below B.w.heap.size w w' := ⟨ho, ht, hou, hsz, fun k hk => hbl k (Nat.lt_of_lt_of_le hk h.below.size) (fun hf => by have := (hF k (h1 k hf)).1.1; omega)⟩
  refine ⟨h.below.trans hB, fun b o hb ho => ?_, fun b => G b ∨ F2 b, ?_, ?_⟩
  · have h6 := h.frz b o hb ho
    rw [hbl b (live.lt ⟨o, h6, ho⟩) (fun hf => (hF b (h1 b hf)).1.2 ⟨o, hb, ho⟩)]
    exact h6
  · intro b hb
    rcases hb with hb | hb
    · obtain ⟨hg, hl⟩ := hG b hb
      refine ⟨?_, hl⟩
      rcases hg with hg | hg
      · exact (hF b (h1 b hg)).1
      · refine ⟨by have := h.below.size; omega, fun hl => ?_⟩
        have := (h.frz.live hl).lt
        omega
    · exact ⟨(hF b (h2 b hb)).1, Nat.lt_of_lt_of_le (hF b (h2 b hb)).2 hsz⟩
  · refine hT.append (h5.stable (fun b hb => hbl b (hF b (h2 b hb)).2 (fun hf => h3 b hf hb))) (fun b a c => ?_)
    rcases (hG b a).1 with hg | hg
    · exact h3 b hg c
    · have := (hF b (h2 b c)).2; omega

theorem St.new {B : Bs} {w w' : World} {L As : List HP} (h : St B L w) (hb : Below w.heap.size w w') (hA : ∃ G : Nat → Prop, (∀ b, G b → w.heap.size ≤ b ∧ b < w'.heap.size) ∧ Sep As G w') : St B (As ++ L) w' :=
  h.call ⟨hb, Frz.of_below hb, let ⟨G, h1, h2⟩ := hA; ⟨G, fun b hb => ⟨⟨(h1 b hb).1, fun hl => by have := hl.lt; have := (h1 b hb).1; simp only at *; omega⟩, (h1 b hb).2⟩, h2⟩⟩

open Classical in
noncomputable def over (g w : World) (F : Nat → Prop) : World := { w with heap := ((List.range w.heap.size).map (fun i => if F i then (w.heap[i]?).getD dead else (g.heap[i]?).getD dead)).toArray }

theorem over_in {g w : World} {F : Nat → Prop} {b : Nat} (hb : b < w.heap.size) (hF : F b) : (over g w F).heap[b]? = w.heap[b]? := by
  simp [over, hb, hF]
theorem over_out {g w : World} {F : Nat → Prop} {b : Nat} (hb : b < w.heap.size) (hF : ¬ F b) : (over g w F).heap[b]? = some ((g.heap[b]?).getD dead) := by
  simp [over, hb, hF]
theorem over_size (g w : World) (F : Nat → Prop) : (over g w F).heap.size = w.heap.size := by simp [over]

theorem St.freeze {B : Bs} {w : World} {L L' : List HP} {A : HP} (h : St B L w) (hat : At A L L') : ∃ g, Ext B.g g B.w ∧ A.rd g ∧ St ⟨g, B.w⟩ L' w := by
  obtain ⟨F, hF, hS⟩ := h.own
  obtain ⟨F1, F2, h1, h2, h3, h4, h5⟩ := hS.pull hat
  refine ⟨over B.g w F1, ⟨fun b o hb ho => ?_, fun b hb => ?_⟩, ⟨F1, A.stable _ _ _ h4 (fun b hb => over_in (hF b (h1 b hb)).2 hb)⟩, h.below, fun b o hb ho => ?_, F2, fun b hb => ⟨⟨(hF b (h2 b hb)).1.1, fun hl => ?_⟩, (hF b (h2 b hb)).2⟩, h5⟩
  · have hlt := (h.frz.live ⟨o, hb, ho⟩).lt
    rw [over_out hlt (fun hf => (hF b (h1 b hf)).1.2 ⟨o, hb, ho⟩), hb]
    rfl
  · have hlt := hb.lt
    rw [over_size] at hlt
    by_cases hf : F1 b
    · exact .inr (hF b (h1 b hf)).1.1
    · obtain ⟨o, ho, hd⟩ := hb
      rw [over_out hlt hf] at ho
      left
      cases hg : B.g.heap[b]? with
      | none => rw [hg] at ho; simp at ho; exact absurd ho.symm hd
      | some o' => rw [hg] at ho; simp at ho; subst ho; exact ⟨o', hg, hd⟩
  · have hlt := live.lt ⟨o, hb, ho⟩
    rw [over_size] at hlt
    by_cases hf : F1 b
    · rw [over_in hlt hf] at hb; exact hb
    · rw [over_out hlt hf] at hb
      cases hg : B.g.heap[b]? with
      | none => rw [hg] at hb; simp at hb; exact absurd hb.symm ho
      | some o' => rw [hg] at hb; simp at hb; subst hb; exact h.frz b o' hg ho
  · have hlt := (hF b (h2 b hb)).2
    obtain ⟨o, ho, hd⟩ := hl
    rw [over_out hlt (fun hf => h3 b hf hb)] at ho
    cases hg : B.g.heap[b]? with
    | none => rw [hg] at ho; simp at ho; exact hd ho.symm
    | some o' => rw [hg] at ho; simp at ho; subst ho; exact (hF b (h2 b hb)).1.2 ⟨o', hg, hd⟩

theorem Sep.one {A : HP} {G : Nat → Prop} {w : World} (h : A.holds G w) : Sep [A] G w :=
  ⟨G, fun _ => False, fun _ h => h, fun _ h => h.elim, fun _ _ h => h, h, trivial⟩

def pts (b : Nat) (vs : List Value) (T : TypeId) : HP where
  holds F w := F b ∧ (∀ c, F c → c = b) ∧ w.heap[b]? = some (.cells vs.toArray T (0, 0))
  stable := fun F w w' ⟨h1, h2, h3⟩ h => ⟨h1, h2, by rw [h b h1]; exact h3⟩
  dom := fun F w c ⟨h1, h2, h3⟩ hc => by
    rw [h2 c hc]
    rcases Nat.lt_or_ge b w.heap.size with h' | h'
    · exact h'
    · rw [Array.getElem?_eq_none h'] at h3; cases h3



theorem pts.block {b : Nat} {vs : List Value} {T : TypeId} {w : World} (h : (pts b vs T).rd w) : w.heap[b]? = some (.cells vs.toArray T (0, 0)) :=
  let ⟨_, h⟩ := h
  h.2.2
theorem St.alloc {w0 : Bs} {w : World} {L : List HP} (h : St w0 L w) (vs : List Value) (T : TypeId) : St w0 (pts w.heap.size vs T :: L) (w.alloc (.cells vs.toArray T)) := by
  refine h.new (As := [_]) ((Below.refl _ _).alloc (Nat.le_refl _) _) ⟨fun b => b = w.heap.size, fun b hb => by subst hb; simp, Sep.one ⟨rfl, fun _ h => h, ?_⟩⟩
  exact heap_alloc_new w _

theorem pts.setCell {b i : Nat} {vs : List Value} {T : TypeId} {w : World} (h : w.heap[b]? = some (.cells vs.toArray T (0, 0))) (v : Value) :
    (w.setCell ⟨b, i, none⟩ v).heap[b]? = some (.cells (vs.set i v).toArray T (0, 0)) := by
  simp [World.setCell, Array.getElem?_modify, h]

theorem St.setCell {w0 : Bs} {w : World} {L L' : List HP} {b i : Nat} {vs : List Value} {T : TypeId} (h : St w0 L w) (hat : At (pts b vs T) L L') (v : Value) :
    St w0 (pts b (vs.set i v) T :: L') (w.setCell ⟨b, i, none⟩ v) := by
  refine h.change (As := [_]) hat (fun F ⟨h1, h2, h3⟩ => ⟨rfl, rfl, rfl, by simp [World.setCell], fun c _ hc => ?_, F, fun c hc => ⟨.inl hc, ?_⟩, Sep.one ⟨h1, h2, pts.setCell h3 v⟩⟩)
  · exact Below.heap_setCell _ _ _ _ (fun e => hc (by subst e; exact h1))
  · have := (pts b vs T).dom F w c ⟨h1, h2, h3⟩ hc
    simpa [World.setCell] using this

end Go.Proofs.YtkcjkbnbblpomaaGreatDoor
namespace Go.Proofs.YtkcjkbnbblpomaaGreatDoor
variable {df : List Deferred}
variable {rr : Option Nat}
open Go.RowKit

def gdK (ops : Array Oper) (l : List (Nat × Value)) : Option (Nat × Bool) → Option Bool
  | none => some true
  | some (j, want) => match (ops[j]?).bind (·.dst) with
    | some t => match lk l t with
      | some (.bool c) => some (c == want)
      | some (.tuple _) => some false
      | _ => none
    | none => none

theorem wanted_of {n : Nat} {a : Act} {l : List (Nat × Value)} {ops : Array Oper} {o : Oper} {b : Bool} (hk : Kn df n a l) (h : gdK ops l o.guard = some b) :
    Region.wanted o (yielded ops a.tmps) = b := by
  unfold Region.wanted
  cases hg : o.guard with
  | none => rw [hg] at h; simpa [gdK] using h
  | some p =>
    obtain ⟨j, want⟩ := p
    rw [hg] at h
    simp only [gdK] at h
    simp only [yielded]
    cases ht : (ops[j]?).bind (·.dst) with
    | none => rw [ht] at h; simp at h
    | some t =>
      rw [ht] at h
      simp only [Option.bind_some] at h ⊢
      cases hv : lk l t with
      | none => rw [hv] at h; simp at h
      | some v =>
        rw [hv] at h
        have hget := hk.get t v hv
        cases v <;> simp only [Option.some.injEq, reduceCtorEq] at h
        case bool c =>
          have : a.tmps[t]? = some (.bool c) := by
            rcases Nat.lt_or_ge t a.tmps.size with h' | h'
            · simpa [Array.getD_eq_getD_getElem?, Array.getElem?_eq_getElem h'] using hget
            · simp [Array.getD_eq_getD_getElem?, Array.getElem?_eq_none h', undef] at hget
          rw [this]
          subst h
          cases c <;> cases want <;> rfl
        case tuple c =>
          subst h
          rcases Nat.lt_or_ge t a.tmps.size with h' | h'
          · have : a.tmps[t]? = some (.tuple c) := by simpa [Array.getD_eq_getD_getElem?, Array.getElem?_eq_getElem h'] using hget
            rw [this]; cases want <;> rfl
          · rw [Array.getElem?_eq_none h']; cases want <;> rfl

def Gives (P : Program) (o : Oper) (a : Act) (w : World) (R : Value → World → Prop) : Prop :=
  match (execOp a.eval o).run P w with
  | .ok (.value v) w' => R v w'
  | .ok .skip w' => R undef w'
  | .ok (.enter f args) w' => Calls P f args w' (Ret R)
  | .ok (.round l f tmps assign body) w' => RoundIn Fence.wide 0 P l f tmps assign body w' (Ret R)
  | _ => False

theorem Gives.mono {P : Program} {o : Oper} {a : Act} {w : World} {R R' : Value → World → Prop} (h : Gives P o a w R) (hr : ∀ v w, R v w → R' v w) : Gives P o a w R' := by
  unfold Gives at *
  generalize (execOp a.eval o).run P w = r at *
  cases r with
  | halt x w' => exact h
  | ok nx w' => cases nx <;> first | exact hr _ _ h | exact Calls.mono h (fun e w hh => hh.mono hr) | exact RoundIn.mono h (fun e w hh => hh.mono hr) | exact h

theorem Gives.wp {P : Program} {o : Oper} {a : Act} {w : World} {R : Value → World → Prop} {K : Act → World → Prop} {Q : Exit → Act → World → Prop} (h : Gives P o a w R)
    (hK : ∀ v w', R v w' → K (a.put o.dst v) w') : o.wpIn (FR rr) 0 P a w K Q := by
  have hs : (o.semAt (FR rr).round a.eval).run P w = (execOp a.eval o).run P w := by
    by_cases hd : ∀ c, o.op ≠ .defer c
    · rw [Oper.semAt_eq _ _ _ hd]
    · exfalso
      simp only [Classical.not_forall, Classical.not_not] at hd
      obtain ⟨c, hc⟩ := hd
      unfold Gives execOp at h
      rw [hc] at h
      simp only [Sem.run_bind] at h
      generalize (resolve a.eval c o.type).run P w = r at h
      cases r <;> exact h
  refine ⟨fun _ _ => trivial, ?_⟩
  rw [hs]
  unfold Gives at h
  generalize (execOp a.eval o).run P w = r at *
  cases r with
  | halt x w' => exact h.elim
  | ok nx w' =>
    cases nx <;> first
      | exact hK _ _ h
      | exact h.elim
      | exact ⟨fun h => (by cases h), CallsIn.fr (Calls.mono h (fun e w'' ⟨v, he, hv⟩ => by subst he; exact hK _ _ hv))⟩
      | exact ⟨fun h => (by cases h), RoundIn.fr (RoundIn.mono h (fun e w'' ⟨v, he, hv⟩ => by subst he; exact hK _ _ hv))⟩

section
variable {P : Program} {ops : Array Oper} {Q : Exit → Act → World → Prop} {a : Act} {w w' : World} {rest : List Oper} {n : Nat} {l : List (Nat × Value)}
  {d : Nat} {dst : Option Nat} {ty : TypeId} {pos : String} {af : Array Edge} {g : Option (Nat × Bool)} {R R' : Value → World → Prop}

theorem givesv {o : Oper} {v : Value} (hrun : (execOp a.eval o).run P w = .ok (.value v) w') (h : R v w') : Gives P o a w R := by
  unfold Gives; rw [hrun]; exact h

theorem givesu {o : Oper} (hrun : (execOp a.eval o).run P w = .ok .skip w') (h : R undef w') : Gives P o a w R := by
  unfold Gives; rw [hrun]; exact h

theorem givesc {o : Oper} {f : FuncId} {args : Array Value} (hrun : (execOp a.eval o).run P w = .ok (.enter f args) w') (hc : Calls P f args w' (Ret R')) (h : ∀ v w', R' v w' → R v w') : Gives P o a w R := by
  unfold Gives; rw [hrun]; exact hc.mono (fun e w hh => hh.mono h)

theorem sg {o : Op} (hk : Kn df n a l) (h : Gives P ⟨some d, o, ty, pos, af, g⟩ a w (fun v w' => ∀ a', Kn df n a' ((d, v) :: l) → wpListIn (FR rr) 0 P ops Q rest a' w'))
    (hg : gdK ops l g = some true := by rfl) (hd : Nat.blt d n = true := by rfl) : wpListIn (FR rr) 0 P ops Q (⟨some d, o, ty, pos, af, g⟩ :: rest) a w := by
  unfold wpListIn
  rw [if_pos (wanted_of (o := ⟨some d, o, ty, pos, af, g⟩) hk hg)]
  exact h.wp (fun v w' hv => hv _ (hk.put (d := some d) hd v))

theorem su {o : Op} (hk : Kn df n a l) (h : Gives P ⟨none, o, ty, pos, af, g⟩ a w (fun _ w' => ∀ a', Kn df n a' l → wpListIn (FR rr) 0 P ops Q rest a' w'))
    (hg : gdK ops l g = some true := by rfl) : wpListIn (FR rr) 0 P ops Q (⟨none, o, ty, pos, af, g⟩ :: rest) a w := by
  unfold wpListIn
  rw [if_pos (wanted_of (o := ⟨none, o, ty, pos, af, g⟩) hk hg)]
  exact h.wp (fun v w' hv => hv _ hk)

theorem s_skip {o : Op} (hk : Kn df n a l) (h : ∀ a', Kn df n a' ((d, undef) :: l) → wpListIn (FR rr) 0 P ops Q rest a' w) (hg : gdK ops l g = some false := by rfl) (hd : Nat.blt d n = true := by rfl) :
    wpListIn (FR rr) 0 P ops Q (⟨some d, o, ty, pos, af, g⟩ :: rest) a w := by
  unfold wpListIn
  rw [if_neg (by rw [wanted_of (o := ⟨some d, o, ty, pos, af, g⟩) hk hg]; decide)]
  exact ⟨fun _ _ => trivial, h _ (hk.put (d := some d) hd undef)⟩

theorem s_end (hk : Kn df n a l) (h : ∀ a', Kn df n a' l → Q .normal a' w) : wpListIn (FR rr) 0 P ops Q [] a w := h _ hk

theorem g_move {x : Operand} {v : Value} (hk : Kn df n a l) (h : R (v) w)
    (hx : ev l x = some v := by rfl) :
    Gives P ⟨dst, .move x, ty, pos, af, g⟩ a w R :=
  givesv (v := v) (by rw [← hk.eval hx]; rfl) h

theorem g_nilc {x : Operand} {b o : Nat} (hk : Kn df n a l) (h : R (.pointer (some ⟨b, o, none⟩)) w)
    (hx : ev l x = some (.pointer (some ⟨b, o, none⟩)) := by rfl) :
    Gives P ⟨dst, .nilCheck x, ty, pos, af, g⟩ a w R :=
  givesv (v := .pointer (some ⟨b, o, none⟩)) (by simp only [execOp, hk.eval hx]; rfl) h

theorem g_assign {x : Operand} {v : Value} (hk : Kn df n a l) (h : R (v) w)
    (hx : ev l x = some v := by rfl) :
    Gives P ⟨dst, .assign x, ty, pos, af, g⟩ a w R :=
  givesv (v := v) (by rw [← hk.eval hx]; rfl) h

theorem g_pick_t {c x y : Operand} {v : Value} (hk : Kn df n a l) (h : R (v) w)
    (hc : ev l c = some (.bool true) := by rfl) (hx : ev l x = some v := by rfl) :
    Gives P ⟨dst, .pick c x y, ty, pos, af, g⟩ a w R :=
  givesv (v := v) (by simp [execOp, hk.eval hc, hk.eval hx, asBool]) h

theorem g_pick_f {c x y : Operand} {v : Value} (hk : Kn df n a l) (h : R (v) w)
    (hc : ev l c = some (.bool false) := by rfl) (hx : ev l y = some v := by rfl) :
    Gives P ⟨dst, .pick c x y, ty, pos, af, g⟩ a w R :=
  givesv (v := v) (by simp [execOp, hk.eval hc, hk.eval hx, asBool]) h

theorem g_add {x y : Operand} {t t' : TypeId} {p q : Int} (hk : Kn df n a l) (h : R (.int .i64 (p + q)) w)
    (hx : ev l x = some (.int .i64 p) := by rfl) (hy : ev l y = some (.int .i64 q) := by rfl)
    (hlo : -9223372036854775808 ≤ p + q) (hhi : p + q ≤ 9223372036854775807) :
    Gives P ⟨dst, .binOp .add t x y t', ty, pos, af, g⟩ a w R :=
  givesv (v := .int .i64 (p + q)) (by
    have e : IntKind.i64.wrap (p + q) = p + q := IntWalk.i64_in _ ⟨hlo, hhi⟩
    simp [execOp, hk.eval hx, hk.eval hy, eqGuard, binOp_add, Op.intArith, e]) h

theorem g_sub {x y : Operand} {t t' : TypeId} {p q : Int} (hk : Kn df n a l) (h : R (.int .i64 (p - q)) w)
    (hx : ev l x = some (.int .i64 p) := by rfl) (hy : ev l y = some (.int .i64 q) := by rfl)
    (hlo : -9223372036854775808 ≤ p - q) (hhi : p - q ≤ 9223372036854775807) :
    Gives P ⟨dst, .binOp .sub t x y t', ty, pos, af, g⟩ a w R :=
  givesv (v := .int .i64 (p - q)) (by
    have e : IntKind.i64.wrap (p - q) = p - q := IntWalk.i64_in _ ⟨hlo, hhi⟩
    simp [execOp, hk.eval hx, hk.eval hy, eqGuard, binOp_sub, Op.intArith, e]) h

theorem g_mul {x y : Operand} {t t' : TypeId} {p q : Int} (hk : Kn df n a l) (h : R (.int .i64 (p * q)) w)
    (hx : ev l x = some (.int .i64 p) := by rfl) (hy : ev l y = some (.int .i64 q) := by rfl)
    (hlo : -9223372036854775808 ≤ p * q) (hhi : p * q ≤ 9223372036854775807) :
    Gives P ⟨dst, .binOp .mul t x y t', ty, pos, af, g⟩ a w R :=
  givesv (v := .int .i64 (p * q)) (by
    have e : IntKind.i64.wrap (p * q) = p * q := IntWalk.i64_in _ ⟨hlo, hhi⟩
    simp [execOp, hk.eval hx, hk.eval hy, eqGuard, binOp_mul, Op.intArith, e]) h

theorem g_lss {x y : Operand} {t t' : TypeId} {k : IntKind} {p q : Int} (hk : Kn df n a l) (h : R (.bool (decide (p < q))) w)
    (hx : ev l x = some (.int k p) := by rfl) (hy : ev l y = some (.int k q) := by rfl) :
    Gives P ⟨dst, .binOp .lss t x y t', ty, pos, af, g⟩ a w R :=
  givesv (v := .bool (decide (p < q))) (by simp [execOp, hk.eval hx, hk.eval hy, eqGuard, binOp_lss]) h

theorem g_leq {x y : Operand} {t t' : TypeId} {k : IntKind} {p q : Int} (hk : Kn df n a l) (h : R (.bool (decide (p ≤ q))) w)
    (hx : ev l x = some (.int k p) := by rfl) (hy : ev l y = some (.int k q) := by rfl) :
    Gives P ⟨dst, .binOp .leq t x y t', ty, pos, af, g⟩ a w R :=
  givesv (v := .bool (decide (p ≤ q))) (by simp [execOp, hk.eval hx, hk.eval hy, eqGuard, binOp_leq]) h

theorem g_gtr {x y : Operand} {t t' : TypeId} {k : IntKind} {p q : Int} (hk : Kn df n a l) (h : R (.bool (decide (q < p))) w)
    (hx : ev l x = some (.int k p) := by rfl) (hy : ev l y = some (.int k q) := by rfl) :
    Gives P ⟨dst, .binOp .gtr t x y t', ty, pos, af, g⟩ a w R :=
  givesv (v := .bool (decide (q < p))) (by simp [execOp, hk.eval hx, hk.eval hy, eqGuard, binOp_gtr]) h

theorem g_geq {x y : Operand} {t t' : TypeId} {k : IntKind} {p q : Int} (hk : Kn df n a l) (h : R (.bool (decide (q ≤ p))) w)
    (hx : ev l x = some (.int k p) := by rfl) (hy : ev l y = some (.int k q) := by rfl) :
    Gives P ⟨dst, .binOp .geq t x y t', ty, pos, af, g⟩ a w R :=
  givesv (v := .bool (decide (q ≤ p))) (by simp [execOp, hk.eval hx, hk.eval hy, eqGuard, binOp_geq]) h

theorem g_eqi {x y : Operand} {t t' : TypeId} {k : IntKind} {p q : Int} (hk : Kn df n a l) (h : R (.bool (decide (p = q))) w)
    (hx : ev l x = some (.int k p) := by rfl) (hy : ev l y = some (.int k q) := by rfl) :
    Gives P ⟨dst, .binOp .eql t x y t', ty, pos, af, g⟩ a w R :=
  givesv (v := .bool (decide (p = q))) (by simp [execOp, hk.eval hx, hk.eval hy, eqGuard, binOp_eql]; rfl) h

theorem g_nei {x y : Operand} {t t' : TypeId} {k : IntKind} {p q : Int} (hk : Kn df n a l) (h : R (.bool (!decide (p = q))) w)
    (hx : ev l x = some (.int k p) := by rfl) (hy : ev l y = some (.int k q) := by rfl) :
    Gives P ⟨dst, .binOp .neq t x y t', ty, pos, af, g⟩ a w R :=
  givesv (v := .bool (!decide (p = q))) (by simp [execOp, hk.eval hx, hk.eval hy, eqGuard, binOp_neq]; rfl) h

theorem g_eqb {x y : Operand} {t t' : TypeId} {p q : Bool} (hk : Kn df n a l) (h : R (.bool (p == q)) w)
    (ht : P.underlying t = some .bool)
    (hx : ev l x = some (.bool p) := by rfl) (hy : ev l y = some (.bool q) := by rfl) :
    Gives P ⟨dst, .binOp .eql t x y t', ty, pos, af, g⟩ a w R :=
  givesv (v := .bool (p == q)) (by simp [execOp, hk.eval hx, hk.eval hy, eqGuard, run_eql_bool w t p q ht]) h

theorem g_not {x : Operand} {t : TypeId} {p : Bool} (hk : Kn df n a l) (h : R (.bool (!p)) w)
    (hx : ev l x = some (.bool p) := by rfl) :
    Gives P ⟨dst, .unOp .not t x, ty, pos, af, g⟩ a w R :=
  givesv (v := .bool (!p)) (by simp [execOp, hk.eval hx, Op.unary]) h

theorem g_min {x y : Operand} {ts : Array TypeId} {p q : Int} (hk : Kn df n a l) (h : R (.int .i64 (min p q)) w)
    (hx : ev l x = some (.int .i64 p) := by rfl) (hy : ev l y = some (.int .i64 q) := by rfl) :
    Gives P ⟨dst, .call { callee := .builtin .min, args := #[x, y], argTypes := ts }, ty, pos, af, g⟩ a w R :=
  givesv (v := .int .i64 (min p q)) (by
    simp [execOp, resolve, invoke, builtin, hk.eval hx, hk.eval hy, run_min_int2]
    omega) h

theorem g_max {x y : Operand} {ts : Array TypeId} {p q : Int} (hk : Kn df n a l) (h : R (.int .i64 (max p q)) w)
    (hx : ev l x = some (.int .i64 p) := by rfl) (hy : ev l y = some (.int .i64 q) := by rfl) :
    Gives P ⟨dst, .call { callee := .builtin .max, args := #[x, y], argTypes := ts }, ty, pos, af, g⟩ a w R :=
  givesv (v := .int .i64 (max p q)) (by
    simp [execOp, resolve, invoke, builtin, hk.eval hx, hk.eval hy, run_max_int2]
    omega) h

theorem g_extract {x : Operand} {i : Nat} {vs : Array Value} {v : Value} (hk : Kn df n a l) (h : R (v) w)
    (hx : ev l x = some (.tuple vs) := by rfl) (hv : vs[i]? = some v := by rfl) :
    Gives P ⟨dst, .extract x i, ty, pos, af, g⟩ a w R :=
  givesv (v := v) (by simp [execOp, hk.eval hx, Instr.extract, hv]) h

theorem g_ex0 {x : Operand} {v v' : Value} (hk : Kn df n a l) (h : R v w) (hx : ev l x = some (.tuple #[v, v']) := by rfl) : Gives P ⟨dst, .extract x 0, ty, pos, af, g⟩ a w R :=
  g_extract hk h hx rfl
theorem g_ex1 {x : Operand} {v v' : Value} (hk : Kn df n a l) (h : R v' w) (hx : ev l x = some (.tuple #[v, v']) := by rfl) : Gives P ⟨dst, .extract x 1, ty, pos, af, g⟩ a w R :=
  g_extract hk h hx rfl

end
end Go.Proofs.YtkcjkbnbblpomaaGreatDoor
