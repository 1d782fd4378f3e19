/- The frame of a call as a list of known slots, and the rules by which its code is stepped through: no program in sight. What a call owns in memory: a list of resources, each in blocks of its own; all that was there before is as it was. One operation at a time: what each operation does to the known slots and to the world. Memory and calls: reading and writing what is known, new blocks, calls by contract, the end of a body. -/
import Derived.WalkKit
import Derived.WalkLawsBesides
import Derived.KernelRfl
import Derived.TacticsIn
import Derived.OrdersIn
import Derived.RangeFuncRecord
import Derived.Below
set_option linter.all false
namespace Go.Proofs.YtnjmonkehjlaoaaGreatDoor
variable {df : List Deferred}
open Go.RowKit
def FR (r : Option Nat) : Fence := { Fence.wide with round := r }
theorem CallsIn.fr {r : Option Nat} {n : Nat} {P : Program} {f : FuncId} {args : Array Value} {w : World} {R : Ending → World → Prop} (h : Calls P f args w R) : CallsIn (FR r) n P f args w R :=
 (callsIn_wide (n := n)).2 h
theorem RoundIn.fr {r : Option Nat} {n : Nat} {P : Program} {l : Nat} {f : FuncId} {tmps : Array Value} {assign body : Code} {w : World} {R : Ending → World → Prop} (h : RoundIn Fence.wide n P l f tmps assign body w R) :
  RoundIn (FR r) n P l f tmps assign body w R := h
def lk : List (Nat × Value) → Nat → Option Value
 | [], _ => none
 | (d, v) :: l, x => bif Nat.beq d x then some v else lk l x
theorem lk_cons_same (d : Nat) (v : Value) (l : List (Nat × Value)) : lk ((d, v) :: l) d = some v := by
 simp [lk]
theorem lk_cons_ne {d x : Nat} (v : Value) (l : List (Nat × Value)) (h : d ≠ x) : lk ((d, v) :: l) x = lk l x := by
 have : Nat.beq d x = false := by
  cases hb : Nat.beq d x with
  | false => rfl
  | true => exact absurd (Nat.eq_of_beq_eq_true hb) h
 simp [lk, this]
structure Kn (df : List Deferred) (n : Nat) (a : Act) (l : List (Nat × Value)) : Prop where
 size : a.tmps.size = n
 get : ∀ x v, lk l x = some v → a.tmps.getD x undef = v
 defers : a.defers = df
def ev (l : List (Nat × Value)) : Operand → Option Value
 | .tmp t => lk l t
 | .const v => some v
 | .global g => some (.pointer (some ⟨g, 0, none⟩))
 | .func f => some (.func (.func f) #[] #[])
theorem Kn.eval {n : Nat} {a : Act} {l : List (Nat × Value)} (hk : Kn df n a l) {x : Operand} {v : Value} (h : ev l x = some v) : a.eval x = v := by
 cases x with
 | tmp t => exact hk.get t v h
 | const u => simpa [ev, Act.eval] using h
 | global g => simpa [ev, Act.eval] using h
 | func f => simpa [ev, Act.eval] using h
def putK (d : Option Nat) (v : Value) (l : List (Nat × Value)) : List (Nat × Value) :=
 match d with
 | some d => (d, v) :: l
 | none => l
def okDst (n : Nat) : Option Nat → Bool
 | some d => Nat.blt d n
 | none => true
theorem Kn.put {n : Nat} {a : Act} {l : List (Nat × Value)} (hk : Kn df n a l) {d : Option Nat} (hd : okDst n d = true) (v : Value) : Kn df n (a.put d v) (putK d v l) := by
 cases d with
 | none => exact hk
 | some d =>
  have hd' : d < n := by
   have : d + 1 ≤ n := by simpa [okDst, Nat.blt, Nat.ble_eq] using hd
   omega
  refine ⟨?_, ?_, hk.defers⟩
  ·simp [Act.put, hk.size]
  ·intro x u hu
   by_cases hx : d = x
   ·subst hx
    rw [show putK (some d) v l = (d, v) :: l from rfl, lk_cons_same] at hu
    injection hu with hu
    subst hu
    simp [Act.put, Array.getD_eq_getD_getElem?, hk.size, hd']
   ·rw [show putK (some d) v l = (d, v) :: l from rfl, lk_cons_ne v l hx] at hu
    have := hk.get x u hu
    simpa [Act.put, Array.getD_eq_getD_getElem?, Array.getElem?_setIfInBounds_ne hx] using this
def subK (l : List (Nat × Value)) : List (Nat × Value) → Prop
 | [] => True
 | (x, v) :: l' => lk l x = some v ∧ subK l l'
theorem subK.lk {l : List (Nat × Value)} : ∀ {l' : List (Nat × Value)}, subK l l' → ∀ x v, lk l' x = some v → lk l x = some v
 | [], _, _, _, h => by simp [Proofs.YtnjmonkehjlaoaaGreatDoor.lk] at h
 | (y, u) :: l', hs, x, v, h => by
  by_cases hx : y = x
  ·subst hx
   rw [lk_cons_same] at h
   injection h with h
   subst h
   exact hs.1
  ·rw [lk_cons_ne u l' hx] at h
   exact subK.lk hs.2 x v h
theorem Kn.sub {n : Nat} {a : Act} {l l' : List (Nat × Value)} (hk : Kn df n a l) (h : subK l l') : Kn df n a l' :=
 ⟨hk.size, fun x v hx => hk.get x v (h.lk x v hx), hk.defers⟩
def initK : Nat → List Value → List (Nat × Value)
 | _, [] => []
 | i, v :: l => (i, v) :: initK (i + 1) l
theorem lk_initK : ∀ (l : List Value) (i x : Nat) (v : Value), lk (initK i l) x = some v → i ≤ x ∧ l[x - i]? = some v
 | [], _, _, _, h => by simp [initK, lk] at h
 | u :: l, i, x, v, h => by
  by_cases hx : i = x
  ·subst hx
   rw [initK, lk_cons_same] at h
   injection h with h
   subst h
   simp
  ·rw [initK, lk_cons_ne u _ hx] at h
   obtain ⟨h1, h2⟩ := lk_initK l (i + 1) x v h
   refine ⟨by omega, ?_⟩
   rw [show x - i = (x - (i + 1)) + 1 from by omega]
   simpa using h2
theorem Kn.init {n : Nat} {args : List Value} (hn : args.length ≤ n) : Kn [] n { tmps := args.toArray ++ Array.replicate (n - args.toArray.size) undef, defers := [] } (initK 0 args) := by
 refine ⟨by simp;omega, ?_, rfl⟩
 intro x v h
 obtain ⟨_, h2⟩ := lk_initK args 0 x v h
 have h3 : args[x]? = some v := by simpa using h2
 have hx : x < args.length := by
  rcases Nat.lt_or_ge x args.length with h' | h'
  ·exact h'
  ·rw [List.getElem?_eq_none h'] at h3;cases h3
 have h4 : args[x] = v := by rw [List.getElem?_eq_getElem hx] at h3;injection h3
 simp [Array.getD_eq_getD_getElem?, Array.getElem?_append, hx, h4]
def Ret (R : Value → World → Prop) (e : Ending) (w : World) : Prop := ∃ v, e = .returned v ∧ R v w
theorem Ret.mono {R R' : Value → World → Prop} {e : Ending} {w : World} (h : Ret R e w) (hr : ∀ v w, R v w → R' v w) : Ret R' e w :=
 let ⟨v, he, hv⟩ := h
 ⟨v, he, hr v w hv⟩
def Done (P : Program) (fn : Func) (R : Value → World → Prop) : Exit → Act → World → Prop := bodyPost P fn (Ret R)
theorem enter {P : Program} {f : FuncId} {fn : Func} {c : Code} {args : List Value} {w : World} {R : Value → World → Prop}
  {n : Nat} (hf : P.funcs[f]? = some fn) (hb : fn.body = some c) (hnt : fn.ntmps = n) (hn : Nat.ble args.length n = true)
  (h : ∀ a, Kn [] n a (initK 0 args) → c.wpIn (FR none) 0 P (Done P fn R) a w) : Calls P f args.toArray w (Ret R) := by
 subst hnt
 exact callsIn_wide.1 (callsIn_of_wp (F := Fence.wide) (n := 0) hf hb trivial (h _ (Kn.init (Nat.le_of_ble_eq_true hn))) rfl)
def resK (l : List (Nat × Value)) : List ResultVar → Option (List Value)
 | [] => some []
 | .tmp t :: r => match lk l t, resK l r with | some v, some vs => some (v :: vs) | _, _ => none
 | .cell .. :: _ => none
def packV : List Value → Value
 | [v] => v
 | vs => .tuple vs.toArray
end Go.Proofs.YtnjmonkehjlaoaaGreatDoor
namespace Go.Proofs.YtnjmonkehjlaoaaGreatDoor
open Go.RowKit
structure HP where
 holds : (Nat → Prop) → World → Prop
 stable : ∀ F w w', holds F w → (∀ b, F b → w'.heap[b]? = w.heap[b]?) → holds F w'
 dom : ∀ F w b, holds F w → F b → b < w.heap.size
def Sep : List HP → (Nat → Prop) → World → Prop
 | [], _, _ => True
 | A :: L, F, w => ∃ F1 F2 : Nat → Prop, (∀ b, F1 b → F b) ∧ (∀ b, F2 b → F b) ∧ (∀ b, F1 b → F2 b → False) ∧ A.holds F1 w ∧ Sep L F2 w
theorem Sep.mono {w : World} : ∀ {L : List HP} {F F' : Nat → Prop}, Sep L F w → (∀ b, F b → F' b) → Sep L F' w
 | [], _, _, _, _ => trivial
 | _ :: _, _, _, ⟨F1, F2, h1, h2, h3, h4, h5⟩, hF => ⟨F1, F2, fun b h => hF b (h1 b h), fun b h => hF b (h2 b h), h3, h4, h5⟩
theorem Sep.stable {w w' : World} : ∀ {L : List HP} {F : Nat → Prop}, Sep L F w → (∀ b, F b → w'.heap[b]? = w.heap[b]?) → Sep L F w'
 | [], _, _, _ => trivial
 | A :: _, _, ⟨F1, F2, h1, h2, h3, h4, h5⟩, hF => ⟨F1, F2, h1, h2, h3, A.stable _ _ _ h4 (fun b h => hF b (h1 b h)), Sep.stable h5 (fun b h => hF b (h2 b h))⟩
theorem Sep.append {w : World} : ∀ {L L' : List HP} {F F' : Nat → Prop}, Sep L F w → Sep L' F' w → (∀ b, F b → F' b → False) → Sep (L ++ L') (fun b => F b ∨ F' b) w
 | [], _, _, _, _, h', _ => h'.mono (fun _ h => Or.inr h)
 | _ :: _, L', _, F', ⟨F1, F2, h1, h2, h3, h4, h5⟩, h', hd =>
  ⟨F1, fun b => F2 b ∨ F' b, fun b h => .inl (h1 b h), fun b h => h.elim (fun h => .inl (h2 b h)) .inr,
   fun b a c => c.elim (h3 b a) (hd b (h1 b a)), h4, Sep.append h5 h' (fun b a c => hd b (h2 b a) c)⟩
theorem atx {p : Prop} (h : p := by (repeat (first | exact At.here | apply At.there))) : p := h
theorem sbx {p : Prop} (h : p := by (repeat (first | exact Sub.refl | apply Sub.under))) : p := h
theorem skx {p : Prop} (h : p := by (repeat (first | exact trivial | refine ⟨rfl, ?_⟩))) : p := h
theorem vwx {p : Prop} (h : p := by repeat (first | exact VW.nil | apply VW.val rfl | apply VW.base rfl rfl | apply VW.res rfl | apply VW.upd rfl | apply VW.cpy rfl | apply VW.dep rfl | apply VW.fn rfl | apply VW.lnd rfl | apply VW.tak rfl)) : p := h
inductive At : HP → List HP → List HP → Prop
 | here {A : HP} {L : List HP} : At A (A :: L) L
 | there {A B : HP} {L L' : List HP} : At A L L' → At A (B :: L) (B :: L')
theorem Sep.pull {w : World} {A : HP} {L L' : List HP} (h : At A L L') : ∀ {F : Nat → Prop}, Sep L F w → Sep (A :: L') F w := by
 induction h with
 | here => exact fun h => h
 | there h ih =>
  intro F ⟨F1, F2, h1, h2, h3, h4, h5⟩
  obtain ⟨G1, G2, g1, g2, g3, g4, g5⟩ := ih h5
  exact ⟨G1, fun b => F1 b ∨ G2 b, fun b h => h2 b (g1 b h), fun b h => h.elim (h1 b) (fun h => h2 b (g2 b h)),
   fun b a c => c.elim (fun c => h3 b c (g1 b a)) (g3 b a), g4,
   F1, G2, fun b h => .inl h, fun b h => .inr h, fun b a c => h3 b a (g2 b c), h4, g5⟩
inductive Sub : List HP → List HP → Prop
 | nil {L : List HP} : Sub [] L
 | refl {L : List HP} : Sub L L
 | cons {A : HP} {L L1 L' : List HP} : At A L L1 → Sub L' L1 → Sub (A :: L') L
theorem Sub.under {L' L : List HP} (h : Sub L' L) : ∀ {A : HP}, Sub L' (A :: L) := by
 induction h with
 | nil => exact .nil
 | refl =>
  rename_i L
  intro A
  induction L generalizing A with
  | nil => exact .nil
  | cons B L ih => exact .cons (At.there At.here) ih
 | cons hat _ ih => intro A;exact .cons (At.there hat) ih
theorem Sub.cons_drop {A : HP} {L : List HP} : Sub L (A :: L) := Sub.under .refl
theorem Sep.sub {w : World} {L' L : List HP} (h : Sub L' L) : ∀ {F : Nat → Prop}, Sep L F w → Sep L' F w := by
 induction h with
 | nil => exact fun _ => trivial
 | refl => exact fun h => h
 | cons hat _ ih =>
  intro F h
  obtain ⟨F1, F2, h1, h2, h3, h4, h5⟩ := h.pull hat
  exact ⟨F1, F2, h1, h2, h3, h4, ih h5⟩
def dead : Obj := .coro none
def live (g : World) (b : Nat) : Prop := ∃ o : Obj, g.heap[b]? = some o ∧ o ≠ dead
def Frz (g w : World) : Prop := ∀ (b : Nat) (o : Obj), g.heap[b]? = some o → o ≠ dead → w.heap[b]? = some o
theorem Frz.refl (w : World) : Frz w w := fun _ _ h _ => h
theorem Frz.live {a b : World} (h : Frz a b) {i : Nat} (hi : live a i) : Proofs.YtnjmonkehjlaoaaGreatDoor.live b i := let ⟨o, h1, h2⟩ := hi; ⟨o, h i o h1 h2, h2⟩
theorem live.lt {w : World} {b : Nat} (h : live w b) : b < w.heap.size := by
 obtain ⟨o, h, _⟩ := h
 rcases Nat.lt_or_ge b w.heap.size with h' | h'
 ·exact h'
 ·rw [Array.getElem?_eq_none h'] at h;cases h
theorem Frz.cell {g w : World} (h : Frz g w) {a : Addr} {u : Value} (hc : g.cell? a = some u) : w.cell? a = some u := by
 unfold World.cell? at hc ⊢
 cases hb : g.heap[a.block]? with
 | none => rw [hb] at hc;cases hc
 | some o =>
  rw [hb] at hc
  cases o <;> try (simp at hc;done)
  rw [h a.block _ hb (by intro h;cases h)]
  exact hc
theorem Frz.below {g w w' : World} (h : Frz g w) (hb : Below w.heap.size w w') : Frz g w' := fun b o h1 h2 => by
 have h3 := h b o h1 h2
 rw [hb.block b (live.lt ⟨o, h3, h2⟩)]
 exact h3
theorem Frz.of_below {w w' : World} (hb : Below w.heap.size w w') : Frz w w' := (Frz.refl w).below hb
def Ext (g g' w : World) : Prop := Frz g g' ∧ ∀ b, live g' b → live g b ∨ w.heap.size ≤ b
theorem Ext.refl (g w : World) : Ext g g w := ⟨Frz.refl g, fun _ h => .inl h⟩
structure Bs where
 g : World
 w : World
instance : Coe World Bs := ⟨fun w => ⟨w, w⟩⟩
structure St (B : Bs) (L : List HP) (w : World) : Prop where
 below : Below B.w.heap.size B.w w
 frz : Frz B.g w
 own : ∃ F : Nat → Prop, (∀ b, F b → (B.w.heap.size ≤ b ∧ ¬ live B.g b) ∧ b < w.heap.size) ∧ Sep L F w
theorem St.refl (w : World) : St w [] w := ⟨Below.refl _ _, Frz.refl _, fun _ => False, fun _ h => h.elim, trivial⟩
theorem St.sub {B : Bs} {w : World} {L L' : List HP} (h : St B L w) (hs : Sub L' L) : St B L' w :=
 let ⟨F, hF, h'⟩ := h.own
 ⟨h.below, h.frz, F, hF, h'.sub hs⟩
theorem St.drew {B : Bs} {w : World} {L : List HP} (h : St B L w) : St B L w.drew :=
 let ⟨F, hF, h'⟩ := h.own
 ⟨h.below.drew, fun b o h1 h2 => h.frz b o h1 h2, F, hF, h'.stable (fun _ _ => rfl)⟩
def HP.rd (A : HP) (w : World) : Prop := ∃ F, A.holds F w
theorem HP.rd.mono {A : HP} {w w' : World} (h : A.rd w) (hb : Below w.heap.size w w') : A.rd w' :=
 let ⟨F, hF⟩ := h
 ⟨F, A.stable _ _ _ hF (fun b hb' => hb.block b (A.dom _ _ _ hF hb'))⟩
theorem St.rd {B : Bs} {w : World} {L L' : List HP} (h : St B L w) {A : HP} (hat : At A L L') : A.rd w :=
 let ⟨_, _, h'⟩ := h.own
 let ⟨F1, _, _, _, _, h4, _⟩ := h'.pull hat
 ⟨F1, h4⟩
theorem St.callG {B : Bs} {g w w' : World} {L L1 : List HP} (h : St B L w) (hx : Ext B.g g w) (h1 : St ⟨g, w⟩ L1 w') : St ⟨g, B.w⟩ (L1 ++ L) w' := by
 obtain ⟨F, hF, hS⟩ := h.own
 obtain ⟨G, hG, hT⟩ := h1.own
 refine ⟨h.below.trans (h1.below.mono h.below.size), h1.frz, fun b => G b ∨ F b, ?_, ?_⟩
 ·intro b hb
  rcases hb with hb | hb
  ·exact ⟨⟨Nat.le_trans h.below.size (hG b hb).1.1, (hG b hb).1.2⟩, (hG b hb).2⟩
  ·refine ⟨⟨(hF b hb).1.1, fun hl => ?_⟩, Nat.lt_of_lt_of_le (hF b hb).2 h1.below.size⟩
   rcases hx.2 b hl with hl | hl
   ·exact (hF b hb).1.2 hl
   ·have := (hF b hb).2;omega
 ·exact hT.append (hS.stable (fun b hb => h1.below.block b (hF b hb).2)) (fun b a c => by have h1 : w.heap.size ≤ b := (hG b a).1.1;have h2 := (hF b c).2;omega)
theorem St.call {B : Bs} {w w' : World} {L L1 : List HP} (h : St B L w) (h1 : St w L1 w') : St B (L1 ++ L) w' := by
 refine h.callG (g := B.g) (Ext.refl _ _) ⟨h1.below, h.frz.below h1.below, ?_⟩
 obtain ⟨G, hG, hT⟩ := h1.own
 exact ⟨G, fun b hb => ⟨⟨(hG b hb).1.1, fun hl => (hG b hb).1.2 (h.frz.live hl)⟩, (hG b hb).2⟩, hT⟩
theorem St.change {B : Bs} {w w' : World} {L L' : List HP} {A : HP} {As : List HP} (h : St B L w) (hat : At A L L')
  (hw : ∀ F, A.holds F w → w'.os = w.os ∧ w'.tape = w.tape ∧ w'.output = w.output ∧ w.heap.size ≤ w'.heap.size ∧ (∀ b, b < w.heap.size → ¬ F b → w'.heap[b]? = w.heap[b]?) ∧
   ∃ G : Nat → Prop, (∀ b, G b → (F b ∨ w.heap.size ≤ b) ∧ b < w'.heap.size) ∧ Sep As G w') : St B (As ++ L') w' := by
 obtain ⟨F, hF, hS⟩ := h.own
 obtain ⟨F1, F2, h1, h2, h3, h4, h5⟩ := hS.pull hat
 obtain ⟨ho, ht, hou, hsz, hbl, G, hG, hT⟩ := hw F1 h4
 have hB : Below B.w.heap.size w w' := ⟨ho, ht, hou, hsz, fun k hk => hbl k (Nat.lt_of_lt_of_le hk h.below.size) (fun hf => by have := (hF k (h1 k hf)).1.1;omega)⟩
 refine ⟨h.below.trans hB, fun b o hb ho => ?_, fun b => G b ∨ F2 b, ?_, ?_⟩
 ·have h6 := h.frz b o hb ho
  rw [hbl b (live.lt ⟨o, h6, ho⟩) (fun hf => (hF b (h1 b hf)).1.2 ⟨o, hb, ho⟩)]
  exact h6
 ·intro b hb
  rcases hb with hb | hb
  ·obtain ⟨hg, hl⟩ := hG b hb
   refine ⟨?_, hl⟩
   rcases hg with hg | hg
   ·exact (hF b (h1 b hg)).1
   ·refine ⟨by have := h.below.size;omega, fun hl => ?_⟩
    have := (h.frz.live hl).lt
    omega
  ·exact ⟨(hF b (h2 b hb)).1, Nat.lt_of_lt_of_le (hF b (h2 b hb)).2 hsz⟩
 ·refine hT.append (h5.stable (fun b hb => hbl b (hF b (h2 b hb)).2 (fun hf => h3 b hf hb))) (fun b a c => ?_)
  rcases (hG b a).1 with hg | hg
  ·exact h3 b hg c
  ·have := (hF b (h2 b c)).2;omega
theorem St.new {B : Bs} {w w' : World} {L As : List HP} (h : St B L w) (hb : Below w.heap.size w w') (hA : ∃ G : Nat → Prop, (∀ b, G b → w.heap.size ≤ b ∧ b < w'.heap.size) ∧ Sep As G w') : St B (As ++ L) w' :=
 h.call ⟨hb, Frz.of_below hb, let ⟨G, h1, h2⟩ := hA;⟨G, fun b hb => ⟨⟨(h1 b hb).1, fun hl => by have := hl.lt;have := (h1 b hb).1;simp only at *;omega⟩, (h1 b hb).2⟩, h2⟩⟩
open Classical in
noncomputable def over (g w : World) (F : Nat → Prop) : World := { w with heap := ((List.range w.heap.size).map (fun i => if F i then (w.heap[i]?).getD dead else (g.heap[i]?).getD dead)).toArray }
theorem over_in {g w : World} {F : Nat → Prop} {b : Nat} (hb : b < w.heap.size) (hF : F b) : (over g w F).heap[b]? = w.heap[b]? := by
 simp [over, hb, hF]
theorem over_out {g w : World} {F : Nat → Prop} {b : Nat} (hb : b < w.heap.size) (hF : ¬ F b) : (over g w F).heap[b]? = some ((g.heap[b]?).getD dead) := by
 simp [over, hb, hF]
theorem over_size (g w : World) (F : Nat → Prop) : (over g w F).heap.size = w.heap.size := by simp [over]
theorem St.freeze {B : Bs} {w : World} {L L' : List HP} {A : HP} (h : St B L w) (hat : At A L L') : ∃ g, Ext B.g g B.w ∧ A.rd g ∧ St ⟨g, B.w⟩ L' w := by
 obtain ⟨F, hF, hS⟩ := h.own
 obtain ⟨F1, F2, h1, h2, h3, h4, h5⟩ := hS.pull hat
 refine ⟨over B.g w F1, ⟨fun b o hb ho => ?_, fun b hb => ?_⟩, ⟨F1, A.stable _ _ _ h4 (fun b hb => over_in (hF b (h1 b hb)).2 hb)⟩, h.below, fun b o hb ho => ?_, F2, fun b hb => ⟨⟨(hF b (h2 b hb)).1.1, fun hl => ?_⟩, (hF b (h2 b hb)).2⟩, h5⟩
 ·have hlt := (h.frz.live ⟨o, hb, ho⟩).lt
  rw [over_out hlt (fun hf => (hF b (h1 b hf)).1.2 ⟨o, hb, ho⟩), hb]
  rfl
 ·have hlt := hb.lt
  rw [over_size] at hlt
  by_cases hf : F1 b
  ·exact .inr (hF b (h1 b hf)).1.1
  ·obtain ⟨o, ho, hd⟩ := hb
   rw [over_out hlt hf] at ho
   left
   cases hg : B.g.heap[b]? with
   | none => rw [hg] at ho;simp at ho;exact absurd ho.symm hd
   | some o' => rw [hg] at ho;simp at ho;subst ho;exact ⟨o', hg, hd⟩
 ·have hlt := live.lt ⟨o, hb, ho⟩
  rw [over_size] at hlt
  by_cases hf : F1 b
  ·rw [over_in hlt hf] at hb;exact hb
  ·rw [over_out hlt hf] at hb
   cases hg : B.g.heap[b]? with
   | none => rw [hg] at hb;simp at hb;exact absurd hb.symm ho
   | some o' => rw [hg] at hb;simp at hb;subst hb;exact h.frz b o' hg ho
 ·have hlt := (hF b (h2 b hb)).2
  obtain ⟨o, ho, hd⟩ := hl
  rw [over_out hlt (fun hf => h3 b hf hb)] at ho
  cases hg : B.g.heap[b]? with
  | none => rw [hg] at ho;simp at ho;exact hd ho.symm
  | some o' => rw [hg] at ho;simp at ho;subst ho;exact (hF b (h2 b hb)).1.2 ⟨o', hg, hd⟩
theorem Sep.one {A : HP} {G : Nat → Prop} {w : World} (h : A.holds G w) : Sep [A] G w :=
 ⟨G, fun _ => False, fun _ h => h, fun _ h => h.elim, fun _ _ h => h, h, trivial⟩
def pts (b : Nat) (vs : List Value) (T : TypeId) : HP where
 holds F w := F b ∧ (∀ c, F c → c = b) ∧ w.heap[b]? = some (.cells vs.toArray T (0, 0))
 stable := fun F w w' ⟨h1, h2, h3⟩ h => ⟨h1, h2, by rw [h b h1];exact h3⟩
 dom := fun F w c ⟨h1, h2, h3⟩ hc => by
  rw [h2 c hc]
  rcases Nat.lt_or_ge b w.heap.size with h' | h'
  ·exact h'
  ·rw [Array.getElem?_eq_none h'] at h3;cases h3
theorem pts.block {b : Nat} {vs : List Value} {T : TypeId} {w : World} (h : (pts b vs T).rd w) : w.heap[b]? = some (.cells vs.toArray T (0, 0)) :=
 let ⟨_, h⟩ := h
 h.2.2
theorem pts.frz {b : Nat} {vs : List Value} {T : TypeId} {g w : World} (h : (pts b vs T).rd g) (hf : Frz g w) : (pts b vs T).rd w :=
 ⟨fun c => c = b, rfl, fun _ h => h, hf b _ (pts.block h) (by intro h;cases h)⟩
theorem St.base {B : Bs} {w : World} {L : List HP} (h : St B L w) {b : Nat} {vs : List Value} {T : TypeId} (hA : (pts b vs T).rd B.g) : (pts b vs T).rd w := pts.frz hA h.frz
theorem St.alloc {w0 : Bs} {w : World} {L : List HP} (h : St w0 L w) (vs : List Value) (T : TypeId) : St w0 (pts w.heap.size vs T :: L) (w.alloc (.cells vs.toArray T)) := by
 refine h.new (As := [_]) ((Below.refl _ _).alloc (Nat.le_refl _) _) ⟨fun b => b = w.heap.size, fun b hb => by subst hb;simp, Sep.one ⟨rfl, fun _ h => h, ?_⟩⟩
 exact heap_alloc_new w _
theorem pts.setCell {b i : Nat} {vs : List Value} {T : TypeId} {w : World} (h : w.heap[b]? = some (.cells vs.toArray T (0, 0))) (v : Value) :
  (w.setCell ⟨b, i, none⟩ v).heap[b]? = some (.cells (vs.set i v).toArray T (0, 0)) := by
 simp [World.setCell, Array.getElem?_modify, h]
theorem St.setCell {w0 : Bs} {w : World} {L L' : List HP} {b i : Nat} {vs : List Value} {T : TypeId} (h : St w0 L w) (hat : At (pts b vs T) L L') (v : Value) :
  St w0 (pts b (vs.set i v) T :: L') (w.setCell ⟨b, i, none⟩ v) := by
 refine h.change (As := [_]) hat (fun F ⟨h1, h2, h3⟩ => ⟨rfl, rfl, rfl, by simp [World.setCell], fun c _ hc => ?_, F, fun c hc => ⟨.inl hc, ?_⟩, Sep.one ⟨h1, h2, pts.setCell h3 v⟩⟩)
 ·exact Below.heap_setCell _ _ _ _ (fun e => hc (by subst e;exact h1))
 ·have := (pts b vs T).dom F w c ⟨h1, h2, h3⟩ hc
  simpa [World.setCell] using this
end Go.Proofs.YtnjmonkehjlaoaaGreatDoor
namespace Go.Proofs.YtnjmonkehjlaoaaGreatDoor
variable {df : List Deferred}
variable {rr : Option Nat}
open Go.RowKit
def gdK (ops : Array Oper) (l : List (Nat × Value)) : Option (Nat × Bool) → Option Bool
 | none => some true
 | some (j, want) => match (ops[j]?).bind (·.dst) with
  | some t => match lk l t with
   | some (.bool c) => some (c == want)
   | some (.tuple _) => some false
   | _ => none
  | none => none
theorem wanted_of {n : Nat} {a : Act} {l : List (Nat × Value)} {ops : Array Oper} {o : Oper} {b : Bool} (hk : Kn df n a l) (h : gdK ops l o.guard = some b) :
  Region.wanted o (yielded ops a.tmps) = b := by
 unfold Region.wanted
 cases hg : o.guard with
 | none => rw [hg] at h;simpa [gdK] using h
 | some p =>
  obtain ⟨j, want⟩ := p
  rw [hg] at h
  simp only [gdK] at h
  simp only [yielded]
  cases ht : (ops[j]?).bind (·.dst) with
  | none => rw [ht] at h;simp at h
  | some t =>
   rw [ht] at h
   simp only [Option.bind_some] at h ⊢
   cases hv : lk l t with
   | none => rw [hv] at h;simp at h
   | some v =>
    rw [hv] at h
    have hget := hk.get t v hv
    cases v <;> simp only [Option.some.injEq, reduceCtorEq] at h
    case bool c =>
     have : a.tmps[t]? = some (.bool c) := by
      rcases Nat.lt_or_ge t a.tmps.size with h' | h'
      ·simpa [Array.getD_eq_getD_getElem?, Array.getElem?_eq_getElem h'] using hget
      ·simp [Array.getD_eq_getD_getElem?, Array.getElem?_eq_none h', undef] at hget
     rw [this]
     subst h
     cases c <;> cases want <;> rfl
    case tuple c =>
     subst h
     rcases Nat.lt_or_ge t a.tmps.size with h' | h'
     ·have : a.tmps[t]? = some (.tuple c) := by simpa [Array.getD_eq_getD_getElem?, Array.getElem?_eq_getElem h'] using hget
      rw [this];cases want <;> rfl
     ·rw [Array.getElem?_eq_none h'];cases want <;> rfl
def Gives (P : Program) (o : Oper) (a : Act) (w : World) (R : Value → World → Prop) : Prop :=
 match (execOp a.eval o).run P w with
 | .ok (.value v) w' => R v w'
 | .ok .skip w' => R undef w'
 | .ok (.enter f args) w' => Calls P f args w' (Ret R)
 | .ok (.round l f tmps assign body) w' => RoundIn Fence.wide 0 P l f tmps assign body w' (Ret R)
 | _ => False
theorem Gives.mono {P : Program} {o : Oper} {a : Act} {w : World} {R R' : Value → World → Prop} (h : Gives P o a w R) (hr : ∀ v w, R v w → R' v w) : Gives P o a w R' := by
 unfold Gives at *
 generalize (execOp a.eval o).run P w = r at *
 cases r with
 | halt x w' => exact h
 | ok nx w' => cases nx <;> first | exact hr _ _ h | exact Calls.mono h (fun e w hh => hh.mono hr) | exact RoundIn.mono h (fun e w hh => hh.mono hr) | exact h
theorem Gives.wp {P : Program} {o : Oper} {a : Act} {w : World} {R : Value → World → Prop} {K : Act → World → Prop} {Q : Exit → Act → World → Prop} (h : Gives P o a w R)
  (hK : ∀ v w', R v w' → K (a.put o.dst v) w') : o.wpIn (FR rr) 0 P a w K Q := by
 have hs : (o.semAt (FR rr).round a.eval).run P w = (execOp a.eval o).run P w := by
  by_cases hd : ∀ c, o.op ≠ .defer c
  ·rw [Oper.semAt_eq _ _ _ hd]
  ·exfalso
   simp only [Classical.not_forall, Classical.not_not] at hd
   obtain ⟨c, hc⟩ := hd
   unfold Gives execOp at h
   rw [hc] at h
   simp only [Sem.run_bind] at h
   generalize (resolve a.eval c o.type).run P w = r at h
   cases r <;> exact h
 refine ⟨fun _ _ => trivial, ?_⟩
 rw [hs]
 unfold Gives at h
 generalize (execOp a.eval o).run P w = r at *
 cases r with
 | halt x w' => exact h.elim
 | ok nx w' =>
  cases nx <;> first
   | exact hK _ _ h
   | exact h.elim
   | exact ⟨fun h => (by cases h), CallsIn.fr (Calls.mono h (fun e w'' ⟨v, he, hv⟩ => by subst he;exact hK _ _ hv))⟩
   | exact ⟨fun h => (by cases h), RoundIn.fr (RoundIn.mono h (fun e w'' ⟨v, he, hv⟩ => by subst he;exact hK _ _ hv))⟩
section
variable {P : Program} {ops : Array Oper} {Q : Exit → Act → World → Prop} {a : Act} {w w' : World} {rest : List Oper} {n : Nat} {l : List (Nat × Value)}
 {d : Nat} {dst : Option Nat} {ty : TypeId} {pos : String} {af : Array Edge} {g : Option (Nat × Bool)} {R R' : Value → World → Prop}
theorem givesv {o : Oper} {v : Value} (hrun : (execOp a.eval o).run P w = .ok (.value v) w') (h : R v w') : Gives P o a w R := by
 unfold Gives;rw [hrun];exact h
theorem givesu {o : Oper} (hrun : (execOp a.eval o).run P w = .ok .skip w') (h : R undef w') : Gives P o a w R := by
 unfold Gives;rw [hrun];exact h
theorem givesc {o : Oper} {f : FuncId} {args : Array Value} (hrun : (execOp a.eval o).run P w = .ok (.enter f args) w') (hc : Calls P f args w' (Ret R')) (h : ∀ v w', R' v w' → R v w') : Gives P o a w R := by
 unfold Gives;rw [hrun];exact hc.mono (fun e w hh => hh.mono h)
theorem sg {o : Op} (hk : Kn df n a l) (h : Gives P ⟨some d, o, ty, pos, af, g⟩ a w (fun v w' => ∀ a', Kn df n a' ((d, v) :: l) → wpListIn (FR rr) 0 P ops Q rest a' w'))
  (hg : gdK ops l g = some true := by rfl) (hd : Nat.blt d n = true := by rfl) : wpListIn (FR rr) 0 P ops Q (⟨some d, o, ty, pos, af, g⟩ :: rest) a w := by
 unfold wpListIn
 rw [if_pos (wanted_of (o := ⟨some d, o, ty, pos, af, g⟩) hk hg)]
 exact h.wp (fun v w' hv => hv _ (hk.put (d := some d) hd v))
theorem su {o : Op} (hk : Kn df n a l) (h : Gives P ⟨none, o, ty, pos, af, g⟩ a w (fun _ w' => ∀ a', Kn df n a' l → wpListIn (FR rr) 0 P ops Q rest a' w'))
  (hg : gdK ops l g = some true := by rfl) : wpListIn (FR rr) 0 P ops Q (⟨none, o, ty, pos, af, g⟩ :: rest) a w := by
 unfold wpListIn
 rw [if_pos (wanted_of (o := ⟨none, o, ty, pos, af, g⟩) hk hg)]
 exact h.wp (fun v w' hv => hv _ hk)
theorem s_skip {o : Op} (hk : Kn df n a l) (h : ∀ a', Kn df n a' ((d, undef) :: l) → wpListIn (FR rr) 0 P ops Q rest a' w) (hg : gdK ops l g = some false := by rfl) (hd : Nat.blt d n = true := by rfl) :
  wpListIn (FR rr) 0 P ops Q (⟨some d, o, ty, pos, af, g⟩ :: rest) a w := by
 unfold wpListIn
 rw [if_neg (by rw [wanted_of (o := ⟨some d, o, ty, pos, af, g⟩) hk hg];decide)]
 exact ⟨fun _ _ => trivial, h _ (hk.put (d := some d) hd undef)⟩
theorem s_end (hk : Kn df n a l) (h : ∀ a', Kn df n a' l → Q .normal a' w) : wpListIn (FR rr) 0 P ops Q [] a w := h _ hk
theorem g_move {x : Operand} {v : Value} (hk : Kn df n a l) (h : R (v) w)
  (hx : ev l x = some v := by rfl) :
  Gives P ⟨dst, .move x, ty, pos, af, g⟩ a w R :=
 givesv (v := v) (by rw [← hk.eval hx];rfl) h
theorem g_nilc {x : Operand} {b o : Nat} (hk : Kn df n a l) (h : R (.pointer (some ⟨b, o, none⟩)) w)
  (hx : ev l x = some (.pointer (some ⟨b, o, none⟩)) := by rfl) :
  Gives P ⟨dst, .nilCheck x, ty, pos, af, g⟩ a w R :=
 givesv (v := .pointer (some ⟨b, o, none⟩)) (by simp only [execOp, hk.eval hx];rfl) h
theorem g_assign {x : Operand} {v : Value} (hk : Kn df n a l) (h : R (v) w)
  (hx : ev l x = some v := by rfl) :
  Gives P ⟨dst, .assign x, ty, pos, af, g⟩ a w R :=
 givesv (v := v) (by rw [← hk.eval hx];rfl) h
theorem g_pick_t {c x y : Operand} {v : Value} (hk : Kn df n a l) (h : R (v) w)
  (hc : ev l c = some (.bool true) := by rfl) (hx : ev l x = some v := by rfl) :
  Gives P ⟨dst, .pick c x y, ty, pos, af, g⟩ a w R :=
 givesv (v := v) (by simp [execOp, hk.eval hc, hk.eval hx, asBool]) h
theorem g_pick_f {c x y : Operand} {v : Value} (hk : Kn df n a l) (h : R (v) w)
  (hc : ev l c = some (.bool false) := by rfl) (hx : ev l y = some v := by rfl) :
  Gives P ⟨dst, .pick c x y, ty, pos, af, g⟩ a w R :=
 givesv (v := v) (by simp [execOp, hk.eval hc, hk.eval hx, asBool]) h
theorem g_add {x y : Operand} {t t' : TypeId} {p q : Int} (hk : Kn df n a l) (h : R (.int .i64 (p + q)) w)
  (hx : ev l x = some (.int .i64 p) := by rfl) (hy : ev l y = some (.int .i64 q) := by rfl)
  (hlo : -9223372036854775808 ≤ p + q) (hhi : p + q ≤ 9223372036854775807) :
  Gives P ⟨dst, .binOp .add t x y t', ty, pos, af, g⟩ a w R :=
 givesv (v := .int .i64 (p + q)) (by
  have e : IntKind.i64.wrap (p + q) = p + q := IntWalk.i64_in _ ⟨hlo, hhi⟩
  simp [execOp, hk.eval hx, hk.eval hy, eqGuard, binOp_add, Op.intArith, e]) h
theorem g_sub {x y : Operand} {t t' : TypeId} {p q : Int} (hk : Kn df n a l) (h : R (.int .i64 (p - q)) w)
  (hx : ev l x = some (.int .i64 p) := by rfl) (hy : ev l y = some (.int .i64 q) := by rfl)
  (hlo : -9223372036854775808 ≤ p - q) (hhi : p - q ≤ 9223372036854775807) :
  Gives P ⟨dst, .binOp .sub t x y t', ty, pos, af, g⟩ a w R :=
 givesv (v := .int .i64 (p - q)) (by
  have e : IntKind.i64.wrap (p - q) = p - q := IntWalk.i64_in _ ⟨hlo, hhi⟩
  simp [execOp, hk.eval hx, hk.eval hy, eqGuard, binOp_sub, Op.intArith, e]) h
theorem g_mul {x y : Operand} {t t' : TypeId} {p q : Int} (hk : Kn df n a l) (h : R (.int .i64 (p * q)) w)
  (hx : ev l x = some (.int .i64 p) := by rfl) (hy : ev l y = some (.int .i64 q) := by rfl)
  (hlo : -9223372036854775808 ≤ p * q) (hhi : p * q ≤ 9223372036854775807) :
  Gives P ⟨dst, .binOp .mul t x y t', ty, pos, af, g⟩ a w R :=
 givesv (v := .int .i64 (p * q)) (by
  have e : IntKind.i64.wrap (p * q) = p * q := IntWalk.i64_in _ ⟨hlo, hhi⟩
  simp [execOp, hk.eval hx, hk.eval hy, eqGuard, binOp_mul, Op.intArith, e]) h
theorem g_lss {x y : Operand} {t t' : TypeId} {k : IntKind} {p q : Int} (hk : Kn df n a l) (h : R (.bool (decide (p < q))) w)
  (hx : ev l x = some (.int k p) := by rfl) (hy : ev l y = some (.int k q) := by rfl) :
  Gives P ⟨dst, .binOp .lss t x y t', ty, pos, af, g⟩ a w R :=
 givesv (v := .bool (decide (p < q))) (by simp [execOp, hk.eval hx, hk.eval hy, eqGuard, binOp_lss]) h
theorem g_leq {x y : Operand} {t t' : TypeId} {k : IntKind} {p q : Int} (hk : Kn df n a l) (h : R (.bool (decide (p ≤ q))) w)
  (hx : ev l x = some (.int k p) := by rfl) (hy : ev l y = some (.int k q) := by rfl) :
  Gives P ⟨dst, .binOp .leq t x y t', ty, pos, af, g⟩ a w R :=
 givesv (v := .bool (decide (p ≤ q))) (by simp [execOp, hk.eval hx, hk.eval hy, eqGuard, binOp_leq]) h
theorem g_gtr {x y : Operand} {t t' : TypeId} {k : IntKind} {p q : Int} (hk : Kn df n a l) (h : R (.bool (decide (q < p))) w)
  (hx : ev l x = some (.int k p) := by rfl) (hy : ev l y = some (.int k q) := by rfl) :
  Gives P ⟨dst, .binOp .gtr t x y t', ty, pos, af, g⟩ a w R :=
 givesv (v := .bool (decide (q < p))) (by simp [execOp, hk.eval hx, hk.eval hy, eqGuard, binOp_gtr]) h
theorem g_geq {x y : Operand} {t t' : TypeId} {k : IntKind} {p q : Int} (hk : Kn df n a l) (h : R (.bool (decide (q ≤ p))) w)
  (hx : ev l x = some (.int k p) := by rfl) (hy : ev l y = some (.int k q) := by rfl) :
  Gives P ⟨dst, .binOp .geq t x y t', ty, pos, af, g⟩ a w R :=
 givesv (v := .bool (decide (q ≤ p))) (by simp [execOp, hk.eval hx, hk.eval hy, eqGuard, binOp_geq]) h
theorem g_eqi {x y : Operand} {t t' : TypeId} {k : IntKind} {p q : Int} (hk : Kn df n a l) (h : R (.bool (decide (p = q))) w)
  (hx : ev l x = some (.int k p) := by rfl) (hy : ev l y = some (.int k q) := by rfl) :
  Gives P ⟨dst, .binOp .eql t x y t', ty, pos, af, g⟩ a w R :=
 givesv (v := .bool (decide (p = q))) (by simp [execOp, hk.eval hx, hk.eval hy, eqGuard, binOp_eql];rfl) h
theorem g_nei {x y : Operand} {t t' : TypeId} {k : IntKind} {p q : Int} (hk : Kn df n a l) (h : R (.bool (!decide (p = q))) w)
  (hx : ev l x = some (.int k p) := by rfl) (hy : ev l y = some (.int k q) := by rfl) :
  Gives P ⟨dst, .binOp .neq t x y t', ty, pos, af, g⟩ a w R :=
 givesv (v := .bool (!decide (p = q))) (by simp [execOp, hk.eval hx, hk.eval hy, eqGuard, binOp_neq];rfl) h
theorem g_not {x : Operand} {t : TypeId} {p : Bool} (hk : Kn df n a l) (h : R (.bool (!p)) w)
  (hx : ev l x = some (.bool p) := by rfl) :
  Gives P ⟨dst, .unOp .not t x, ty, pos, af, g⟩ a w R :=
 givesv (v := .bool (!p)) (by simp [execOp, hk.eval hx, Op.unary]) h
theorem g_min {x y : Operand} {ts : Array TypeId} {p q : Int} (hk : Kn df n a l) (h : R (.int .i64 (min p q)) w)
  (hx : ev l x = some (.int .i64 p) := by rfl) (hy : ev l y = some (.int .i64 q) := by rfl) :
  Gives P ⟨dst, .call { callee := .builtin .min, args := #[x, y], argTypes := ts }, ty, pos, af, g⟩ a w R :=
 givesv (v := .int .i64 (min p q)) (by
  simp [execOp, resolve, invoke, builtin, hk.eval hx, hk.eval hy, run_min_int2]
  omega) h
theorem g_max {x y : Operand} {ts : Array TypeId} {p q : Int} (hk : Kn df n a l) (h : R (.int .i64 (max p q)) w)
  (hx : ev l x = some (.int .i64 p) := by rfl) (hy : ev l y = some (.int .i64 q) := by rfl) :
  Gives P ⟨dst, .call { callee := .builtin .max, args := #[x, y], argTypes := ts }, ty, pos, af, g⟩ a w R :=
 givesv (v := .int .i64 (max p q)) (by
  simp [execOp, resolve, invoke, builtin, hk.eval hx, hk.eval hy, run_max_int2]
  omega) h
theorem g_extract {x : Operand} {i : Nat} {vs : Array Value} {v : Value} (hk : Kn df n a l) (h : R (v) w)
  (hx : ev l x = some (.tuple vs) := by rfl) (hv : vs[i]? = some v := by rfl) :
  Gives P ⟨dst, .extract x i, ty, pos, af, g⟩ a w R :=
 givesv (v := v) (by simp [execOp, hk.eval hx, Instr.extract, hv]) h
theorem g_ex0 {x : Operand} {v v' : Value} (hk : Kn df n a l) (h : R v w) (hx : ev l x = some (.tuple #[v, v']) := by rfl) : Gives P ⟨dst, .extract x 0, ty, pos, af, g⟩ a w R :=
 g_extract hk h hx rfl
theorem g_ex1 {x : Operand} {v v' : Value} (hk : Kn df n a l) (h : R v' w) (hx : ev l x = some (.tuple #[v, v']) := by rfl) : Gives P ⟨dst, .extract x 1, ty, pos, af, g⟩ a w R :=
 g_extract hk h hx rfl
end
end Go.Proofs.YtnjmonkehjlaoaaGreatDoor
namespace Go.Proofs.YtnjmonkehjlaoaaGreatDoor
variable {df : List Deferred}
open Go.RowKit
def szOf (P : Program) (T : TypeId) : Option Nat := (P.info? T).map (·.size)
def zeroOf (P : Program) (T : TypeId) : Option Value := (P.info? T).bind (·.zero)
def aggOf (P : Program) (T : TypeId) : Option Bool :=
 match P.underlying T with
 | some (.struct _) => some true
 | some (.array _ _) => some true
 | some _ => some false
 | none => none
def fldOf (P : Program) (T : TypeId) (f : Nat) : Option (Nat × Nat) :=
 match P.underlying T with
 | some (.struct fs) => match fs[f]? with
  | some x => some (x.offset, ((szOf P x.type).getD 0))
  | none => none
 | _ => none
def fldsO (P : Program) (T : TypeId) : Option (List (Nat × Nat)) :=
 match P.underlying T with
 | some (.struct fs) => fs.toList.mapM (fun x => (szOf P x.type).map (x.offset, ·))
 | _ => none
def elOf (P : Program) (T : TypeId) : Option TypeId :=
 match P.underlying T with
 | some (.slice e) => some e
 | _ => none
def fvOf (P : Program) (T : TypeId) : Option (List (Nat × Option Bool)) :=
 match P.underlying T with
 | some (.struct fs) => some (fs.toList.map (fun x => (x.offset, aggOf P x.type)))
 | _ => none
def mapOf (P : Program) (T : TypeId) : Option (Nat × Nat) :=
 match P.underlying T with
 | some (.map k e) => some (k, e)
 | _ => none
def callable (P : Program) (f : FuncId) : Bool :=
 match P.funcs[f]? with
 | some fn => !(fn.name == "runtime.NumGoroutine") && !fn.body.isNone
 | none => false
theorem szOf_run {P : Program} {T : TypeId} {k : Nat} (h : szOf P T = some k) (w : World) : (sizeOf T).run P w = .ok k w := by
 unfold szOf at h
 cases hi : P.info? T with
 | none => rw [hi] at h;simp at h
 | some i => rw [hi] at h;simp at h;simp [sizeOf, typeInfo, hi, h]
theorem zeroOf_run {P : Program} {T : TypeId} {z : Value} (h : zeroOf P T = some z) (w : World) : (zeroValue T).run P w = .ok z w := by
 unfold zeroOf at h
 cases hi : P.info? T with
 | none => rw [hi] at h;simp at h
 | some i => rw [hi] at h;simp at h;simp [zeroValue, typeInfo, hi, h]
theorem aggOf_run {P : Program} {T : TypeId} {b : Bool} (h : aggOf P T = some b) (w : World) : (isAgg T).run P w = .ok b w := by
 unfold aggOf at h
 unfold isAgg
 cases hi : P.underlying T with
 | none => rw [hi] at h;simp at h
 | some d =>
  rw [hi] at h
  simp only [Sem.run_bind, run_underlying hi, Result.andThen_ok]
  cases d <;> simp at h <;> subst h <;> rfl
theorem elOf_und {P : Program} {T e : TypeId} (h : elOf P T = some e) : P.underlying T = some (.slice e) := by
 unfold elOf at h
 cases hi : P.underlying T with
 | none => rw [hi] at h;simp at h
 | some d => rw [hi] at h;cases d <;> simp at h;subst h;rfl
def Cells (b o : Nat) (us : List Value) (w : World) : Prop := ∀ j u, us[j]? = some u → w.cell? ⟨b, o + j, none⟩ = some u
theorem Cells.get {b o : Nat} {us : List Value} {w : World} (h : Cells b o us w) {j : Nat} {u : Value} (hj : us[j]? = some u) : w.cell? ⟨b, o + j, none⟩ = some u := h j u hj
theorem Cells.of_block {b : Nat} {vs : List Value} {T : TypeId} {fz : Nat × Nat} {w : World} (h : w.heap[b]? = some (.cells vs.toArray T fz)) (o m : Nat) : Cells b o ((vs.drop o).take m) w := fun j u hj => by
 rw [cell_of_row w b (o + j) _ T fz h]
 rw [List.getElem?_take] at hj
 split at hj
 ·simpa using hj
 ·cases hj
theorem addr_add (b o n : Nat) : (⟨b, o, none⟩ : Addr).add n = ⟨b, o + n, none⟩ := by
 unfold Addr.add
 split
 ·simp [*]
 ·rfl
theorem run_load1 {P : Program} {T : TypeId} {b o : Nat} {v : Value} {w : World} (hT : aggOf P T = some false) (hc : w.cell? ⟨b, o, none⟩ = some v) :
  (Instr.loadAt T (.pointer (some ⟨b, o, none⟩))).run P w = .ok v w := by
 simp [Instr.loadAt, Instr.sureAddr, loadVar, aggOf_run hT, hc]
theorem run_loadN {P : Program} {T : TypeId} {b o : Nat} {us : List Value} {w : World} (hT : aggOf P T = some true) (hs : szOf P T = some us.length) (hc : Cells b o us w) :
  (Instr.loadAt T (.pointer (some ⟨b, o, none⟩))).run P w = .ok (.agg us.toArray) w := by
 have h1 := run_loadCells_list (P := P) (w := w) ⟨b, o, none⟩ us (fun j v hj => by rw [addr_add];exact hc j v hj)
 simp [Instr.loadAt, Instr.sureAddr, loadVar, aggOf_run hT, szOf_run hs, h1]
section
variable {P : Program} {ops : Array Oper} {Q : Exit → Act → World → Prop} {a : Act} {w w' : World} {w0 : Bs} {rest : List Oper} {n : Nat} {l : List (Nat × Value)}
 {d : Nat} {dst : Option Nat} {R R' : Value → World → Prop} {ty : TypeId} {pos : String} {af : Array Edge} {g : Option (Nat × Bool)} {L L' : List HP}
theorem g_field {x : Operand} {T : TypeId} {f b o off sz : Nat} (hk : Kn df n a l) (h : R (.pointer (some ⟨b, o + off, none⟩)) w)
  (hf : fldOf P T f = some (off, sz + 1))
  (hx : ev l x = some (.pointer (some ⟨b, o, none⟩)) := by rfl) :
  Gives P ⟨dst, .fieldAddr T x f, ty, pos, af, g⟩ a w R := by
 refine givesv (v := .pointer (some ⟨b, o + off, none⟩)) ?_ h
 unfold fldOf at hf
 cases hu : P.underlying T with
 | none => rw [hu] at hf;simp at hf
 | some dsc =>
  rw [hu] at hf
  cases dsc <;> simp only [reduceCtorEq] at hf
  case struct fs =>
   cases hfs : fs[f]? with
   | none => rw [hfs] at hf;simp at hf
   | some fl =>
    rw [hfs] at hf
    simp only [Option.some.injEq, Prod.mk.injEq] at hf
    obtain ⟨h1, h2⟩ := hf
    have h3 : szOf P fl.type = some (sz + 1) := by
     cases hz : szOf P fl.type with
     | none => rw [hz] at h2;simp at h2
     | some z => rw [hz] at h2;simp at h2;rw [h2]
    simp [execOp, hk.eval hx, Instr.fieldAt, run_underlying hu, hfs, Instr.sureAddr, fieldPlace, szOf_run h3, h1, addr_add]
theorem g_load1 {x : Operand} {T : TypeId} {b o : Nat} {v : Value} (hk : Kn df n a l) (h : R (v) w)
  (hT : aggOf P T = some false) (hc : w.cell? ⟨b, o, none⟩ = some v)
  (hx : ev l x = some (.pointer (some ⟨b, o, none⟩)) := by rfl) :
  Gives P ⟨dst, .load T x, ty, pos, af, g⟩ a w R :=
 givesv (v := v) (by simp [execOp, hk.eval hx, run_load1 hT hc]) h
theorem g_loadN {x : Operand} {T : TypeId} {b o : Nat} {us : List Value} (hk : Kn df n a l) (h : R (.agg us.toArray) w)
  (hT : aggOf P T = some true) (hc : Cells b o us w) (hs : szOf P T = some us.length)
  (hx : ev l x = some (.pointer (some ⟨b, o, none⟩)) := by rfl) :
  Gives P ⟨dst, .load T x, ty, pos, af, g⟩ a w R :=
 givesv (v := .agg us.toArray) (by simp [execOp, hk.eval hx, run_loadN hT hs hc]) h
theorem g_own1 {x : Operand} {T : TypeId} {b o : Nat} {vs : List Value} {T' : TypeId} {v : Value} (hk : Kn df n a l) (hS : St w0 L w) (h : R (v) w)
  (hT : aggOf P T = some false)
  (hx : ev l x = some (.pointer (some ⟨b, o, none⟩)) := by rfl)
  (hat : At (pts b vs T') L L' := by (repeat (first | exact At.here | apply At.there)))
  (hv : vs[o]? = some v := by rfl) :
  Gives P ⟨dst, .load T x, ty, pos, af, g⟩ a w R :=
 g_load1 hk h hT (by rw [cell_of_row w b o _ T' _ (pts.block (hS.rd hat))];simpa using hv) hx
theorem g_ownN {x : Operand} {T : TypeId} {b o k : Nat} {vs us : List Value} {T' : TypeId} (hk : Kn df n a l) (hS : St w0 L w) (h : R (.agg us.toArray) w)
  (hT : aggOf P T = some true) (hs : szOf P T = some k)
  (hx : ev l x = some (.pointer (some ⟨b, o, none⟩)) := by rfl)
  (hat : At (pts b vs T') L L' := by (repeat (first | exact At.here | apply At.there)))
  (hv : (vs.drop o).take k = us := by first | (simp only [List.drop_succ_cons, List.drop_zero, List.take_succ_cons, List.take_zero, Nat.zero_add, Nat.reduceAdd];rfl) | rfl) (hl : us.length = k := by rfl) :
  Gives P ⟨dst, .load T x, ty, pos, af, g⟩ a w R := by
 have hc := Cells.of_block (pts.block (hS.rd hat)) o k
 rw [hv] at hc
 exact g_loadN hk h hT hc (by rw [hl];exact hs) hx
theorem g_box {x : Operand} {T : TypeId} {v : Value} {vs : List Value} (hk : Kn df n a l) (hS : St w0 L w)
  (h : ∀ w' b, St w0 (pts b vs T :: L) w' → R (.pointer (some ⟨b, 0, none⟩)) w')
  (hx : ev l x = some v := by rfl) (hv : v.cells = vs.toArray := by rfl) :
  Gives P ⟨dst, .box T x, ty, pos, af, g⟩ a w R :=
 givesv (v := .pointer (some ⟨w.heap.size, 0, none⟩)) (w' := w.alloc (.cells vs.toArray T)) (by simp [execOp, hk.eval hx, Instr.box, newVar, newRow, hv]) (h _ _ (hS.alloc vs T))
theorem g_alloc {T : TypeId} {v : Value} {vs : List Value} (hk : Kn df n a l) (hS : St w0 L w)
  (h : ∀ w' b, St w0 (pts b vs T :: L) w' → R (.pointer (some ⟨b, 0, none⟩)) w')
  (hz : zeroOf P T = some v) (hv : v.cells = vs.toArray := by rfl) :
  Gives P ⟨dst, .alloc T, ty, pos, af, g⟩ a w R :=
 givesv (v := .pointer (some ⟨w.heap.size, 0, none⟩)) (w' := w.alloc (.cells vs.toArray T)) (by simp [execOp, Instr.alloc, zeroOf_run hz, newVar, newRow, hv]) (h _ _ (hS.alloc vs T))
def splice : List Value → Nat → List Value → List Value
 | vs, _, [] => vs
 | vs, o, u :: us => splice (vs.set o u) (o + 1) us
theorem run_storeCells_own {b : Nat} {T : TypeId} {L L' : List HP} : ∀ (us : List Value) (o i : Nat) (vs : List Value) (w : World), St w0 L w → At (pts b vs T) L L' → (∀ u ∈ us, u.oneCell' = true) → o + i + us.length ≤ vs.length →
  ∃ w', (storeCells ⟨b, o, none⟩ us i).run P w = .ok () w' ∧ St w0 (pts b (splice vs (o + i) us) T :: L') w'
 | [], o, i, vs, w, hS, hat, _, _ => ⟨w, rfl, hS.sub (.cons hat .refl)⟩
 | u :: us, o, i, vs, w, hS, hat, h1, hl => by
  have hb := pts.block (hS.rd hat)
  have hlt : o + i < vs.length := by simp at hl;omega
  have hc : w.cell? ⟨b, o + i, none⟩ = some vs[o + i] := by rw [cell_of_row w b (o + i) _ T _ hb];simp [hlt]
  have hf : w.frozen? ⟨b, o + i, none⟩ = false := frozen_of_row w b (o + i) _ T hb
  have hst : (store ⟨b, o + i, none⟩ u).run P w = .ok () (w.setCell ⟨b, o + i, none⟩ u) := by
   rw [run_store P w _ u .plain (h1 u (by simp)), hc]
   simp [hf]
  obtain ⟨w', hr, hS'⟩ := run_storeCells_own us o (i + 1) _ _ (hS.setCell hat u) (At.here) (fun x hx => h1 x (by simp [hx])) (by simp at hl ⊢;omega)
  refine ⟨w', ?_, ?_⟩
  ·unfold storeCells
   simp only [Sem.run_bind, addr_add, hst, Result.andThen_ok]
   exact hr
  ·simpa [splice, Nat.add_assoc] using hS'
theorem g_store {x y : Operand} {T : TypeId} {b o : Nat} {v : Value} {vs us vs' : List Value} {T' : TypeId} (hk : Kn df n a l) (hS : St w0 L w)
  (h : ∀ w', St w0 (pts b vs' T' :: L') w' → R undef w')
  (hx : ev l x = some (.pointer (some ⟨b, o, none⟩)) := by rfl) (hy : ev l y = some v := by rfl) (hv : v.cells = us.toArray := by rfl)
  (hsz : szOf P T = some us.length)
  (hat : At (pts b vs T') L L' := by (repeat (first | exact At.here | apply At.there)))
  (hone : us.all (·.oneCell') = true := by rfl) (hl : Nat.ble (o + us.length) vs.length = true := by rfl) (hsp : splice vs o us = vs' := by rfl) :
  Gives P ⟨dst, .store T x y, ty, pos, af, g⟩ a w R := by
 subst hsp
 obtain ⟨w', hr, hS'⟩ := run_storeCells_own (P := P) us o 0 vs w hS hat (fun u hu => (List.all_eq_true.1 hone) u hu) (by simpa using Nat.le_of_ble_eq_true hl)
 refine givesu (w' := w') ?_ (h w' (by simpa using hS'))
 simp [execOp, hk.eval hx, hk.eval hy, Instr.storeAt, Instr.sureAddr, storeVar, szOf_run hsz, hv, hr]
def bldP (pl : Nat → Option (Nat × Nat)) : List Value → List (Nat × Value) → Option (List Value)
 | z, [] => some z
 | z, (i, v) :: r => match pl i with
  | none => none
  | some (off, sz) => bif (Nat.beq v.cells.size sz && Nat.ble (off + v.cells.size) z.length) then bldP pl (splice z off v.cells.toList) r else none
def bldS (pl : List (Nat × Nat)) : List Value → List (Nat × Value) → Option (List Value) := bldP (pl[·]?)
theorem foldl_splice : ∀ (us : List Value) (k off : Nat) (cs : Array Value), ((us.zipIdx k).foldl (fun (cs : Array Value) (p : Value × Nat) => cs.setIfInBounds (off + p.2) p.1) cs).toList = splice cs.toList (off + k) us
 | [], _, _, _ => rfl
 | u :: us, k, off, cs => by
  simp only [List.zipIdx_cons, List.foldl_cons, splice]
  rw [foldl_splice us (k + 1) off]
  simp [Nat.add_assoc]
theorem fill_bldP (pl : Nat → Option (Nat × Nat)) : ∀ (parts : List (Nat × Value)) (z : Array Value) (us : List Value), bldP pl z.toList parts = some us → Instr.fill pl z parts = some us.toArray
 | [], z, us, h => by simp [bldP] at h;subst h;simp [Instr.fill]
 | (i, v) :: r, z, us, h => by
  simp only [bldP] at h
  unfold Instr.fill
  cases hp : pl i with
  | none => rw [hp] at h;simp at h
  | some p =>
   obtain ⟨off, sz⟩ := p
   rw [hp] at h
   simp only
   cases hb : (Nat.beq v.cells.size sz && Nat.ble (off + v.cells.size) z.toList.length) with
   | false => simp only [hb, cond_false] at h;cases h
   | true =>
    simp only [hb, cond_true] at h
    simp only [Bool.and_eq_true] at hb
    have h1 : v.cells.size = sz := Nat.eq_of_beq_eq_true hb.1
    have h2 : off + v.cells.size ≤ z.size := by simpa using Nat.le_of_ble_eq_true hb.2
    rw [if_neg (by simp [h1];omega)]
    refine fill_bldP pl r _ us ?_
    have := foldl_splice v.cells.toList 0 off z
    simp only [Nat.add_zero] at this
    rw [← this] at h
    rw [← h]
    congr 1
    rw [← Array.foldl_toList, Array.toList_zipIdx]
theorem fill_bld (pl : Array (Nat × Nat)) (parts : List (Nat × Value)) (z : Array Value) (us : List Value) (h : bldS pl.toList z.toList parts = some us) : Instr.fill (pl[·]?) z parts = some us.toArray := by
 have e : (fun (i : Nat) => pl.toList[i]?) = (fun (i : Nat) => pl[i]?) := by funext i;simp
 unfold bldS at h
 rw [e] at h
 exact fill_bldP _ parts z us h
def evP (l : List (Nat × Value)) : List (Nat × Operand) → Option (List (Nat × Value))
 | [] => some []
 | (i, x) :: r => match ev l x, evP l r with
  | some v, some vs => some ((i, v) :: vs)
  | _, _ => none
theorem evP_map (hk : Kn df n a l) : ∀ {xs : List (Nat × Operand)} {vs : List (Nat × Value)}, evP l xs = some vs → xs.map (fun (i, x) => (i, a.eval x)) = vs
 | [], vs, h => by simp [evP] at h;simp [h]
 | (i, x) :: r, vs, h => by
  simp only [evP] at h
  cases h1 : ev l x with
  | none => rw [h1] at h;simp at h
  | some v =>
   cases h2 : evP l r with
   | none => rw [h1, h2] at h;simp at h
   | some us => rw [h1, h2] at h;simp at h;simp [← h, hk.eval h1, evP_map hk h2]
theorem run_places {fs : List Field} {pl : List (Nat × Nat)} (h : fs.mapM (fun x => (szOf P x.type).map (x.offset, ·)) = some pl) (w : World) :
  ((fs.mapM (m := Sem) fun f => do pure (f.offset, ← sizeOf f.type)) : Sem (List (Nat × Nat))).run P w = .ok pl w := by
 induction fs generalizing pl with
 | nil => simp at h;subst h;simp
 | cons f fs ih =>
  simp only [List.mapM_cons, Option.bind_eq_bind, Option.bind_eq_some_iff] at h
  obtain ⟨p, hp, ps, hps, hpl⟩ := h
  simp only [Option.map_eq_some_iff] at hp
  obtain ⟨k, hk, rfl⟩ := hp
  simp at hpl
  subst hpl
  have ih' := ih hps
  simp only [bind_pure_comp] at ih' ⊢
  simp [List.mapM_cons, szOf_run hk, ih']
theorem g_build {T : TypeId} {parts : List (Nat × Operand)} {vals : List (Nat × Value)} {pl : List (Nat × Nat)} {z us : List Value} (hk : Kn df n a l) (h : R (.agg us.toArray) w)
  (hf : fldsO P T = some pl) (hz : zeroOf P T = some (.agg z.toArray))
  (hp : evP l parts = some vals := by rfl) (hb : bldS pl z vals = some us := by rfl) :
  Gives P ⟨dst, .build T parts.toArray, ty, pos, af, g⟩ a w R := by
 refine givesv (v := .agg us.toArray) ?_ h
 unfold fldsO at hf
 cases hu : P.underlying T with
 | none => rw [hu] at hf;simp at hf
 | some dsc =>
  rw [hu] at hf
  cases dsc <;> simp only [reduceCtorEq] at hf
  case struct fs =>
   have he := evP_map hk hp
   have h1 := run_places hf w
   have h2 : (fs.mapM (m := Sem) fun f => do pure (f.offset, ← sizeOf f.type)).run P w = .ok pl.toArray w := by
    rw [Array.mapM_eq_mapM_toList, Sem.run_map, h1]
    rfl
   have h3 := fill_bld pl.toArray vals z.toArray us (by simpa using hb)
   have h4 : (List.map (fun p => (p.1, a.eval p.2)) parts) = vals := he
   simp only [execOp, Instr.build, Sem.run_bind, zeroOf_run hz, Result.andThen_ok, run_underlying hu, h2, Value.cells]
   simp only [List.map_toArray, he, h3]
   rfl
def evs (l : List (Nat × Value)) : List Operand → Option (List Value)
 | [] => some []
 | x :: r => match ev l x, evs l r with
  | some v, some vs => some (v :: vs)
  | _, _ => none
theorem evs_map (hk : Kn df n a l) : ∀ {xs : List Operand} {vs : List Value}, evs l xs = some vs → xs.map a.eval = vs
 | [], vs, h => by simp [evs] at h;simp [h]
 | x :: r, vs, h => by
  simp only [evs] at h
  cases h1 : ev l x with
  | none => rw [h1] at h;simp at h
  | some v =>
   cases h2 : evs l r with
   | none => rw [h1, h2] at h;simp at h
   | some us => rw [h1, h2] at h;simp at h;simp [← h, hk.eval h1, evs_map hk h2]
theorem callFunc_run {f : FuncId} {args : Array Value} (h : callable P f = true) : (callFunc f args).run P w = .ok (.enter f args) w := by
 unfold callable at h
 unfold callFunc
 cases hf : P.funcs[f]? with
 | none => rw [hf] at h;simp at h
 | some fn =>
  rw [hf] at h
  simp only [Bool.and_eq_true, Bool.not_eq_true'] at h
  obtain ⟨h1, h2⟩ := h
  have h1' : ¬ fn.name = "runtime.NumGoroutine" := by simpa using h1
  have h2' : ¬ fn.body = none := by intro e;rw [e] at h2;simp at h2
  simp [hf, h1', h2']
theorem g_call {f : FuncId} {xs : List Operand} {vs : List Value} {ts : Array TypeId} (hk : Kn df n a l) (hf : callable P f = true) (hc : Calls P f vs.toArray w (Ret R'))
  (h : ∀ v w', R' v w' → R v w')
  (hxs : evs l xs = some vs := by rfl) :
  Gives P ⟨dst, .call { callee := .value (.func f), args := xs.toArray, argTypes := ts }, ty, pos, af, g⟩ a w R := by
 refine givesc (f := f) (args := vs.toArray) ?_ hc h
 have he := evs_map hk hxs
 have : (#[] ++ (List.toArray xs).map a.eval ++ #[] : Array Value) = vs.toArray := by simp [he]
 rw [← this]
 exact callFunc_run hf
theorem g_callv {x : Operand} {f : FuncId} {first cap : List Value} {xs : List Operand} {vs : List Value} {ts : Array TypeId} (hk : Kn df n a l) (hf : callable P f = true) (hc : Calls P f (first ++ vs ++ cap).toArray w (Ret R'))
  (h : ∀ v w', R' v w' → R v w')
  (hx : ev l x = some (.func (.func f) first.toArray cap.toArray) := by rfl)
  (hxs : evs l xs = some vs := by rfl) :
  Gives P ⟨dst, .call { callee := .value x, args := xs.toArray, argTypes := ts }, ty, pos, af, g⟩ a w R := by
 refine givesc (f := f) (args := (first ++ vs ++ cap).toArray) ?_ hc h
 have he := evs_map hk hxs
 have : (first.toArray ++ (List.toArray xs).map a.eval ++ cap.toArray : Array Value) = (first ++ vs ++ cap).toArray := by simp [he]
 rw [← this]
 have e : (execOp a.eval ⟨dst, .call { callee := .value x, args := xs.toArray, argTypes := ts }, ty, pos, af, g⟩) = callFunc f (first.toArray ++ (List.toArray xs).map a.eval ++ cap.toArray) := by
  simp [execOp, resolve, hk.eval hx, Deferred.ofValue, invoke]
 rw [e]
 exact callFunc_run hf
theorem q_then {K : Act → World → Prop} (h : K a w) : Exit.then K Q .normal a w := h
theorem done1 {fn : Func} {R : Value → World → Prop} {t : Nat} {v : Value} (hk : Kn [] n a l) (hr : fn.results = #[.tmp t] := by rfl) (hv : lk l t = some v := by rfl) (h : R v w) : Done P fn R .ret a w :=
 bodyPost_ret (results_tmp hr _ _ _) hk.defers ⟨v, by rw [hk.get t v hv], h⟩
theorem done2 {fn : Func} {R : Value → World → Prop} {t t' : Nat} {v v' : Value} (hk : Kn [] n a l) (hr : fn.results = #[.tmp t, .tmp t'] := by rfl) (hv : lk l t = some v := by rfl) (hv' : lk l t' = some v' := by rfl)
  (h : R (.tuple #[v, v']) w) : Done P fn R .ret a w :=
 bodyPost_ret (results_tmp2 hr _ _ _) hk.defers ⟨_, by rw [hk.get t v hv, hk.get t' v' hv'], h⟩
end
end Go.Proofs.YtnjmonkehjlaoaaGreatDoor
