/- A value that owns several resources at once, of things that are not told. Maps by numbers. Functions that may panic: they return, or they panic; what a call of one of them gives; the end of such a body. Panics that a text throws, interface values, a deferred closure. Elements of arrays that are values; interface values: calls, assertions. Layers 16 to 18: timers, frames and a clock in which at most one job waits: what lies where, and how many wait. Stores that change nothing; a map of one entry, and its stamp. Layer 16: timers in a heap that holds at most one. -/
import Derived.Test.YthodcfdgahfniaaGreatV08
import Derived.RecoverIn
import Derived.Laws.Build
import Derived.WideLaws
import Derived.Test.YthodcfdgahfniaaGreatV07
set_option linter.all false
namespace Go.Proofs.YthodcfdgahfniaaGreat
open Go.RowKit

theorem Sep.split {w : World} : ∀ {L1 L2 : List HP} {F : Nat → Prop}, Sep (L1 ++ L2) F w → ∃ F1 F2 : Nat → Prop, (∀ b, F1 b → F b) ∧ (∀ b, F2 b → F b) ∧ (∀ b, F1 b → F2 b → False) ∧ Sep L1 F1 w ∧ Sep L2 F2 w
  | [], _, F, h => ⟨fun _ => False, F, fun _ h => h.elim, fun _ h => h, fun _ h _ => h, trivial, h⟩
  | A :: L1, L2, F, ⟨G1, G2, h1, h2, h3, h4, h5⟩ => by
    obtain ⟨F1, F2, k1, k2, k3, k4, k5⟩ := Sep.split (L1 := L1) h5
    exact ⟨fun b => G1 b ∨ F1 b, F2, fun b h => h.elim (h1 b) (fun h => h2 b (k1 b h)), fun b h => h2 b (k2 b h), fun b h1 hF => h1.elim (fun hG => h3 b hG (k2 b hF)) (fun hG => k3 b hG hF),
      ⟨G1, F1, fun b h => .inl h, fun b h => .inr h, fun b hG hF => h3 b hG (k1 b hF), h4, k4⟩, k5⟩

def bagH {α : Type} (A : α → List HP) (p : α → Prop) : HP where
  holds F w := (∀ b, F b → b < w.heap.size) ∧ ∃ x, p x ∧ Sep (A x) F w
  stable F w w' h hF := by
    obtain ⟨h1, x, hp, hs⟩ := h
    refine ⟨fun b hb => ?_, x, hp, hs.stable hF⟩
    have h2 := hF b hb
    rcases Nat.lt_or_ge b w'.heap.size with h | h
    · exact h
    · rw [Array.getElem?_eq_none h, Array.getElem?_eq_getElem (h1 b hb)] at h2; cases h2
  dom F w b h hb := h.1 b hb

theorem bagH.of {α : Type} {A : α → List HP} {p : α → Prop} {B : Bs} {w : World} {L : List HP} {x : α} (h : St B (A x ++ L) w) (hp : p x) : St B (bagH A p :: L) w := by
  obtain ⟨F, hF, hs⟩ := h.own
  obtain ⟨F1, F2, h1, h2, h3, h4, h5⟩ := hs.split
  exact ⟨h.below, h.frz, F, hF, F1, F2, h1, h2, h3, ⟨fun b hb => (hF b (h1 b hb)).2, x, hp, h4⟩, h5⟩

theorem St.bag {α : Type} {A : α → List HP} {p : α → Prop} {B : Bs} {w : World} {L L' : List HP} (h : St B L w) (hat : At (bagH A p) L L') : ∃ x, p x ∧ St B (A x ++ L') w := by
  obtain ⟨F, hF, hs⟩ := h.own
  obtain ⟨F1, F2, h1, h2, h3, ⟨_, x, hp, h4⟩, h5⟩ := hs.pull hat
  exact ⟨x, hp, h.below, h.frz, F, hF, (h4.append h5 h3).mono (fun b hb => hb.elim (h1 b) (h2 b))⟩

theorem Sep.rd {w : World} {A : HP} {L L' : List HP} {F : Nat → Prop} (h : Sep L F w) (hat : At A L L') : A.rd w :=
  let ⟨F1, _, _, _, _, h4, _⟩ := h.pull hat
  ⟨F1, h4⟩

theorem bagH.rd {α : Type} {A : α → List HP} {p : α → Prop} {w : World} (h : (bagH A p).rd w) : ∃ x, p x ∧ ∃ F, Sep (A x) F w :=
  let ⟨F, _, x, hp, hs⟩ := h
  ⟨x, hp, F, hs⟩

noncomputable def only (F : Nat → Prop) (w : World) : World :=
  { w with heap := w.heap.mapIdx fun i o => @ite _ (F i) (Classical.propDecidable _) o dead }

def rdH (R : World → Prop) : HP where
  holds F w := (∀ b, F b → b < w.heap.size) ∧ ∃ g : World, (∀ b, live g b → F b) ∧ Frz g w ∧ R g
  stable F w w' h hF := by
    obtain ⟨h1, g, hl, hz, hr⟩ := h
    refine ⟨fun b hb => ?_, g, hl, fun b o ho hd => ?_, hr⟩
    · have h2 := hF b hb
      rcases Nat.lt_or_ge b w'.heap.size with h | h
      · exact h
      · rw [Array.getElem?_eq_none h, Array.getElem?_eq_getElem (h1 b hb)] at h2; cases h2
    · rw [hF b (hl b ⟨o, ho, hd⟩)]; exact hz b o ho hd
  dom F w b h hb := h.1 b hb

def Stays (R : World → Prop) : Prop := ∀ g w, Frz g w → R g → R w

end Go.Proofs.YthodcfdgahfniaaGreat
namespace Go.Proofs.YthodcfdgahfniaaGreat
open Go.RowKit
def encI (n : Int) : Value := .int .i64 n
theorem keyI : KeyT Tryz.prog 3 encI := keyInt (iT rfl)
theorem mapH.shape {κ : Type} {enc : κ → Value} {v : Value} {l : List (κ × Value)} {w : World} (h : (mapH enc v l).rd w) : ∃ b, v = .map (some b) :=
  let ⟨_, b, _, _, h1, _⟩ := h
  ⟨b, h1⟩
end Go.Proofs.YthodcfdgahfniaaGreat
namespace Go.Proofs.YthodcfdgahfniaaGreat
open Go.RowKit

def RoP (R : Value → World → Prop) (S : List PanicEntry → World → Prop) (e : Ending) (w : World) : Prop := (∃ v, e = .returned v ∧ R v w) ∨ ∃ ch, e = .panicked ch ∧ S ch w
def DoneP (P : Program) (fn : Func) (R : Value → World → Prop) (S : List PanicEntry → World → Prop) : Exit → Act → World → Prop := bodyPost P fn (RoP R S)

section
variable {P : Program} {ops : Array Oper} {Q : Exit → Act → World → Prop} {a : Act} {w w' : World} {rest : List Oper} {n : Nat} {l : List (Nat × Value)} {df : List Deferred} {rr : Option Nat}
  {d : Nat} {dst : Option Nat} {ty : TypeId} {pos : String} {af : Array Edge} {g : Option (Nat × Bool)} {R R' : Value → World → Prop} {S S' : List PanicEntry → World → Prop} {fn : Func}

def GivesP (P : Program) (o : Oper) (a : Act) (w : World) (R : Value → World → Prop) (S : List PanicEntry → World → Prop) : Prop :=
  (∀ c, o.op ≠ .defer c) ∧ match (execOp a.eval o).run P w with
  | .ok (.value v) w' => R v w'
  | .ok .skip w' => R undef w'
  | .ok (.enter f args) w' => Calls P f args w' (RoP R S)
  | .halt (.panic v) w' => S [{ v, recovered := false }] w'
  | _ => False

def DoneD (P : Program) (fn : Func) (R : Value → World → Prop) : Exit → Act → World → Prop := bodyPostDIn Fence.wide 0 P fn (Ret R)
end
end Go.Proofs.YthodcfdgahfniaaGreat
namespace Go.Proofs.YthodcfdgahfniaaGreat
open Go.RowKit
section
variable {P : Program} {ops : Array Oper} {Q : Exit → Act → World → Prop} {a : Act} {w w' : World} {rest : List Oper} {n : Nat} {l : List (Nat × Value)} {df : List Deferred} {rr : Option Nat}
  {d : Nat} {dst : Option Nat} {ty : TypeId} {pos : String} {af : Array Edge} {g : Option (Nat × Bool)} {R R' : Value → World → Prop} {S S' : List PanicEntry → World → Prop} {fn : Func}

theorem g_mkI {x : Operand} {T : TypeId} {v : Value} (hk : Kn df n a l) (h : R (.iface T v) w) (hT : P.concrete T = true) (hx : ev l x = some v := by rfl) :
    Gives P ⟨dst, .makeInterface T x, ty, pos, af, g⟩ a w R :=
  givesv (v := .iface T v) (by simp [execOp, hk.eval hx, run_makeInterface w T v hT]) h
section
variable {c₀ : Frame} {cs : List Frame} {QS : Exit → Act → List Frame → World → Prop} {id d1 d2 : Nat} {ts : Array TypeId} {ty1 ty2 : TypeId} {p1 p2 : String} {f1 f2 : Array Edge}
def recOps (d1 d2 : Nat) (ts : Array TypeId) (ty1 ty2 : TypeId) (p1 p2 : String) (f1 f2 : Array Edge) : Array Oper :=
  #[⟨some d1, .call { callee := .builtin .recover, args := #[], argTypes := ts }, ty1, p1, f1, none⟩, ⟨some d2, .assign (.tmp d1), ty2, p2, f2, none⟩]
theorem wanted_none {o : Oper} (h : o.guard = none) (y : Nat → Option Bool) : Region.wanted o y = true := by simp [Region.wanted, h]
end
end

section
variable {P : Program} {Q : Exit → Act → World → Prop} {a : Act} {w w' : World} {n : Nat} {l : List (Nat × Value)} {df : List Deferred} {rr : Option Nat} {ops : Array Oper} {K : Act → World → Prop}
  {d : Nat} {dst : Option Nat} {ty : TypeId} {pos : String} {af : Array Edge} {g : Option (Nat × Bool)}
abbrev Any (rr : Option Nat) (P : Program) (ops : Array Oper) (Q : Exit → Act → World → Prop) (k : Nat) (listed : Array Bool) (a : Act) (w : World) : Prop := wpAnyIn (FR rr) 0 P .any ops Q k listed a w
theorem an_end {k : Nat} {listed : Array Bool} (hr : Region.ready .any ops listed = []) (h : Q .normal a w) : Any rr P ops Q k listed a w := by
  cases k with
  | zero => exact ⟨hr, h⟩
  | succ k => exact ⟨fun _ => h, fun i hi => by rw [hr] at hi; cases hi⟩
theorem an_step {k : Nat} {listed : Array Bool} {i : Nat} {rs : List Nat} (hr : Region.ready .any ops listed = i :: rs)
    (h : ∀ j ∈ i :: rs, wpOpIn (FR rr) 0 P ops Q j (Any rr P ops Q k (listed.setIfInBounds j true)) a w) : Any rr P ops Q (k + 1) listed a w :=
  ⟨fun e => (by rw [hr] at e; cases e), fun j hj => h j (by rw [← hr]; exact hj)⟩
theorem an_op {o : Op} {i : Nat} (ho : ops[i]? = some ⟨some d, o, ty, pos, af, none⟩) (hk : Kn df n a l) (h : Gives P ⟨some d, o, ty, pos, af, none⟩ a w (fun v w' => ∀ a', Kn df n a' ((d, v) :: l) → K a' w')) (hd : Nat.blt d n = true := by rfl) :
    wpOpIn (FR rr) 0 P ops Q i K a w := by
  unfold wpOpIn
  simp only [ho]
  rw [if_pos (wanted_none rfl _)]
  exact h.wp (fun v w' hv => hv _ (hk.put (d := some d) hd v))
theorem an_opu {o : Op} {i : Nat} (ho : ops[i]? = some ⟨none, o, ty, pos, af, none⟩) (hk : Kn df n a l) (h : Gives P ⟨none, o, ty, pos, af, none⟩ a w (fun _ w' => ∀ a', Kn df n a' l → K a' w')) :
    wpOpIn (FR rr) 0 P ops Q i K a w := by
  unfold wpOpIn
  simp only [ho]
  rw [if_pos (wanted_none rfl _)]
  exact h.wp (fun v w' hv => hv _ hk)
end
end Go.Proofs.YthodcfdgahfniaaGreat
namespace Go.Proofs.YthodcfdgahfniaaGreat
open Go.RowKit
section
variable {P : Program} {a : Act} {w : World} {n : Nat} {l : List (Nat × Value)} {df : List Deferred}
  {dst : Option Nat} {ty : TypeId} {pos : String} {af : Array Edge} {g : Option (Nat × Bool)} {R : Value → World → Prop}
theorem g_ixV {x y : Operand} {t m e i : Nat} {us : List Value} {u : Value} {kk : IntKind} (hk : Kn df n a l) (h : R u w) (ht : P.underlying t = some (.array m e)) (he : szOf P e = some 1) (ha : aggOf P e = some false)
    (hi : i < m) (hu : us[i]? = some u) (hx : ev l x = some (.agg us.toArray) := by rfl) (hy : ev l y = some (.int kk (i : Int)) := by rfl) : Gives P ⟨dst, .index t x y, ty, pos, af, g⟩ a w R :=
  givesv (v := u) (by
    have hi0 : (0 : Int) ≤ (i : Int) ∧ (i : Int) < (m : Int) := ⟨by omega, by omega⟩
    simp [execOp, hk.eval hx, hk.eval hy, Instr.index, run_underlying ht, asIntOf, hi, szOf_run he, part, aggOf_run ha, hu]) h
theorem g_lenC {x : Operand} {t E m c : Nat} {ao : Option Addr} (hk : Kn df n a l) (h : R (.int .i64 m) w) (ht : elOf P t = some E) (hx : ev l x = some (.slice ao m c) := by rfl) :
    Gives P ⟨dst, .call { callee := .builtin .len, args := #[x], argTypes := #[t] }, ty, pos, af, g⟩ a w R := by
  refine givesv (v := .int .i64 m) ?_ h
  simp [execOp, resolve, invoke, builtin, hk.eval hx, Builtin.len_, run_underlying (elOf_und ht), goInt]
theorem g_inv {R' : Value → World → Prop} {x : Operand} {name : String} {xs : List Operand} {vs : List Value} {ts : Array TypeId} {T : TypeId} {v : Value} {f : FuncId} {args : Array Value} (hk : Kn df n a l)
    (hm : ∀ w, (callMethod (.iface T v) name vs.toArray).run P w = .ok (.enter f args) w) (hc : Calls P f args w (Ret R')) (h : ∀ v w', R' v w' → R v w') (hx : ev l x = some (.iface T v) := by rfl) (hxs : evs l xs = some vs := by rfl) :
    Gives P ⟨dst, .call { callee := .invoke x name, args := xs.toArray, argTypes := ts }, ty, pos, af, g⟩ a w R := by
  refine givesc ?_ hc h
  have e1 := evs_map hk hxs
  have e3 : (#[Value.iface T v] ++ vs.toArray : Array Value).extract 1 (#[Value.iface T v] ++ vs.toArray).size = vs.toArray := by
    apply Array.ext'
    simp
  have h1 : (resolve a.eval { callee := .invoke x name, args := xs.toArray, argTypes := ts } ty).run P w = .ok { target := .fn (.method name) #[], args := #[Value.iface T v] ++ vs.toArray } w := by
    simp [resolve, hk.eval hx, e1]
  have h2 : (invoke (.fn (.method name) #[]) (#[Value.iface T v] ++ vs.toArray)).run P w = .ok (.enter f args) w := by
    have e2 : (#[Value.iface T v] ++ vs.toArray : Array Value)[0]? = some (.iface T v) := by simp
    unfold invoke
    simp only [e2, e3]
    exact hm w
  have e4 : (#[Value.iface T v] ++ vs.toArray : Array Value) = (Value.iface T v :: vs).toArray := by apply Array.ext'; simp
  rw [e4] at h2
  simp [execOp, h1, h2]
theorem g_as1 {x : Operand} {xT T : TypeId} {v : Value} {fs : Array Field} (hk : Kn df n a l) (h : R v w) (hT : P.underlying T = some (.struct fs)) (hx : ev l x = some (.iface T v) := by rfl) :
    Gives P ⟨dst, .typeAssert x xT T false, ty, pos, af, g⟩ a w R :=
  givesv (v := v) (by simp [execOp, hk.eval hx, Instr.typeAssert, run_underlying hT]) h
end
end Go.Proofs.YthodcfdgahfniaaGreat
namespace Go.Proofs.YthodcfdgahfniaaGreat
open Go.RowKit
set_option maxRecDepth 100000
attribute [local irreducible] Go.Code.wpIn Go.wpListIn Go.Calls Gives Go.Exit.then Go.Exit.inBlock Done ObxE

abbrev TmC := Int × Int × Int × Int
def tmL : Wt → List TmC
  | .tm t d k => [(t, d, k, 0)]
  | _ => []
def tmM : Wt → List (Int × Value)
  | .tm t _ _ => [(t, .int .i64 0)]
  | _ => []
def q0L : Wt → List TmC
  | .q0 t k => [(t, 1, k, 0)]
  | _ => []
def q1L : Wt → List TmC
  | .q1 t k => [(t, 2, k, 0)]
  | _ => []
abbrev ptV (b : Nat) : Value := .pointer (some ⟨b, 0, none⟩)
abbrev wheelL (bw : Nat) (wl : Int) (x : Wt) (bp bm : Nat) (a : Option Addr) (c : Nat) : List HP :=
  [pts bw [.int .i64 9, .int .i64 wl, ptV bp] 92, pts bp [.slice a (tmL x).length c, .map (some bm)] 90, mapH encI (.map (some bm)) (tmM x), OwT 101 (tmL x) (.slice a (tmL x).length c)]
def wheelH (bw : Nat) (wl : Int) (x : Wt) : HP := bagH (fun y : Nat × Nat × Option Addr × Nat => wheelL bw wl x y.1 y.2.1 y.2.2.1 y.2.2.2) (fun _ => True)
abbrev queueL (bq : Nat) (ql : Int) (x : Wt) (a : Option Addr) (c : Nat) (a' : Option Addr) (c' : Nat) : List HP :=
  [pts bq [.int .i64 9, .int .i64 ql, .slice a (q0L x).length c, .slice a' (q1L x).length c'] 96, OwT 99 (q0L x) (.slice a (q0L x).length c), OwT 99 (q1L x) (.slice a' (q1L x).length c')]
def queueH (bq : Nat) (ql : Int) (x : Wt) : HP := bagH (fun y : Option Addr × Nat × Option Addr × Nat => queueL bq ql x y.1 y.2.1 y.2.2.1 y.2.2.2) (fun _ => True)
abbrev schedL (bs : Nat) (now wl ql : Int) (x : Wt) (bw bq : Nat) : List HP := [pts bs [.int .i64 now, .int .i64 9, ptV bw, ptV bq] 65, wheelH bw wl x, queueH bq ql x]
def schedH (bs : Nat) (now wl ql : Int) (x : Wt) : HP := bagH (fun y : Nat × Nat => schedL bs now wl ql x y.1 y.2) (fun _ => True)

section
variable {B : Bs} {w : World} {L L' : List HP}
theorem St.wheel {bw : Nat} {wl : Int} {x : Wt} (hS : St B L w) (hat : At (wheelH bw wl x) L L') : ∃ bp bm a c, St B (wheelL bw wl x bp bm a c ++ L') w := by
  obtain ⟨⟨bp, bm, a, c⟩, -, h⟩ := St.bag hS hat
  exact ⟨bp, bm, a, c, h⟩
theorem wheelH.of {bw : Nat} {wl : Int} {x : Wt} {bp bm : Nat} {a : Option Addr} {c : Nat} (hS : St B (wheelL bw wl x bp bm a c ++ L) w) : St B (wheelH bw wl x :: L) w :=
  bagH.of (A := fun y : Nat × Nat × Option Addr × Nat => wheelL bw wl x y.1 y.2.1 y.2.2.1 y.2.2.2) (x := (bp, bm, a, c)) hS trivial
theorem St.queue {bq : Nat} {ql : Int} {x : Wt} (hS : St B L w) (hat : At (queueH bq ql x) L L') : ∃ a c a' c', St B (queueL bq ql x a c a' c' ++ L') w := by
  obtain ⟨⟨a, c, a', c'⟩, -, h⟩ := St.bag hS hat
  exact ⟨a, c, a', c', h⟩
theorem queueH.of {bq : Nat} {ql : Int} {x : Wt} {a : Option Addr} {c : Nat} {a' : Option Addr} {c' : Nat} (hS : St B (queueL bq ql x a c a' c' ++ L) w) : St B (queueH bq ql x :: L) w :=
  bagH.of (A := fun y : Option Addr × Nat × Option Addr × Nat => queueL bq ql x y.1 y.2.1 y.2.2.1 y.2.2.2) (x := (a, c, a', c')) hS trivial
theorem St.sched {bs : Nat} {now wl ql : Int} {x : Wt} (hS : St B L w) (hat : At (schedH bs now wl ql x) L L') : ∃ bw bq, St B (schedL bs now wl ql x bw bq ++ L') w := by
  obtain ⟨⟨bw, bq⟩, -, h⟩ := St.bag hS hat
  exact ⟨bw, bq, h⟩
theorem schedH.of {bs : Nat} {now wl ql : Int} {x : Wt} {bw bq : Nat} (hS : St B (schedL bs now wl ql x bw bq ++ L) w) : St B (schedH bs now wl ql x :: L) w :=
  bagH.of (A := fun y : Nat × Nat => schedL bs now wl ql x y.1 y.2) (x := (bw, bq)) hS trivial
end
theorem wheelH.get {bw : Nat} {wl : Int} {x : Wt} {w : World} (h : (wheelH bw wl x).rd w) : ∃ bp bm a c, (pts bw [.int .i64 9, .int .i64 wl, ptV bp] 92).rd w ∧ (pts bp [.slice a (tmL x).length c, .map (some bm)] 90).rd w ∧ SlT (tmL x) (.slice a (tmL x).length c) w := by
  obtain ⟨⟨bp, bm, a, c⟩, -, F, h⟩ := bagH.rd h
  exact ⟨bp, bm, a, c, h.rd .here, h.rd (.there .here), OwT.rd (h.rd (.there (.there (.there .here))))⟩
theorem queueH.get {bq : Nat} {ql : Int} {x : Wt} {w : World} (h : (queueH bq ql x).rd w) : ∃ a c a' c', (pts bq [.int .i64 9, .int .i64 ql, .slice a (q0L x).length c, .slice a' (q1L x).length c'] 96).rd w := by
  obtain ⟨⟨a, c, a', c'⟩, -, F, h⟩ := bagH.rd h
  exact ⟨a, c, a', c', h.rd .here⟩
theorem schedH.get {bs : Nat} {now wl ql : Int} {x : Wt} {w : World} (h : (schedH bs now wl ql x).rd w) : ∃ bw bq, (pts bs [.int .i64 now, .int .i64 9, ptV bw, ptV bq] 65).rd w ∧ (wheelH bw wl x).rd w ∧ (queueH bq ql x).rd w := by
  obtain ⟨⟨bw, bq⟩, -, F, h⟩ := bagH.rd h
  exact ⟨bw, bq, h.rd .here, h.rd (.there .here), h.rd (.there (.there .here))⟩

theorem clip_any (x lo hi : Int) (w0 : World) : Calls Tryz.prog 16 #[.int .i64 x, .int .i64 lo, .int .i64 hi] w0 (Ret fun v w => v = .int .i64 (max lo (min x hi)) ∧ St w0 [] w) := by
  refine enter Tryz.func16 rfl Tryz.ntmps16 rfl (fun a hk => ?_); have hS := St.refl w0
  (repeat' (first | (show wpListIn _ _ _ _ _ (_ :: _) _ _; first | (refine wx1 ?_; clear hk a; intro a hk) | (refine wx2 ?_ ?_ <;> (intro hp; clear hk a; intro a hk)) | (refine wx3 ?_; clear hk hS a; intro w b hS a hk) | (refine wx4 ?_; clear hk hS a; intro w hS a hk) | (refine wx5 ?_; clear hk hS a; intro w v hS a hk) | fail) | refine wx0 ?_ | (refine s_end hk ?_; clear hk a; intro a hk) | fail))
  exact done1 hk (h := ⟨rfl, hS.nil⟩)
theorem later_any (now d : Int) (w0 : World) : Calls Tryz.prog 81 #[.int .i64 now, .int .i64 d] w0 (Ret fun v w => v = .int .i64 (laterP now d) ∧ St w0 [] w) := by
  refine enter Tryz.func81 rfl Tryz.ntmps81 rfl (fun a hk => ?_); have hS := St.refl w0
  (repeat' (first | (show wpListIn _ _ _ _ _ (_ :: _) _ _; first | (refine wx1 ?_; clear hk a; intro a hk) | (refine wx2 ?_ ?_ <;> (intro hp; clear hk a; intro a hk)) | (refine wx3 ?_; clear hk hS a; intro w b hS a hk) | (refine wx4 ?_; clear hk hS a; intro w hS a hk) | (refine wx5 ?_; clear hk hS a; intro w v hS a hk) | fail) | refine wx0 ?_ | (refine s_end hk ?_; clear hk a; intro a hk) | fail))
  refine sg hk (g_callO hk (hf := by kernel_rfl) (hc := clip_any now 0 1099511627776 _) (h := ?_)); clear hk a; rintro _ w ⟨rfl, hS1⟩ a hk; replace hS := hS.call0 hS1; clear hS1
  (repeat' (first | (show wpListIn _ _ _ _ _ (_ :: _) _ _; first | (refine wx1 ?_; clear hk a; intro a hk) | (refine wx2 ?_ ?_ <;> (intro hp; clear hk a; intro a hk)) | (refine wx3 ?_; clear hk hS a; intro w b hS a hk) | (refine wx4 ?_; clear hk hS a; intro w hS a hk) | (refine wx5 ?_; clear hk hS a; intro w v hS a hk) | fail) | refine wx0 ?_ | (refine s_end hk ?_; clear hk a; intro a hk) | fail))
  refine sg hk (g_callO hk (hf := by kernel_rfl) (hc := clip_any d 0 1099511627776 _) (h := ?_)); clear hk a; rintro _ w ⟨rfl, hS1⟩ a hk; replace hS := hS.call0 hS1; clear hS1
  (repeat' (first | (show wpListIn _ _ _ _ _ (_ :: _) _ _; first | (refine wx1 ?_; clear hk a; intro a hk) | (refine wx2 ?_ ?_ <;> (intro hp; clear hk a; intro a hk)) | (refine wx3 ?_; clear hk hS a; intro w b hS a hk) | (refine wx4 ?_; clear hk hS a; intro w hS a hk) | (refine wx5 ?_; clear hk hS a; intro w v hS a hk) | fail) | refine wx0 ?_ | (refine s_end hk ?_; clear hk a; intro a hk) | fail))
  exact done1 hk (h := ⟨rfl, hS.nil⟩)
theorem plen_any (bp bm : Nat) (l : List TmC) (a : Option Addr) (c : Nat) (w0 : World) (h1 : (pts bp [.slice a l.length c, .map (some bm)] 90).rd w0) (h2 : SlT l (.slice a l.length c) w0) :
    Calls Tryz.prog 65 #[ptV bp] w0 (Ret fun v w => v = .int .i64 l.length ∧ St w0 [] w) := by
  refine enter Tryz.func65 rfl Tryz.ntmps65 rfl (fun a hk => ?_); have hS := St.refl w0
  (repeat' (first | (show wpListIn _ _ _ _ _ (_ :: _) _ _; first | (refine wx1 ?_; clear hk a; intro a hk) | (refine wx2 ?_ ?_ <;> (intro hp; clear hk a; intro a hk)) | (refine wx3 ?_; clear hk hS a; intro w b hS a hk) | (refine wx4 ?_; clear hk hS a; intro w hS a hk) | (refine wx5 ?_; clear hk hS a; intro w v hS a hk) | fail) | refine wx0 ?_ | (refine s_end hk ?_; clear hk a; intro a hk) | fail))
  exact done1 hk (h := ⟨rfl, hS.nil⟩)
theorem wlenP_any {bw bp bm : Nat} {wl : Int} {l : List TmC} {ao : Option Addr} {c : Nat} (w0 : World) (h1 : (pts bw [.int .i64 9, .int .i64 wl, ptV bp] 92).rd w0) (h2 : (pts bp [.slice ao l.length c, .map (some bm)] 90).rd w0) (h3 : SlT l (.slice ao l.length c) w0) :
    Calls Tryz.prog 39 #[ptV bw] w0 (Ret fun v w => v = .int .i64 l.length ∧ St w0 [] w) := by
  refine enter Tryz.func39 rfl Tryz.ntmps39 rfl (fun a hk => ?_); have hS := St.refl w0
  (repeat' (first | (show wpListIn _ _ _ _ _ (_ :: _) _ _; first | (refine wx1 ?_; clear hk a; intro a hk) | (refine wx2 ?_ ?_ <;> (intro hp; clear hk a; intro a hk)) | (refine wx3 ?_; clear hk hS a; intro w b hS a hk) | (refine wx4 ?_; clear hk hS a; intro w hS a hk) | (refine wx5 ?_; clear hk hS a; intro w v hS a hk) | fail) | refine wx0 ?_ | (refine s_end hk ?_; clear hk a; intro a hk) | fail))
  refine sg hk (g_callO hk (hf := by kernel_rfl) (hc := plen_any bp bm l ao c _ (St.base hS h2) (hS.rdT h3)) (h := ?_)); clear hk a; rintro _ w ⟨rfl, hS1⟩ a hk; replace hS := hS.call0 hS1; clear hS1
  (repeat' (first | (show wpListIn _ _ _ _ _ (_ :: _) _ _; first | (refine wx1 ?_; clear hk a; intro a hk) | (refine wx2 ?_ ?_ <;> (intro hp; clear hk a; intro a hk)) | (refine wx3 ?_; clear hk hS a; intro w b hS a hk) | (refine wx4 ?_; clear hk hS a; intro w hS a hk) | (refine wx5 ?_; clear hk hS a; intro w v hS a hk) | fail) | refine wx0 ?_ | (refine s_end hk ?_; clear hk a; intro a hk) | fail))
  exact done1 hk (h := ⟨rfl, hS.nil⟩)
theorem wlen_any {bw : Nat} {wl : Int} {x : Wt} (w0 : World) (h : (wheelH bw wl x).rd w0) :
    Calls Tryz.prog 39 #[ptV bw] w0 (Ret fun v w => v = .int .i64 (tmL x).length ∧ St w0 [] w) := by
  obtain ⟨bp, bm, ao, c, h1, h2, h3⟩ := wheelH.get h
  exact wlenP_any w0 h1 h2 h3
theorem qlenP_any {bq : Nat} {ql : Int} {a0 a1 : Option Addr} {n0 n1 c0 c1 : Nat} (w0 : World) (hq0 : n0 ≤ 1000) (hq1 : n1 ≤ 1000) (h1 : (pts bq [.int .i64 9, .int .i64 ql, .slice a0 n0 c0, .slice a1 n1 c1] 96).rd w0) :
    Calls Tryz.prog 40 #[ptV bq] w0 (Ret fun v w => v = .int .i64 ((n0 : Int) + (n1 : Int)) ∧ St w0 [] w) := by
  refine enter Tryz.func40 rfl Tryz.ntmps40 rfl (fun a hk => ?_); have hS := St.refl w0
  (repeat' (first | (show wpListIn _ _ _ _ _ (_ :: _) _ _; first | (refine wx1 ?_; clear hk a; intro a hk) | (refine wx2 ?_ ?_ <;> (intro hp; clear hk a; intro a hk)) | (refine wx3 ?_; clear hk hS a; intro w b hS a hk) | (refine wx4 ?_; clear hk hS a; intro w hS a hk) | (refine wx5 ?_; clear hk hS a; intro w v hS a hk) | fail) | refine wx0 ?_ | (refine s_end hk ?_; clear hk a; intro a hk) | fail))
  replace hk := Kn.kp [3, 9, 10] hk
  refine wp_for 2 (fun i s => [(3, .int .i64 s), (10, .int .i64 (i : Int))]) (fun _ _ => []) (fun i s => (i = 0 → s = 0) ∧ (i = 1 → s = (n0 : Int)) ∧ (i = 2 → s = (n0 : Int) + (n1 : Int))) (0 : Int) hk (by repeat (first | exact trivial | refine ⟨rfl, ?_⟩)) hS ⟨fun _ => rfl, fun h => by omega, fun h => by omega⟩ ?_
  clear hk hS a
  rintro i s a w hi hk hS ⟨f0, f1, f2⟩
  by_cases i0 : i = 0
  · subst i0
    have f0 := f0 rfl
    subst f0
    (repeat' (first | (show wpListIn _ _ _ _ _ (_ :: _) _ _; first | (refine wx1 ?_; clear hk a; intro a hk) | (refine wx2 ?_ ?_ <;> (intro hp; clear hk a; intro a hk)) | (refine wx3 ?_; clear hk hS a; intro w b hS a hk) | (refine wx4 ?_; clear hk hS a; intro w hS a hk) | (refine wx5 ?_; clear hk hS a; intro w v hS a hk) | fail) | refine wx0 ?_ | (refine s_end hk ?_; clear hk a; intro a hk) | fail))
    refine sg hk (g_ixV (i := 0) hk ?_ (arT rfl) (zT rfl) (aT rfl) (by omega) rfl); clear hk a; intro a hk
    (repeat' (first | (show wpListIn _ _ _ _ _ (_ :: _) _ _; first | (refine wx1 ?_; clear hk a; intro a hk) | (refine wx2 ?_ ?_ <;> (intro hp; clear hk a; intro a hk)) | (refine wx3 ?_; clear hk hS a; intro w b hS a hk) | (refine wx4 ?_; clear hk hS a; intro w hS a hk) | (refine wx5 ?_; clear hk hS a; intro w v hS a hk) | fail) | refine wx0 ?_ | (refine s_end hk ?_; clear hk a; intro a hk) | fail))
    refine sg hk (g_lenC hk ?_ (eT rfl)); clear hk a; intro a hk
    (repeat' (first | (show wpListIn _ _ _ _ _ (_ :: _) _ _; first | (refine wx1 ?_; clear hk a; intro a hk) | (refine wx2 ?_ ?_ <;> (intro hp; clear hk a; intro a hk)) | (refine wx3 ?_; clear hk hS a; intro w b hS a hk) | (refine wx4 ?_; clear hk hS a; intro w hS a hk) | (refine wx5 ?_; clear hk hS a; intro w v hS a hk) | fail) | refine wx0 ?_ | (refine s_end hk ?_; clear hk a; intro a hk) | fail))
    exact ⟨by omega, _, hk.sd, hS.sb, fun h => by omega, fun _ => by omega, fun h => by omega⟩
  · by_cases i1 : i = 1
    · subst i1
      have f1 := f1 rfl
      subst f1
      (repeat' (first | (show wpListIn _ _ _ _ _ (_ :: _) _ _; first | (refine wx1 ?_; clear hk a; intro a hk) | (refine wx2 ?_ ?_ <;> (intro hp; clear hk a; intro a hk)) | (refine wx3 ?_; clear hk hS a; intro w b hS a hk) | (refine wx4 ?_; clear hk hS a; intro w hS a hk) | (refine wx5 ?_; clear hk hS a; intro w v hS a hk) | fail) | refine wx0 ?_ | (refine s_end hk ?_; clear hk a; intro a hk) | fail))
      refine sg hk (g_ixV (i := 1) hk ?_ (arT rfl) (zT rfl) (aT rfl) (by omega) rfl); clear hk a; intro a hk
      (repeat' (first | (show wpListIn _ _ _ _ _ (_ :: _) _ _; first | (refine wx1 ?_; clear hk a; intro a hk) | (refine wx2 ?_ ?_ <;> (intro hp; clear hk a; intro a hk)) | (refine wx3 ?_; clear hk hS a; intro w b hS a hk) | (refine wx4 ?_; clear hk hS a; intro w hS a hk) | (refine wx5 ?_; clear hk hS a; intro w v hS a hk) | fail) | refine wx0 ?_ | (refine s_end hk ?_; clear hk a; intro a hk) | fail))
      refine sg hk (g_lenC hk ?_ (eT rfl)); clear hk a; intro a hk
      (repeat' (first | (show wpListIn _ _ _ _ _ (_ :: _) _ _; first | (refine wx1 ?_; clear hk a; intro a hk) | (refine wx2 ?_ ?_ <;> (intro hp; clear hk a; intro a hk)) | (refine wx3 ?_; clear hk hS a; intro w b hS a hk) | (refine wx4 ?_; clear hk hS a; intro w hS a hk) | (refine wx5 ?_; clear hk hS a; intro w v hS a hk) | fail) | refine wx0 ?_ | (refine s_end hk ?_; clear hk a; intro a hk) | fail))
      exact ⟨by omega, _, hk.sd, hS.sb, fun h => by omega, fun h => by omega, fun _ => by omega⟩
    · have : i = 2 := by omega
      subst this
      have f2 := f2 rfl
      subst f2
      (repeat' (first | (show wpListIn _ _ _ _ _ (_ :: _) _ _; first | (refine wx1 ?_; clear hk a; intro a hk) | (refine wx2 ?_ ?_ <;> (intro hp; clear hk a; intro a hk)) | (refine wx3 ?_; clear hk hS a; intro w b hS a hk) | (refine wx4 ?_; clear hk hS a; intro w hS a hk) | (refine wx5 ?_; clear hk hS a; intro w v hS a hk) | fail) | refine wx0 ?_ | (refine s_end hk ?_; clear hk a; intro a hk) | fail))
      exact done1 hk (h := ⟨rfl, hS.nil⟩)
theorem qlen_any {bq : Nat} {ql : Int} {x : Wt} (w0 : World) (h : (queueH bq ql x).rd w0) :
    Calls Tryz.prog 40 #[ptV bq] w0 (Ret fun v w => v = .int .i64 (((q0L x).length : Int) + ((q1L x).length : Int)) ∧ St w0 [] w) := by
  obtain ⟨ao, c, ao', c', h1⟩ := queueH.get h
  exact qlenP_any w0 (by cases x <;> simp [q0L]) (by cases x <;> simp [q1L]) h1
theorem cnt_len (x : Wt) : ((tmL x).length : Int) + (((q0L x).length : Int) + ((q1L x).length : Int)) = cntW x := by cases x <;> rfl
theorem slenP_any {bs bw bq : Nat} {now wl ql : Int} {x : Wt} (w0 : World) (h1 : (pts bs [.int .i64 now, .int .i64 9, ptV bw, ptV bq] 65).rd w0) (h2 : (wheelH bw wl x).rd w0) (h3 : (queueH bq ql x).rd w0) :
    Calls Tryz.prog 13 #[ptV bs] w0 (Ret fun v w => v = .int .i64 (cntW x) ∧ St w0 [] w) := by
  have hq0 : (tmL x).length ≤ 1 := by cases x <;> simp [tmL]
  have hq1 : (q0L x).length + (q1L x).length ≤ 1 := by cases x <;> simp [q0L, q1L]
  refine enter Tryz.func13 rfl Tryz.ntmps13 rfl (fun a hk => ?_); have hS := St.refl w0
  (repeat' (first | (show wpListIn _ _ _ _ _ (_ :: _) _ _; first | (refine wx1 ?_; clear hk a; intro a hk) | (refine wx2 ?_ ?_ <;> (intro hp; clear hk a; intro a hk)) | (refine wx3 ?_; clear hk hS a; intro w b hS a hk) | (refine wx4 ?_; clear hk hS a; intro w hS a hk) | (refine wx5 ?_; clear hk hS a; intro w v hS a hk) | fail) | refine wx0 ?_ | (refine s_end hk ?_; clear hk a; intro a hk) | fail))
  refine wp_drawn 10 mixed (by kernel_rfl) hk hS ?_; clear hk hS a
  (repeat' (first | (show ObxE _ _ _ _ _ _ _ _ _ (_ :: _) _ _ _; first | refine ox1 ?_ | (refine ox2 ?_ ?_ <;> intro hp) | fail) | fail))
  refine' obe_val (fun us a w hk hd hS => ?_) ?_; rotate_left; focus (have hk := Kn.vw hk (by repeat (first | exact VW.nil | apply VW.val rfl | apply VW.base rfl rfl | apply VW.res rfl | apply VW.upd rfl | apply VW.cpy rfl | apply VW.dep rfl | apply VW.fn rfl | apply VW.lnd rfl | apply VW.tak rfl)); exact g_callO hk (hf := by kernel_rfl) (hc := wlen_any (wl := wl) (x := x) _ (h2.mono hS.below)) (h := fun _ _ h => h))
  (repeat' (first | (show ObxE _ _ _ _ _ _ _ _ _ (_ :: _) _ _ _; first | refine ox1 ?_ | (refine ox2 ?_ ?_ <;> intro hp) | fail) | fail))
  refine' obe_val (fun us a w hk hd hS => ?_) ?_; rotate_left; focus (have hk := Kn.vw hk (by repeat (first | exact VW.nil | apply VW.val rfl | apply VW.base rfl rfl | apply VW.res rfl | apply VW.upd rfl | apply VW.cpy rfl | apply VW.dep rfl | apply VW.fn rfl | apply VW.lnd rfl | apply VW.tak rfl)); exact g_callO hk (hf := by kernel_rfl) (hc := qlen_any (ql := ql) (x := x) _ (h3.mono hS.below)) (h := fun _ _ h => h))
  refine obe_nil ⟨rfl, ?_⟩; intro us a w hk hS
  have hc := cnt_len x
  (repeat' (first | (show wpListIn _ _ _ _ _ (_ :: _) _ _; first | (refine wx1 ?_; clear hk a; intro a hk) | (refine wx2 ?_ ?_ <;> (intro hp; clear hk a; intro a hk)) | (refine wx3 ?_; clear hk hS a; intro w b hS a hk) | (refine wx4 ?_; clear hk hS a; intro w hS a hk) | (refine wx5 ?_; clear hk hS a; intro w v hS a hk) | fail) | refine wx0 ?_ | (refine s_end hk ?_; clear hk a; intro a hk) | fail))
  rw [hc] at hk
  exact done1 hk (h := ⟨rfl, hS.nil⟩)
theorem slen_any {bs : Nat} {now wl ql : Int} {x : Wt} (w0 : World) (h : (schedH bs now wl ql x).rd w0) :
    Calls Tryz.prog 13 #[ptV bs] w0 (Ret fun v w => v = .int .i64 (cntW x) ∧ St w0 [] w) := by
  obtain ⟨bw, bq, h1, h2, h3⟩ := schedH.get h
  exact slenP_any w0 h1 h2 h3
theorem now_any {bs : Nat} {now wl ql : Int} {x : Wt} (w0 : World) (h : (schedH bs now wl ql x).rd w0) :
    Calls Tryz.prog 25 #[ptV bs] w0 (Ret fun v w => v = .int .i64 now ∧ St w0 [] w) := by
  obtain ⟨bw, bq, h1, h2, h3⟩ := schedH.get h
  refine enter Tryz.func25 rfl Tryz.ntmps25 rfl (fun a hk => ?_); have hS := St.refl w0
  (repeat' (first | (show wpListIn _ _ _ _ _ (_ :: _) _ _; first | (refine wx1 ?_; clear hk a; intro a hk) | (refine wx2 ?_ ?_ <;> (intro hp; clear hk a; intro a hk)) | (refine wx3 ?_; clear hk hS a; intro w b hS a hk) | (refine wx4 ?_; clear hk hS a; intro w hS a hk) | (refine wx5 ?_; clear hk hS a; intro w v hS a hk) | fail) | refine wx0 ?_ | (refine s_end hk ?_; clear hk a; intro a hk) | fail))
  exact done1 hk (h := ⟨rfl, hS.nil⟩)
theorem clip9 : max (1 : Int) (min 9 65536) = 9 := by decide
theorem newW_any (w0 : World) : Calls Tryz.prog 17 #[.int .i64 9] w0 (Ret fun v w => ∃ bw, v = ptV bw ∧ St w0 [wheelH bw 0 .no] w) := by
  refine enter Tryz.func17 rfl Tryz.ntmps17 rfl (fun a hk => ?_); have hS := St.refl w0
  (repeat' (first | (show wpListIn _ _ _ _ _ (_ :: _) _ _; first | (refine wx1 ?_; clear hk a; intro a hk) | (refine wx2 ?_ ?_ <;> (intro hp; clear hk a; intro a hk)) | (refine wx3 ?_; clear hk hS a; intro w b hS a hk) | (refine wx4 ?_; clear hk hS a; intro w hS a hk) | (refine wx5 ?_; clear hk hS a; intro w v hS a hk) | fail) | refine wx0 ?_ | (refine s_end hk ?_; clear hk a; intro a hk) | fail))
  refine sg hk (g_callO hk (hf := by kernel_rfl) (hc := clip_any 9 1 65536 _) (h := ?_)); clear hk a; rintro _ w ⟨rfl, hS1⟩ a hk; replace hS := hS.call0 hS1; clear hS1
  rw [clip9] at hk
  (repeat' (first | (show wpListIn _ _ _ _ _ (_ :: _) _ _; first | (refine wx1 ?_; clear hk a; intro a hk) | (refine wx2 ?_ ?_ <;> (intro hp; clear hk a; intro a hk)) | (refine wx3 ?_; clear hk hS a; intro w b hS a hk) | (refine wx4 ?_; clear hk hS a; intro w hS a hk) | (refine wx5 ?_; clear hk hS a; intro w v hS a hk) | fail) | refine wx0 ?_ | (refine s_end hk ?_; clear hk a; intro a hk) | fail))
  refine sg hk (g_makeMap encI hS ?_); clear hk hS a; intro w mv hS a hk
  obtain ⟨bm, rfl⟩ := mapH.shape (hS.rd (A := mapH encI mv ([] : List (Int × Value))) (by (repeat (first | exact At.here | apply At.there))))
  (repeat' (first | (show wpListIn _ _ _ _ _ (_ :: _) _ _; first | (refine wx1 ?_; clear hk a; intro a hk) | (refine wx2 ?_ ?_ <;> (intro hp; clear hk a; intro a hk)) | (refine wx3 ?_; clear hk hS a; intro w b hS a hk) | (refine wx4 ?_; clear hk hS a; intro w hS a hk) | (refine wx5 ?_; clear hk hS a; intro w v hS a hk) | fail) | refine wx0 ?_ | (refine s_end hk ?_; clear hk a; intro a hk) | fail))
  refine done1 hk (h := ⟨_, rfl, wheelH.of (bp := ?_) (bm := bm) (a := none) (c := 0) (L := []) ?_⟩)
  rotate_left
  · exact (hS.nilT 101 TmC).sub (by (repeat (first | exact Sub.nil | exact Sub.refl | refine Sub.cons (by (repeat (first | exact At.here | apply At.there))) ?_)))
theorem newQ_any (w0 : World) : Calls Tryz.prog 18 #[.int .i64 9] w0 (Ret fun v w => ∃ bq, v = ptV bq ∧ St w0 [queueH bq 0 .no] w) := by
  refine enter Tryz.func18 rfl Tryz.ntmps18 rfl (fun a hk => ?_); have hS := St.refl w0
  (repeat' (first | (show wpListIn _ _ _ _ _ (_ :: _) _ _; first | (refine wx1 ?_; clear hk a; intro a hk) | (refine wx2 ?_ ?_ <;> (intro hp; clear hk a; intro a hk)) | (refine wx3 ?_; clear hk hS a; intro w b hS a hk) | (refine wx4 ?_; clear hk hS a; intro w hS a hk) | (refine wx5 ?_; clear hk hS a; intro w v hS a hk) | fail) | refine wx0 ?_ | (refine s_end hk ?_; clear hk a; intro a hk) | fail))
  refine sg hk (g_callO hk (hf := by kernel_rfl) (hc := clip_any 9 1 65536 _) (h := ?_)); clear hk a; rintro _ w ⟨rfl, hS1⟩ a hk; replace hS := hS.call0 hS1; clear hS1
  rw [clip9] at hk
  (repeat' (first | (show wpListIn _ _ _ _ _ (_ :: _) _ _; first | (refine wx1 ?_; clear hk a; intro a hk) | (refine wx2 ?_ ?_ <;> (intro hp; clear hk a; intro a hk)) | (refine wx3 ?_; clear hk hS a; intro w b hS a hk) | (refine wx4 ?_; clear hk hS a; intro w hS a hk) | (refine wx5 ?_; clear hk hS a; intro w v hS a hk) | fail) | refine wx0 ?_ | (refine s_end hk ?_; clear hk a; intro a hk) | fail))
  exact done1 hk (h := ⟨_, rfl, queueH.of (a := none) (c := 0) (a' := none) (c' := 0) (L := []) (((hS.nilT 99 TmC).nilT 99 TmC).sub (by (repeat (first | exact Sub.nil | exact Sub.refl | refine Sub.cons (by (repeat (first | exact At.here | apply At.there))) ?_))))⟩)
theorem newS_any (w0 : World) : Calls Tryz.prog 5 #[.int .i64 9] w0 (Ret fun v w => ∃ bs, v = ptV bs ∧ St w0 [schedH bs 0 0 0 .no] w) := by
  refine enter Tryz.func5 rfl Tryz.ntmps5 rfl (fun a hk => ?_); have hS := St.refl w0
  (repeat' (first | (show wpListIn _ _ _ _ _ (_ :: _) _ _; first | (refine wx1 ?_; clear hk a; intro a hk) | (refine wx2 ?_ ?_ <;> (intro hp; clear hk a; intro a hk)) | (refine wx3 ?_; clear hk hS a; intro w b hS a hk) | (refine wx4 ?_; clear hk hS a; intro w hS a hk) | (refine wx5 ?_; clear hk hS a; intro w v hS a hk) | fail) | refine wx0 ?_ | (refine s_end hk ?_; clear hk a; intro a hk) | fail))
  refine sg hk (g_callO hk (hf := by kernel_rfl) (hc := clip_any 9 1 65536 _) (h := ?_)); clear hk a; rintro _ w ⟨rfl, hS1⟩ a hk; replace hS := hS.call0 hS1; clear hS1
  rw [clip9] at hk
  (repeat' (first | (show wpListIn _ _ _ _ _ (_ :: _) _ _; first | (refine wx1 ?_; clear hk a; intro a hk) | (refine wx2 ?_ ?_ <;> (intro hp; clear hk a; intro a hk)) | (refine wx3 ?_; clear hk hS a; intro w b hS a hk) | (refine wx4 ?_; clear hk hS a; intro w hS a hk) | (refine wx5 ?_; clear hk hS a; intro w v hS a hk) | fail) | refine wx0 ?_ | (refine s_end hk ?_; clear hk a; intro a hk) | fail))
  refine sg hk (g_callO hk (hf := by kernel_rfl) (hc := newW_any _) (h := ?_)); clear hk a; rintro vw w ⟨bw, rfl, hS1⟩ a hk; replace hS := hS.call hS1; clear hS1
  rw [List.cons_append, List.nil_append] at hS
  (repeat' (first | (show wpListIn _ _ _ _ _ (_ :: _) _ _; first | (refine wx1 ?_; clear hk a; intro a hk) | (refine wx2 ?_ ?_ <;> (intro hp; clear hk a; intro a hk)) | (refine wx3 ?_; clear hk hS a; intro w b hS a hk) | (refine wx4 ?_; clear hk hS a; intro w hS a hk) | (refine wx5 ?_; clear hk hS a; intro w v hS a hk) | fail) | refine wx0 ?_ | (refine s_end hk ?_; clear hk a; intro a hk) | fail))
  refine sg hk (g_callO hk (hf := by kernel_rfl) (hc := newQ_any _) (h := ?_)); clear hk a; rintro vq w ⟨bq, rfl, hS1⟩ a hk; replace hS := hS.call hS1; clear hS1
  rw [List.cons_append, List.nil_append] at hS
  (repeat' (first | (show wpListIn _ _ _ _ _ (_ :: _) _ _; first | (refine wx1 ?_; clear hk a; intro a hk) | (refine wx2 ?_ ?_ <;> (intro hp; clear hk a; intro a hk)) | (refine wx3 ?_; clear hk hS a; intro w b hS a hk) | (refine wx4 ?_; clear hk hS a; intro w hS a hk) | (refine wx5 ?_; clear hk hS a; intro w v hS a hk) | fail) | refine wx0 ?_ | (refine s_end hk ?_; clear hk a; intro a hk) | fail))
  exact done1 hk (h := ⟨_, rfl, schedH.of (bw := bw) (bq := bq) (L := []) (hS.sub (by (repeat (first | exact Sub.nil | exact Sub.refl | refine Sub.cons (by (repeat (first | exact At.here | apply At.there))) ?_))))⟩)
end Go.Proofs.YthodcfdgahfniaaGreat
namespace Go.Proofs.YthodcfdgahfniaaGreat
open Go.RowKit
section
variable {P : Program} {a : Act} {w : World} {n : Nat} {l : List (Nat × Value)} {df : List Deferred}
  {dst : Option Nat} {ty : TypeId} {pos : String} {af : Array Edge} {g : Option (Nat × Bool)} {R : Value → World → Prop}
theorem heap_same {w : World} {b : Nat} {o : Obj} (h : w.heap[b]? = some o) : { w with heap := w.heap.setIfInBounds b o } = w := by
  have : w.heap.setIfInBounds b o = w.heap := by
    apply Array.ext_getElem?
    intro i
    by_cases hi : b = i
    · subst hi
      have hlt : b < w.heap.size := by
        rcases Nat.lt_or_ge b w.heap.size with h' | h'
        · exact h'
        · rw [Array.getElem?_eq_none h'] at h; cases h
      rw [Array.getElem?_setIfInBounds_self_of_lt hlt, h]
    · rw [Array.getElem?_setIfInBounds_ne hi]
  rw [this]
theorem setCell_same {w : World} {b o : Nat} {v : Value} {cur : Array Value} {E : TypeId} {fz : Nat × Nat} (hb : w.heap[b]? = some (.cells cur E fz)) (hc : cur[o]? = some v) : w.setCell ⟨b, o, none⟩ v = w := by
  have hs : cur.setIfInBounds o v = cur := by
    apply Array.ext_getElem?
    intro i
    by_cases hi : o = i
    · subst hi
      have hlt : o < cur.size := by
        rcases Nat.lt_or_ge o cur.size with h' | h'
        · exact h'
        · rw [Array.getElem?_eq_none h'] at hc; cases hc
      rw [Array.getElem?_setIfInBounds_self_of_lt hlt, hc]
    · rw [Array.getElem?_setIfInBounds_ne hi]
  have : w.heap.modify b (fun x => match x with
      | .cells c elem frozen => .cells (if (none : Option Nat).isSome then c else c.setIfInBounds o v) elem frozen
      | o => o) = w.heap := by
    apply Array.ext_getElem?
    intro i
    rw [Array.getElem?_modify]
    by_cases hi : b = i
    · subst hi
      rw [if_pos rfl, hb]
      simp [hs]
    · rw [if_neg hi]
  unfold World.setCell
  exact congrArg (fun h => { w with heap := h }) this
theorem run_storeSame {b : Nat} {cur : Array Value} {E : TypeId} {w : World} (hb : w.heap[b]? = some (.cells cur E (0, 0))) : ∀ (us : List Value) (o i : Nat), (∀ u ∈ us, u.oneCell' = true) → (∀ j u, us[j]? = some u → cur[o + i + j]? = some u) →
    (storeCells ⟨b, o, none⟩ us i).run P w = .ok () w
  | [], _, _, _, _ => rfl
  | u :: us, o, i, h1, h2 => by
    have hc0 : cur[o + i]? = some u := h2 0 u rfl
    have hc : w.cell? ⟨b, o + i, none⟩ = some u := by rw [cell_of_row w b (o + i) _ E _ hb]; exact hc0
    have hf : w.frozen? ⟨b, o + i, none⟩ = false := frozen_of_row w b (o + i) _ E hb
    have hst : (store ⟨b, o + i, none⟩ u).run P w = .ok () w := by
      rw [run_store P w _ u .plain (h1 u (by simp)), hc]
      simp [hf, setCell_same hb hc0]
    unfold storeCells
    simp only [Sem.run_bind, addr_add, hst, Result.andThen_ok]
    exact run_storeSame hb us o (i + 1) (fun x hx => h1 x (by simp [hx])) (fun j x hx => by rw [show o + (i + 1) + j = o + i + (j + 1) by omega]; exact h2 (j + 1) x hx)
theorem g_stS1 {α : Type} [Enc α] {x y : Operand} {T E : TypeId} {v u : Value} {i : Nat} {xs : List α} {z : α} (hk : Kn df n a l) (hO : (OwT E xs v).rd w) (h : R undef w)
    (hsz : szOf P T = some (Enc.k α + 1)) (hi : xs[i]? = some z) (hx : ev l x = some (.pointer (some ⟨blk v, offs v + i * (Enc.k α + 1), none⟩)) := by rfl) (hy : ev l y = some u := by rfl) (hu : u.cells.toList = Enc.f z := by rfl) :
    Gives P ⟨dst, .store T x y, ty, pos, af, g⟩ a w R := by
  obtain ⟨hil, hze⟩ := List.getElem?_eq_some_iff.1 hi
  obtain ⟨F0, h1, _, h3, _⟩ := hO
  rcases h3 with ⟨_, h0⟩ | ⟨b, off, cap, cur, rfl, hF, hF', hb, hn, hc, hs, hcell⟩
  · omega
  · have hv : u.cells = (Enc.f z).toArray := by rw [← hu]
    have hr := run_storeSame (P := P) hb (Enc.f z) (off + i * (Enc.k α + 1)) 0 (Enc.one z) (fun j x hj => by
      have hjl : j < Enc.k α + 1 := by rw [← Enc.len z]; exact lt_of_get hj
      rw [Nat.add_zero, Nat.add_assoc]
      refine hcell _ x ?_
      have := enc_get xs i hil
      rw [hze] at this
      rw [← this, List.getElem?_take, if_pos hjl, List.getElem?_drop] at hj
      exact hj)
    refine givesu (w' := w) ?_ h
    have e : (⟨blk (Value.slice (some ⟨b, off, none⟩) xs.length cap), offs (Value.slice (some ⟨b, off, none⟩) xs.length cap) + i * (Enc.k α + 1), none⟩ : Addr) = ⟨b, off + i * (Enc.k α + 1), none⟩ := rfl
    rw [e] at hx
    simp [execOp, hk.eval hx, hk.eval hy, Instr.storeAt, Instr.sureAddr, storeVar, szOf_run hsz, hv, hr, Enc.len]
end
section
variable {κ : Type}
def map1 (enc : κ → Value) (v : Value) (k : κ) (u : Value) (s : Nat) : HP where
  holds F w := ∃ b c, v = .map (some b) ∧ F b ∧ (∀ c, F c → c = b) ∧ w.heap[b]? = some (.map #[⟨enc k, u, s⟩] c)
  stable := fun F w w' ⟨b, c, h1, h2, h3, h4⟩ h => ⟨b, c, h1, h2, h3, by rw [h b h2]; exact h4⟩
  dom := fun F w x ⟨b, c, h1, h2, h3, h4⟩ hx => by
    rw [h3 x hx]
    rcases Nat.lt_or_ge b w.heap.size with h' | h'
    · exact h'
    · rw [Array.getElem?_eq_none h'] at h4; cases h4
variable {P : Program} {a : Act} {w : World} {B : Bs} {n : Nat} {l : List (Nat × Value)} {L L' : List HP} {df : List Deferred}
  {dst : Option Nat} {R : Value → World → Prop} {ty : TypeId} {pos : String} {af : Array Edge} {g : Option (Nat × Bool)} {enc : κ → Value} {K E T : TypeId} {k : κ} {u v : Value} {s : Nat}
theorem one_entry {es : Array MapEntry} {y u : Value} (he : es.toList.map (fun e => (e.key, e.val)) = [(y, u)]) : ∃ s, es = #[⟨y, u, s⟩] := by
  obtain ⟨es⟩ := es
  match es, he with
  | [⟨y', u', s⟩], he =>
    simp only [List.map_cons, List.map_nil, List.cons.injEq, Prod.mk.injEq, and_true] at he
    obtain ⟨rfl, rfl⟩ := he
    exact ⟨s, rfl⟩
theorem St.map1 (hS : St B L w) (hat : At (mapH enc v [(k, u)]) L L') : ∃ s, St B (Proofs.YthodcfdgahfniaaGreat.map1 enc v k u s :: L') w := by
  obtain ⟨_, b, es, c, rfl, _, _, hb, he, _⟩ := hS.rd hat
  obtain ⟨s, rfl⟩ := one_entry he
  refine ⟨s, hS.conv (As := [_]) hat (fun F hF => ⟨F, fun _ h => h, Sep.one ?_⟩)⟩
  obtain ⟨b', es', c', h1, h2, h3, h4, h5, _⟩ := hF
  injection h1 with h1
  injection h1 with h1
  subst h1
  exact ⟨b, c, rfl, h2, h3, hb⟩
theorem map1.map (hS : St B L w) (hat : At (Proofs.YthodcfdgahfniaaGreat.map1 enc v k u s) L L') : St B (mapH enc v [(k, u)] :: L') w :=
  hS.conv (As := [_]) hat (fun F ⟨b, c, h1, h2, h3, h4⟩ => ⟨F, fun _ h => h, Sep.one ⟨b, _, c, h1, h2, h3, h4, rfl, by simp⟩⟩)
theorem g_mapEntry1 [DecidableEq κ] {x y : Operand} (hk : Kn df n a l) (hm : (Proofs.YthodcfdgahfniaaGreat.map1 enc v k u s).rd w) (h : R (.tuple #[u, .int .i64 (s : Int)]) w) (hT : mapOf P T = some (K, E)) (hK : KeyT P K enc)
    (hx : ev l x = some v := by rfl) (hy : ev l y = some (enc k) := by rfl) : Gives P ⟨dst, .mapEntry T x y, ty, pos, af, g⟩ a w R := by
  obtain ⟨F, b, c, rfl, hF, hF', hb⟩ := hm
  have hf := hK.find k [⟨enc k, u, s⟩] [(k, u)] w rfl
  have hp : posK k [(k, u)] 0 = some (0, u) := by simp [posK]
  rw [hp] at hf
  have hw : { w with heap := w.heap.setIfInBounds b (.map #[⟨enc k, u, s⟩] c) } = w := heap_same hb
  refine givesv (v := .tuple #[u, .int .i64 (s : Int)]) (w' := w) ?_ h
  simp [execOp, Instr.mapEntry, run_underlying (mapOf_und hT), hk.eval hx, hk.eval hy, getObj, setObj, Sem.run, hb, hK.check, hf, Instr.keyThatStays, hK.bits, goInt, hw]
theorem g_entryStore1 {x y z : Operand} (hk : Kn df n a l) (hm : (Proofs.YthodcfdgahfniaaGreat.map1 enc v k u s).rd w) (h : R undef w)
    (hx : ev l x = some v := by rfl) (hy : ev l y = some (.int .i64 (s : Int)) := by rfl) (hz : ev l z = some u := by rfl) : Gives P ⟨dst, .entryStore T x y z, ty, pos, af, g⟩ a w R := by
  obtain ⟨F, b, c, rfl, hF, hF', hb⟩ := hm
  have hw : { w with heap := w.heap.setIfInBounds b (.map #[⟨enc k, u, s⟩] c) } = w := heap_same hb
  refine givesu (w' := w) ?_ h
  simp [execOp, Instr.entryStore, hk.eval hx, hk.eval hy, hk.eval hz, getObj, setObj, Sem.run, hb, asInt, asIntOf, List.modify, hw]
end
end Go.Proofs.YthodcfdgahfniaaGreat
namespace Go.Proofs.YthodcfdgahfniaaGreat
open Go.RowKit
set_option maxRecDepth 100000
attribute [local irreducible] Go.Code.wpIn Go.wpListIn Go.Calls Gives Go.Exit.then Go.Exit.inBlock Done ObxE

abbrev tmV (t d k : Int) : Value := .agg #[.int .i64 t, .int .i64 d, .int .i64 k, .int .i64 0]
theorem m_push (v x : Value) (w : World) : (callMethod (.iface 86 v) "Push" #[x]).run Tryz.prog w = .ok (.enter 142 #[v, x]) w := by kernel_rfl
theorem m_len (v : Value) (w : World) : (callMethod (.iface 86 v) "Len" #[]).run Tryz.prog w = .ok (.enter 65 #[v]) w := by kernel_rfl
theorem m_pop (v : Value) (w : World) : (callMethod (.iface 86 v) "Pop" #[]).run Tryz.prog w = .ok (.enter 141 #[v]) w := by kernel_rfl
theorem m_swap (v x y : Value) (w : World) : (callMethod (.iface 86 v) "Swap" #[x, y]).run Tryz.prog w = .ok (.enter 143 #[v, x, y]) w := by kernel_rfl

section
variable {B : Bs} {L : List HP} {w : World} {bp bm : Nat} {ao : Option Addr} {c : Nat}
theorem ppush_any (t d k : Int) (hS : St B (pts bp [.slice ao 0 c, .map (some bm)] 90 :: mapH encI (.map (some bm)) [] :: OwT 101 ([] : List TmC) (.slice ao 0 c) :: L) w) :
    Calls Tryz.prog 142 #[ptV bp, .iface 101 (tmV t d k)] w (Ret fun _ w' => ∃ a' c', St B (pts bp [.slice a' 1 c', .map (some bm)] 90 :: mapH encI (.map (some bm)) [(t, .int .i64 0)] :: OwT 101 [((t, d, k, 0) : TmC)] (.slice a' 1 c') :: L) w') := by
  refine enter Tryz.func142 rfl Tryz.ntmps142 rfl (fun a hk => ?_)
  (repeat' (first | (show wpListIn _ _ _ _ _ (_ :: _) _ _; first | (refine wx1 ?_; clear hk a; intro a hk) | (refine wx2 ?_ ?_ <;> (intro hp; clear hk a; intro a hk)) | (refine wx3 ?_; clear hk hS a; intro w b hS a hk) | (refine wx4 ?_; clear hk hS a; intro w hS a hk) | (refine wx5 ?_; clear hk hS a; intro w v hS a hk) | fail) | refine wx0 ?_ | (refine s_end hk ?_; clear hk a; intro a hk) | fail))
  refine sg hk (g_as1 hk ?_ Tryz.underlying101); clear hk a; intro a hk
  (repeat' (first | (show wpListIn _ _ _ _ _ (_ :: _) _ _; first | (refine wx1 ?_; clear hk a; intro a hk) | (refine wx2 ?_ ?_ <;> (intro hp; clear hk a; intro a hk)) | (refine wx3 ?_; clear hk hS a; intro w b hS a hk) | (refine wx4 ?_; clear hk hS a; intro w hS a hk) | (refine wx5 ?_; clear hk hS a; intro w v hS a hk) | fail) | refine wx0 ?_ | (refine s_end hk ?_; clear hk a; intro a hk) | fail))
  rename Nat => b4
  refine wp_drawn 11 mixed (by kernel_rfl) hk hS ?_; clear hk hS a
  (repeat' (first | (show ObxE _ _ _ _ _ _ _ _ _ (_ :: _) _ _ _; first | refine ox1 ?_ | (refine ox2 ?_ ?_ <;> intro hp) | fail) | fail))
  refine obe_nil ⟨rfl, ?_⟩; intro us a w hk hS
  refine su hk (g_mapUpdate (k := t) hk hS ?_ (mT rfl) keyI); clear hk hS a; intro w hS a hk
  (repeat' (first | (show wpListIn _ _ _ _ _ (_ :: _) _ _; first | (refine wx1 ?_; clear hk a; intro a hk) | (refine wx2 ?_ ?_ <;> (intro hp; clear hk a; intro a hk)) | (refine wx3 ?_; clear hk hS a; intro w b hS a hk) | (refine wx4 ?_; clear hk hS a; intro w hS a hk) | (refine wx5 ?_; clear hk hS a; intro w v hS a hk) | fail) | refine wx0 ?_ | (refine s_end hk ?_; clear hk a; intro a hk) | fail))
  replace hk := Kn.kp [0, 4] hk
  replace hS := hS.sub (L' := OwT 101 ([] : List TmC) (.slice ao 0 c) :: pts b4 [.int .i64 t, .int .i64 d, .int .i64 k, .int .i64 0] 101 :: pts bp [.slice ao 0 c, .map (some bm)] 90 :: mapH encI (.map (some bm)) [(t, .int .i64 0)] :: L) (by (repeat (first | exact Sub.nil | exact Sub.refl | refine Sub.cons (by (repeat (first | exact At.here | apply At.there))) ?_)))
  refine wp_drawnU1 8 mixed (by kernel_rfl) hk hS ?_; clear hk hS a
  (repeat' (first | (show ObxE _ _ _ _ _ _ _ _ _ (_ :: _) _ _ _; first | refine ox1 ?_ | (refine ox2 ?_ ?_ <;> intro hp) | fail) | fail))
  refine' obe_res (fun us a w hk hd hS => ?_) ?_; rotate_left; focus (have hk := Kn.vw hk (by repeat (first | exact VW.nil | apply VW.val rfl | apply VW.base rfl rfl | apply VW.res rfl | apply VW.upd rfl | apply VW.cpy rfl | apply VW.dep rfl | apply VW.fn rfl | apply VW.lnd rfl | apply VW.tak rfl)); exact v_bsT (xs := [((t, d, k, 0) : TmC)]) (m := 0) hk (hT := eT rfl) (hE := zT rfl) (hz := oT rfl))
  refine' obe_upd (OwT 101 ([] : List TmC) (.slice ao 0 c)) (fun us a w X hk hd hS hL => ?_) ?_; rotate_left; focus (have hk := Kn.vw hk (by repeat (first | exact VW.nil | apply VW.val rfl | apply VW.base rfl rfl | apply VW.res rfl | apply VW.upd rfl | apply VW.cpy rfl | apply VW.dep rfl | apply VW.fn rfl | apply VW.lnd rfl | apply VW.tak rfl)); exact v_app hk hS (hT := eT rfl) (hTx := eT rfl) (hs := OwT.rd hd.2.1) (hE := zT rfl) (hz := oT rfl) (hzs := rfl) (hby := bT rfl) (hbytes := by simp only [List.length_cons, List.length_nil]; omega) (h63 := by simp only [List.length_cons, List.length_nil, maxLen]; omega))
  refine obe_nil ⟨rfl, ?_⟩; intro us a w hk hS
  simp only [resE, List.cons_append, List.nil_append] at hS
  replace hk := Kn.kp [0, 18, 25] hk
  simp only [HV.of, Nat.zero_add, Nat.reduceAdd] at hk hS
  generalize us 7 = v25 at hS hk
  obtain ⟨aov25, cv25, hshp, _⟩ := (OwT.rd (hS.rd (A := OwT 101 _ v25) (by (repeat (first | exact At.here | apply At.there))))).shape; subst hshp
  (repeat' (first | (show wpListIn _ _ _ _ _ (_ :: _) _ _; first | (refine wx1 ?_; clear hk a; intro a hk) | (refine wx2 ?_ ?_ <;> (intro hp; clear hk a; intro a hk)) | (refine wx3 ?_; clear hk hS a; intro w b hS a hk) | (refine wx4 ?_; clear hk hS a; intro w hS a hk) | (refine wx5 ?_; clear hk hS a; intro w v hS a hk) | fail) | refine wx0 ?_ | (refine s_end hk ?_; clear hk a; intro a hk) | fail))
  exact done0n hk (h := ⟨aov25, cv25, hS.sub (.cons (by (repeat (first | exact At.here | apply At.there))) (.cons (by (repeat (first | exact At.here | apply At.there))) (.cons (by (repeat (first | exact At.here | apply At.there))) (by (repeat (first | exact Sub.refl | apply Sub.under))))))⟩)
theorem quo0 : IntKind.i64.wrap (Int.tdiv (0 - 1) 2) = 0 := by decide
theorem up_any {v : Value} (w0 : World) : Calls Tryz.prog 96 #[v, .int .i64 0] w0 (Ret fun _ w => St w0 [] w) := by
  refine enter Tryz.func96 rfl Tryz.ntmps96 rfl (fun a hk => ?_); have hS := St.refl w0
  (repeat' (first | (show wpListIn _ _ _ _ _ (_ :: _) _ _; first | (refine wx1 ?_; clear hk a; intro a hk) | (refine wx2 ?_ ?_ <;> (intro hp; clear hk a; intro a hk)) | (refine wx3 ?_; clear hk hS a; intro w b hS a hk) | (refine wx4 ?_; clear hk hS a; intro w hS a hk) | (refine wx5 ?_; clear hk hS a; intro w v hS a hk) | fail) | refine wx0 ?_ | (refine s_end hk ?_; clear hk a; intro a hk) | fail))
  replace hk := Kn.kp [0, 1] hk
  refine wp_for 0 (fun _ _ => [(1, .int .i64 0)]) (fun _ _ => []) (fun _ _ => True) () hk (by repeat (first | exact trivial | refine ⟨rfl, ?_⟩)) hS trivial ?_
  clear hk hS a
  rintro i - a w hi hk hS -
  (repeat' (first | (show wpListIn _ _ _ _ _ (_ :: _) _ _; first | (refine wx1 ?_; clear hk a; intro a hk) | (refine wx2 ?_ ?_ <;> (intro hp; clear hk a; intro a hk)) | (refine wx3 ?_; clear hk hS a; intro w b hS a hk) | (refine wx4 ?_; clear hk hS a; intro w hS a hk) | (refine wx5 ?_; clear hk hS a; intro w v hS a hk) | fail) | refine wx0 ?_ | (refine s_end hk ?_; clear hk a; intro a hk) | fail))
  refine sg hk (g_quo hk ?_ (hq := by decide)); clear hk a; intro a hk
  rw [quo0] at hk
  (repeat' (first | (show wpListIn _ _ _ _ _ (_ :: _) _ _; first | (refine wx1 ?_; clear hk a; intro a hk) | (refine wx2 ?_ ?_ <;> (intro hp; clear hk a; intro a hk)) | (refine wx3 ?_; clear hk hS a; intro w b hS a hk) | (refine wx4 ?_; clear hk hS a; intro w hS a hk) | (refine wx5 ?_; clear hk hS a; intro w v hS a hk) | fail) | refine wx0 ?_ | (refine s_end hk ?_; clear hk a; intro a hk) | fail))
  exact done0n hk (h := hS)
theorem hpush_any (t d k : Int) (hS : St B (pts bp [.slice ao 0 c, .map (some bm)] 90 :: mapH encI (.map (some bm)) [] :: OwT 101 ([] : List TmC) (.slice ao 0 c) :: L) w) :
    Calls Tryz.prog 98 #[.iface 86 (ptV bp), .iface 101 (tmV t d k)] w (Ret fun _ w' => ∃ a' c', St B (pts bp [.slice a' 1 c', .map (some bm)] 90 :: mapH encI (.map (some bm)) [(t, .int .i64 0)] :: OwT 101 [((t, d, k, 0) : TmC)] (.slice a' 1 c') :: L) w') := by
  refine enter Tryz.func98 rfl Tryz.ntmps98 rfl (fun a hk => ?_)
  (repeat' (first | (show wpListIn _ _ _ _ _ (_ :: _) _ _; first | (refine wx1 ?_; clear hk a; intro a hk) | (refine wx2 ?_ ?_ <;> (intro hp; clear hk a; intro a hk)) | (refine wx3 ?_; clear hk hS a; intro w b hS a hk) | (refine wx4 ?_; clear hk hS a; intro w hS a hk) | (refine wx5 ?_; clear hk hS a; intro w v hS a hk) | fail) | refine wx0 ?_ | (refine s_end hk ?_; clear hk a; intro a hk) | fail))
  refine sg hk (g_inv hk (m_push _ _) (ppush_any t d k hS) (fun _ _ h => ?_)); clear hk hS a; obtain ⟨a', c', hS⟩ := h; intro a hk
  (repeat' (first | (show wpListIn _ _ _ _ _ (_ :: _) _ _; first | (refine wx1 ?_; clear hk a; intro a hk) | (refine wx2 ?_ ?_ <;> (intro hp; clear hk a; intro a hk)) | (refine wx3 ?_; clear hk hS a; intro w b hS a hk) | (refine wx4 ?_; clear hk hS a; intro w hS a hk) | (refine wx5 ?_; clear hk hS a; intro w v hS a hk) | fail) | refine wx0 ?_ | (refine s_end hk ?_; clear hk a; intro a hk) | fail))
  refine sg hk (g_inv hk (m_len _) (plen_any bp bm [((t, d, k, 0) : TmC)] a' c' _ (hS.rd .here) (OwT.rd (hS.rd (.there (.there .here))))) (fun _ _ h => ?_)); clear hk a; obtain ⟨rfl, hS1⟩ := h; intro a hk; replace hS := hS.call0 hS1; clear hS1
  rw [show (([((t, d, k, 0) : TmC)].length : Nat) : Int) = 1 from rfl] at hk
  (repeat' (first | (show wpListIn _ _ _ _ _ (_ :: _) _ _; first | (refine wx1 ?_; clear hk a; intro a hk) | (refine wx2 ?_ ?_ <;> (intro hp; clear hk a; intro a hk)) | (refine wx3 ?_; clear hk hS a; intro w b hS a hk) | (refine wx4 ?_; clear hk hS a; intro w hS a hk) | (refine wx5 ?_; clear hk hS a; intro w v hS a hk) | fail) | refine wx0 ?_ | (refine s_end hk ?_; clear hk a; intro a hk) | fail))
  rw [show (1 - 1 : Int) = 0 from rfl] at hk
  refine sg hk (g_callO hk (hf := by kernel_rfl) (hc := up_any _) (h := fun _ _ h => ?_)); clear hk a; intro a hk; replace hS := hS.call0 h
  (repeat' (first | (show wpListIn _ _ _ _ _ (_ :: _) _ _; first | (refine wx1 ?_; clear hk a; intro a hk) | (refine wx2 ?_ ?_ <;> (intro hp; clear hk a; intro a hk)) | (refine wx3 ?_; clear hk hS a; intro w b hS a hk) | (refine wx4 ?_; clear hk hS a; intro w hS a hk) | (refine wx5 ?_; clear hk hS a; intro w v hS a hk) | fail) | refine wx0 ?_ | (refine s_end hk ?_; clear hk a; intro a hk) | fail))
  exact done0n hk (h := ⟨a', c', hS⟩)
theorem wlen0_any {bw bp bm : Nat} {wl : Int} {ao : Option Addr} {c : Nat} (w0 : World) (h1 : (pts bw [.int .i64 9, .int .i64 wl, ptV bp] 92).rd w0) (h2 : (pts bp [.slice ao 0 c, .map (some bm)] 90).rd w0) (h3 : SlT ([] : List TmC) (.slice ao 0 c) w0) :
    Calls Tryz.prog 39 #[ptV bw] w0 (Ret fun v w => v = .int .i64 0 ∧ St w0 [] w) := wlenP_any (l := ([] : List TmC)) w0 h1 h2 h3
theorem wlen1_any {bw bp bm : Nat} {wl : Int} {x : TmC} {ao : Option Addr} {c : Nat} (w0 : World) (h1 : (pts bw [.int .i64 9, .int .i64 wl, ptV bp] 92).rd w0) (h2 : (pts bp [.slice ao 1 c, .map (some bm)] 90).rd w0) (h3 : SlT [x] (.slice ao 1 c) w0) :
    Calls Tryz.prog 39 #[ptV bw] w0 (Ret fun v w => v = .int .i64 1 ∧ St w0 [] w) := wlenP_any (l := [x]) w0 h1 h2 h3
theorem wadd_any {bw : Nat} {wl dl k : Int} (hwl : 0 ≤ wl ∧ wl ≤ 1000000) (hS : St B (wheelH bw wl .no :: L) w) :
    Calls Tryz.prog 80 #[ptV bw, .int .i64 dl, .agg #[.int .i64 k, .int .i64 0]] w (Ret fun v w' => v = .tuple #[.int .i64 (wl + 1), .int .i64 0] ∧ St B (wheelH bw (wl + 1) (.tm (wl + 1) (max 0 (min dl 1099511627776)) k) :: L) w') := by
  refine enter Tryz.func80 rfl Tryz.ntmps80 rfl (fun a hk => ?_)
  (repeat' (first | (show wpListIn _ _ _ _ _ (_ :: _) _ _; first | (refine wx1 ?_; clear hk a; intro a hk) | (refine wx2 ?_ ?_ <;> (intro hp; clear hk a; intro a hk)) | (refine wx3 ?_; clear hk hS a; intro w b hS a hk) | (refine wx4 ?_; clear hk hS a; intro w hS a hk) | (refine wx5 ?_; clear hk hS a; intro w v hS a hk) | fail) | refine wx0 ?_ | (refine s_end hk ?_; clear hk a; intro a hk) | fail))
  rename Nat => b5
  obtain ⟨bp, bm, ao, c, hS1⟩ := hS.wheel (bw := bw) (wl := wl) (x := .no) (by (repeat (first | exact At.here | apply At.there)))
  clear hS
  have hS := hS1
  clear hS1
  simp only [wheelL, tmL, tmM, List.length_nil, List.cons_append, List.nil_append] at hS
  refine wp_drawn 7 mixed (by kernel_rfl) hk hS ?_; clear hk hS a
  (repeat' (first | (show ObxE _ _ _ _ _ _ _ _ _ (_ :: _) _ _ _; first | refine ox1 ?_ | (refine ox2 ?_ ?_ <;> intro hp) | fail) | fail))
  refine' obe_val (fun us a w hk hd hS => ?_) ?_; rotate_left; focus (have hk := Kn.vw hk (by repeat (first | exact VW.nil | apply VW.val rfl | apply VW.base rfl rfl | apply VW.res rfl | apply VW.upd rfl | apply VW.cpy rfl | apply VW.dep rfl | apply VW.fn rfl | apply VW.lnd rfl | apply VW.tak rfl)); exact g_callO hk (hf := by kernel_rfl) (hc := wlen0_any (bw := bw) (bp := bp) (bm := bm) (wl := wl) (ao := ao) (c := c) _ (hS.rd (by (repeat (first | exact At.here | apply At.there)))) (hS.rd (by (repeat (first | exact At.here | apply At.there)))) (OwT.rd (hS.rd (A := OwT 101 ([] : List TmC) (.slice ao 0 c)) (by (repeat (first | exact At.here | apply At.there)))))) (h := fun _ _ h => h))
  (repeat' (first | (show ObxE _ _ _ _ _ _ _ _ _ (_ :: _) _ _ _; first | refine ox1 ?_ | (refine ox2 ?_ ?_ <;> intro hp) | fail) | fail))
  refine obe_nil ⟨rfl, ?_⟩; intro us a w hk hS
  (repeat' (first | (show wpListIn _ _ _ _ _ (_ :: _) _ _; first | (refine wx1 ?_; clear hk a; intro a hk) | (refine wx2 ?_ ?_ <;> (intro hp; clear hk a; intro a hk)) | (refine wx3 ?_; clear hk hS a; intro w b hS a hk) | (refine wx4 ?_; clear hk hS a; intro w hS a hk) | (refine wx5 ?_; clear hk hS a; intro w v hS a hk) | fail) | refine wx0 ?_ | (refine s_end hk ?_; clear hk a; intro a hk) | fail))
  refine wp_drawn 14 mixed (by kernel_rfl) hk hS ?_; clear hk hS a
  (repeat' (first | (show ObxE _ _ _ _ _ _ _ _ _ (_ :: _) _ _ _; first | refine ox1 ?_ | (refine ox2 ?_ ?_ <;> intro hp) | fail) | fail))
  refine' obe_val (fun us a w hk hd hS => ?_) ?_; rotate_left; focus (have hk := Kn.vw hk (by repeat (first | exact VW.nil | apply VW.val rfl | apply VW.base rfl rfl | apply VW.res rfl | apply VW.upd rfl | apply VW.cpy rfl | apply VW.dep rfl | apply VW.fn rfl | apply VW.lnd rfl | apply VW.tak rfl)); exact g_mkI hk (same _ _) (by kernel_rfl))
  (repeat' (first | (show ObxE _ _ _ _ _ _ _ _ _ (_ :: _) _ _ _; first | refine ox1 ?_ | (refine ox2 ?_ ?_ <;> intro hp) | fail) | fail))
  refine' obe_val (fun us a w hk hd hS => ?_) ?_; rotate_left; focus (have hk := Kn.vw hk (by repeat (first | exact VW.nil | apply VW.val rfl | apply VW.base rfl rfl | apply VW.res rfl | apply VW.upd rfl | apply VW.cpy rfl | apply VW.dep rfl | apply VW.fn rfl | apply VW.lnd rfl | apply VW.tak rfl)); exact g_callO hk (hf := by kernel_rfl) (hc := clip_any dl 0 1099511627776 _) (h := fun _ _ h => h))
  (repeat' (first | (show ObxE _ _ _ _ _ _ _ _ _ (_ :: _) _ _ _; first | refine ox1 ?_ | (refine ox2 ?_ ?_ <;> intro hp) | fail) | fail))
  refine' obe_val (fun us a w hk hd hS => ?_) ?_; rotate_left; focus (have hk := Kn.vw hk (by repeat (first | exact VW.nil | apply VW.val rfl | apply VW.base rfl rfl | apply VW.res rfl | apply VW.upd rfl | apply VW.cpy rfl | apply VW.dep rfl | apply VW.fn rfl | apply VW.lnd rfl | apply VW.tak rfl)); exact g_mkI hk (same _ _) (by kernel_rfl))
  refine obe_nil ⟨rfl, ?_⟩; intro us a w hk hS
  replace hk := Kn.kp [0, 26, 35] hk
  simp only [HV.of, Nat.zero_add, Nat.reduceAdd] at hk
  refine sg hk (g_callO hk (hf := by kernel_rfl) (hc := hpush_any (bp := bp) (bm := bm) (ao := ao) (c := c) (wl + 1) (max 0 (min dl 1099511627776)) k (hS.sub (.cons (by (repeat (first | exact At.here | apply At.there))) (.cons (by (repeat (first | exact At.here | apply At.there))) (.cons (by (repeat (first | exact At.here | apply At.there))) .refl))))) (h := ?_)); clear hk hS a; rintro _ w ⟨a', c', hS⟩ a hk
  (repeat' (first | (show wpListIn _ _ _ _ _ (_ :: _) _ _; first | (refine wx1 ?_; clear hk a; intro a hk) | (refine wx2 ?_ ?_ <;> (intro hp; clear hk a; intro a hk)) | (refine wx3 ?_; clear hk hS a; intro w b hS a hk) | (refine wx4 ?_; clear hk hS a; intro w hS a hk) | (refine wx5 ?_; clear hk hS a; intro w v hS a hk) | fail) | refine wx0 ?_ | (refine s_end hk ?_; clear hk a; intro a hk) | fail))
  refine done2R hk rfl (.tmp rfl) (.tmp rfl) (h := ⟨rfl, ?_⟩)
  exact wheelH.of (bp := bp) (bm := bm) (a := a') (c := c') (hS.sub (.cons (by (repeat (first | exact At.here | apply At.there))) (.cons (by (repeat (first | exact At.here | apply At.there))) (.cons (by (repeat (first | exact At.here | apply At.there))) (.cons (by (repeat (first | exact At.here | apply At.there))) (by (repeat (first | exact Sub.refl | apply Sub.under)))))))) 
end
end Go.Proofs.YthodcfdgahfniaaGreat
