/- Panics that a text throws, interface values, a deferred closure. A value that owns several resources at once, of things that are not told. Nodes with nodes within, as they lie in memory. Layer 2: digits and the numbers that they are; which texts may be what: in plain words. Layer 2: which texts may be what, in plain words. Layer 8, plain: the tokens of a text, the view that they make, or what is wrong first, and where. Layer 8, plain: where tokens and views end; a text's tokens in a row. Layer 8, plain: a token, case by case, as a reader comes to it. Layer 8: the program's reader: blanks, the next byte, a word, a text; what is wrong. -/
import Derived.Test.YtipdgobplfkipaaGreatDoorR06
import Derived.Laws.Build
import Derived.WideLaws
import Derived.Lib.ItoaNum
set_option linter.all false
namespace Go.Proofs.YtipdgobplfkipaaGreatDoor
open Go.RowKit
section
variable {P : Program} {ops : Array Oper} {Q : Exit → Act → World → Prop} {a : Act} {w w' : World} {rest : List Oper} {n : Nat} {l : List (Nat × Value)} {df : List Deferred} {rr : Option Nat}
  {d : Nat} {dst : Option Nat} {ty : TypeId} {pos : String} {af : Array Edge} {g : Option (Nat × Bool)} {R R' : Value → World → Prop} {S S' : List PanicEntry → World → Prop} {fn : Func}

theorem g_mkI {x : Operand} {T : TypeId} {v : Value} (hk : Kn df n a l) (h : R (.iface T v) w) (hT : P.concrete T = true) (hx : ev l x = some v := by rfl) :
    Gives P ⟨dst, .makeInterface T x, ty, pos, af, g⟩ a w R :=
  givesv (v := .iface T v) (by simp [execOp, hk.eval hx, run_makeInterface w T v hT]) h
theorem g_panicO {x : Operand} {T : TypeId} {v : Value} (hk : Kn df n a l) (h : S [{ v := .iface T v, recovered := false }] w) (hx : ev l x = some (.iface T v) := by rfl) :
    GivesP P ⟨dst, .panic x, ty, pos, af, g⟩ a w R S := by
  refine ⟨fun c => by simp, ?_⟩
  have h1 : (execOp a.eval ⟨dst, .panic x, ty, pos, af, g⟩).run P w = .halt (.panic (.iface T v)) w := by
    simp [execOp, hk.eval hx, run_panic_iface]
  rw [h1]; exact h
theorem g_asY {x : Operand} {xT T : TypeId} {v : Value} {fs : Array Field} (hk : Kn df n a l) (h : R (.tuple #[v, .bool true]) w) (hT : P.underlying T = some (.struct fs)) (hx : ev l x = some (.iface T v) := by rfl) :
    Gives P ⟨dst, .typeAssert x xT T true, ty, pos, af, g⟩ a w R :=
  givesv (v := .tuple #[v, .bool true]) (by simp [execOp, hk.eval hx, Instr.typeAssert, run_underlying hT]) h
theorem g_asN {x : Operand} {xT T : TypeId} {z : Value} {fs : Array Field} (hk : Kn df n a l) (h : R (.tuple #[z, .bool false]) w) (hT : P.underlying T = some (.struct fs)) (hz : zeroOf P T = some z) (hx : ev l x = some .nilIface := by rfl) :
    Gives P ⟨dst, .typeAssert x xT T true, ty, pos, af, g⟩ a w R :=
  givesv (v := .tuple #[z, .bool false]) (by simp [execOp, hk.eval hx, Instr.typeAssert, run_underlying hT, zeroOf_run hz]) h
theorem g_neI {x : Operand} {t t' : TypeId} (hk : Kn df n a l) (h : R (.bool false) w) (ht : P.underlying t = some (.interface (P.methodsAt t))) (hx : ev l x = some .nilIface := by rfl) :
    Gives P ⟨dst, .binOp .neq t x (.const .nilIface) t', ty, pos, af, g⟩ a w R :=
  givesv (v := .bool false) (by
    have h2 : a.eval (.const .nilIface) = .nilIface := rfl
    have h3 : eqGuard .neq t x (.const .nilIface) .nilIface .nilIface = pure () := by cases x <;> rfl
    simp [execOp, hk.eval hx, h2, h3, run_neq_nil_nil w t ht]) h

theorem su_defer {c : Call} {D : Deferred} (hk : Kn df n a l) (h : ∀ a', Kn (D :: df) n a' l → wpListIn (FR none) 0 P ops Q rest a' w) (hr : (resolve a.eval c ty).run P w = .ok D w)
    (hg : gdK ops l g = some true := by rfl) : wpListIn (FR none) 0 P ops Q (⟨none, .defer c, ty, pos, af, g⟩ :: rest) a w := by
  unfold wpListIn
  rw [if_pos (wanted_of (o := ⟨none, .defer c, ty, pos, af, g⟩) hk hg)]
  refine ⟨fun _ _ => trivial, ?_⟩
  have hs : (Oper.semAt (FR none).round a.eval ⟨none, .defer c, ty, pos, af, g⟩).run P w = .ok (.defer D) w := by
    show (Oper.semAt none a.eval _).run P w = _
    rw [Oper.semAt_none]
    simp [execOp, hr]
  rw [hs]
  exact h _ ⟨hk.size, hk.get, by simp [Act.put, hk.defers]⟩
theorem resolve_fn {x : Operand} {f : FuncId} {first cap : Array Value} (hk : Kn df n a l) (hx : ev l x = some (.func (.func f) first cap) := by rfl) {ts : Array TypeId} :
    (resolve a.eval { callee := .value x, args := #[], argTypes := ts } ty).run P w = .ok { target := .fn (.func f) cap, args := first } w := by
  simp [resolve, hk.eval hx, Deferred.ofValue]

section
variable {c₀ : Frame} {cs : List Frame} {QS : Exit → Act → List Frame → World → Prop} {id d1 d2 : Nat} {ts : Array TypeId} {ty1 ty2 : TypeId} {p1 p2 : String} {f1 f2 : Array Edge}
def recOps (d1 d2 : Nat) (ts : Array TypeId) (ty1 ty2 : TypeId) (p1 p2 : String) (f1 f2 : Array Edge) : Array Oper :=
  #[⟨some d1, .call { callee := .builtin .recover, args := #[], argTypes := ts }, ty1, p1, f1, none⟩, ⟨some d2, .assign (.tmp d1), ty2, p2, f2, none⟩]
theorem run_recover {ρ : Operand → Value} {o : Oper} (ho : o.op = .call { callee := .builtin .recover, args := #[], argTypes := ts }) : (execOp ρ o).run P w = .ok .recover w := by
  simp [execOp, ho, resolve, invoke, builtin]
theorem wanted_none {o : Oper} (h : o.guard = none) (y : Nat → Option Bool) : Region.wanted o y = true := by simp [Region.wanted, h]
theorem q_rec0 (hu : c₀.mode = .returning) (hk : Kn df n a l) (h1 : Nat.blt d1 n = true) (h2 : Nat.blt d2 n = true) (hne : Nat.beq d1 d2 = false)
    (h : ∀ a', Kn df n a' ((d2, .nilIface) :: (d1, .nilIface) :: l) → QS .normal a' (c₀ :: cs) w) :
    (Code.region id (recOps d1 d2 ts ty1 ty2 p1 p2 f1 f2) false).wpSIn Fence.wide 0 P QS a (c₀ :: cs) w := by
  apply wpSIn_region
  have e : List.range (recOps d1 d2 ts ty1 ty2 p1 p2 f1 f2).size = [0, 1] := rfl
  rw [e]
  have k1 := hk.put (d := some d1) h1 .nilIface
  have k2 := k1.put (d := some d2) h2 .nilIface
  have hv : (a.put (some d1) .nilIface).eval (.tmp d1) = .nilIface := k1.eval (by simp [ev, putK, lk])
  have hrec : recoverD (c₀ :: cs) = none := by simp [recoverD, hu]
  simp only [wpOpsSIn, recOps, List.getElem?_toArray, List.getElem?_cons_zero, List.getElem?_cons_succ, wanted_none, if_true]
  rw [run_recover rfl]
  simp only [hrec]
  refine ⟨fun _ _ => trivial, fun _ _ => trivial, ?_⟩
  have ha : (execOp (a.put (some d1) .nilIface).eval ⟨some d2, .assign (.tmp d1), ty2, p2, f2, none⟩).run P w = .ok (.value .nilIface) w := by
    simp only [execOp, hv]; rfl
  rw [ha]
  exact h _ k2
theorem q_rec1 {v : Value} (hu : c₀.mode = .panicking [{ v, recovered := false }]) (hk : Kn df n a l) (h1 : Nat.blt d1 n = true) (h2 : Nat.blt d2 n = true) (hne : Nat.beq d1 d2 = false)
    (h : ∀ a', Kn df n a' ((d2, v) :: (d1, v) :: l) → QS .normal a' ({ c₀ with mode := .panicking [{ v, recovered := true }] } :: cs) w) :
    (Code.region id (recOps d1 d2 ts ty1 ty2 p1 p2 f1 f2) false).wpSIn Fence.wide 0 P QS a (c₀ :: cs) w := by
  apply wpSIn_region
  have e : List.range (recOps d1 d2 ts ty1 ty2 p1 p2 f1 f2).size = [0, 1] := rfl
  rw [e]
  have k1 := hk.put (d := some d1) h1 v
  have k2 := k1.put (d := some d2) h2 v
  have hv : (a.put (some d1) v).eval (.tmp d1) = v := k1.eval (by simp [ev, putK, lk])
  have hrec : recoverD (c₀ :: cs) = some (v, { c₀ with mode := .panicking [{ v, recovered := true }] } :: cs) := by simp [recoverD, hu]
  simp only [wpOpsSIn, recOps, List.getElem?_toArray, List.getElem?_cons_zero, List.getElem?_cons_succ, wanted_none, if_true]
  rw [run_recover rfl]
  simp only [hrec]
  refine ⟨fun _ _ => trivial, fun _ _ => trivial, ?_⟩
  have ha : (execOp (a.put (some d1) v).eval ⟨some d2, .assign (.tmp d1), ty2, p2, f2, none⟩).run P w = .ok (.value v) w := by
    simp only [execOp, hv]; rfl
  rw [ha]
  exact h _ k2
theorem q_rest {y : Code} {R2 : World → Prop} {RS : Ending → FrameMode → World → Prop} {u : FrameMode} {cf : Frame} (hcf : cf = { c₀ with mode := u }) (hr : ∀ v w, R2 w → RS (.returned v) u w)
    (h : y.wpIn (FR none) 0 P (Done P fn (fun _ w => R2 w)) a w) : y.wpSIn Fence.wide 0 P (bodyPostS P fn c₀ cs RS) a (cf :: cs) w := by
  subst hcf
  refine wpS_rest (wpIn_mono h (fun e a w hd => ?_))
  cases e with
  | normal => obtain ⟨h1, v, h2, v', h3, h4⟩ := hd; exact ⟨h1, u, rfl, v, h2, hr _ _ h4⟩
  | ret => obtain ⟨h1, v, h2, v', h3, h4⟩ := hd; exact ⟨h1, u, rfl, v, h2, hr _ _ h4⟩
  | panic ch => obtain ⟨-, v', h3, -⟩ := hd; cases h3
  | exit id => exact hd.elim
  | goto id => exact hd.elim
  | outgrown => obtain ⟨v', h3, -⟩ := hd; cases h3
end
end

section
variable {P : Program} {Q : Exit → Act → World → Prop} {a : Act} {w w' : World} {n : Nat} {l : List (Nat × Value)} {df : List Deferred} {rr : Option Nat} {ops : Array Oper} {K : Act → World → Prop}
  {d : Nat} {dst : Option Nat} {ty : TypeId} {pos : String} {af : Array Edge} {g : Option (Nat × Bool)}
abbrev Any (rr : Option Nat) (P : Program) (ops : Array Oper) (Q : Exit → Act → World → Prop) (k : Nat) (listed : Array Bool) (a : Act) (w : World) : Prop := wpAnyIn (FR rr) 0 P .any ops Q k listed a w
theorem an_end {k : Nat} {listed : Array Bool} (hr : Region.ready .any ops listed = []) (h : Q .normal a w) : Any rr P ops Q k listed a w := by
  cases k with
  | zero => exact ⟨hr, h⟩
  | succ k => exact ⟨fun _ => h, fun i hi => by rw [hr] at hi; cases hi⟩
theorem an_step {k : Nat} {listed : Array Bool} {i : Nat} {rs : List Nat} (hr : Region.ready .any ops listed = i :: rs)
    (h : ∀ j ∈ i :: rs, wpOpIn (FR rr) 0 P ops Q j (Any rr P ops Q k (listed.setIfInBounds j true)) a w) : Any rr P ops Q (k + 1) listed a w :=
  ⟨fun e => (by rw [hr] at e; cases e), fun j hj => h j (by rw [← hr]; exact hj)⟩
theorem an_op {o : Op} {i : Nat} (ho : ops[i]? = some ⟨some d, o, ty, pos, af, none⟩) (hk : Kn df n a l) (h : Gives P ⟨some d, o, ty, pos, af, none⟩ a w (fun v w' => ∀ a', Kn df n a' ((d, v) :: l) → K a' w')) (hd : Nat.blt d n = true := by rfl) :
    wpOpIn (FR rr) 0 P ops Q i K a w := by
  unfold wpOpIn
  simp only [ho]
  rw [if_pos (wanted_none rfl _)]
  exact h.wp (fun v w' hv => hv _ (hk.put (d := some d) hd v))
theorem an_opu {o : Op} {i : Nat} (ho : ops[i]? = some ⟨none, o, ty, pos, af, none⟩) (hk : Kn df n a l) (h : Gives P ⟨none, o, ty, pos, af, none⟩ a w (fun _ w' => ∀ a', Kn df n a' l → K a' w')) :
    wpOpIn (FR rr) 0 P ops Q i K a w := by
  unfold wpOpIn
  simp only [ho]
  rw [if_pos (wanted_none rfl _)]
  exact h.wp (fun v w' hv => hv _ hk)
theorem an_opP {o : Op} {i : Nat} (ho : ops[i]? = some ⟨some d, o, ty, pos, af, none⟩) (hk : Kn df n a l)
    (h : GivesP P ⟨some d, o, ty, pos, af, none⟩ a w (fun v w' => ∀ a', Kn df n a' ((d, v) :: l) → K a' w') (fun ch w' => Q (.panic ch) a w')) (hd : Nat.blt d n = true := by rfl) :
    wpOpIn (FR rr) 0 P ops Q i K a w := by
  unfold wpOpIn
  simp only [ho]
  rw [if_pos (wanted_none rfl _)]
  exact h.wp (fun v w' hv => hv _ (hk.put (d := some d) hd v)) (fun ch w' hv => hv)
end
end Go.Proofs.YtipdgobplfkipaaGreatDoor
namespace Go.Proofs.YtipdgobplfkipaaGreatDoor
open Go.RowKit

theorem Sep.split {w : World} : ∀ {L1 L2 : List HP} {F : Nat → Prop}, Sep (L1 ++ L2) F w → ∃ F1 F2 : Nat → Prop, (∀ b, F1 b → F b) ∧ (∀ b, F2 b → F b) ∧ (∀ b, F1 b → F2 b → False) ∧ Sep L1 F1 w ∧ Sep L2 F2 w
  | [], _, F, h => ⟨fun _ => False, F, fun _ h => h.elim, fun _ h => h, fun _ h _ => h, trivial, h⟩
  | A :: L1, L2, F, ⟨G1, G2, h1, h2, h3, h4, h5⟩ => by
    obtain ⟨F1, F2, k1, k2, k3, k4, k5⟩ := Sep.split (L1 := L1) h5
    exact ⟨fun b => G1 b ∨ F1 b, F2, fun b h => h.elim (h1 b) (fun h => h2 b (k1 b h)), fun b h => h2 b (k2 b h), fun b h1 hF => h1.elim (fun hG => h3 b hG (k2 b hF)) (fun hG => k3 b hG hF),
      ⟨G1, F1, fun b h => .inl h, fun b h => .inr h, fun b hG hF => h3 b hG (k1 b hF), h4, k4⟩, k5⟩

def bagH {α : Type} (A : α → List HP) (p : α → Prop) : HP where
  holds F w := (∀ b, F b → b < w.heap.size) ∧ ∃ x, p x ∧ Sep (A x) F w
  stable F w w' h hF := by
    obtain ⟨h1, x, hp, hs⟩ := h
    refine ⟨fun b hb => ?_, x, hp, hs.stable hF⟩
    have h2 := hF b hb
    rcases Nat.lt_or_ge b w'.heap.size with h | h
    · exact h
    · rw [Array.getElem?_eq_none h, Array.getElem?_eq_getElem (h1 b hb)] at h2; cases h2
  dom F w b h hb := h.1 b hb

theorem bagH.of {α : Type} {A : α → List HP} {p : α → Prop} {B : Bs} {w : World} {L : List HP} {x : α} (h : St B (A x ++ L) w) (hp : p x) : St B (bagH A p :: L) w := by
  obtain ⟨F, hF, hs⟩ := h.own
  obtain ⟨F1, F2, h1, h2, h3, h4, h5⟩ := hs.split
  exact ⟨h.below, h.frz, F, hF, F1, F2, h1, h2, h3, ⟨fun b hb => (hF b (h1 b hb)).2, x, hp, h4⟩, h5⟩

theorem St.bag {α : Type} {A : α → List HP} {p : α → Prop} {B : Bs} {w : World} {L L' : List HP} (h : St B L w) (hat : At (bagH A p) L L') : ∃ x, p x ∧ St B (A x ++ L') w := by
  obtain ⟨F, hF, hs⟩ := h.own
  obtain ⟨F1, F2, h1, h2, h3, ⟨_, x, hp, h4⟩, h5⟩ := hs.pull hat
  exact ⟨x, hp, h.below, h.frz, F, hF, (h4.append h5 h3).mono (fun b hb => hb.elim (h1 b) (h2 b))⟩

theorem bagH.rd {α : Type} {A : α → List HP} {p : α → Prop} {w : World} (h : (bagH A p).rd w) : ∃ x, p x ∧ ∃ F, Sep (A x) F w :=
  let ⟨F, _, x, hp, hs⟩ := h
  ⟨x, hp, F, hs⟩

noncomputable def only (F : Nat → Prop) (w : World) : World :=
  { w with heap := w.heap.mapIdx fun i o => @ite _ (F i) (Classical.propDecidable _) o dead }

theorem only_in {F : Nat → Prop} {w : World} {b : Nat} (h : F b) : (only F w).heap[b]? = w.heap[b]? := by
  classical
  simp only [only, Array.getElem?_mapIdx]
  cases hw : w.heap[b]? with
  | none => rfl
  | some o => simp [h]
theorem only_live {F : Nat → Prop} {w : World} {b : Nat} (h : live (only F w) b) : F b := by
  classical
  obtain ⟨o, h1, h2⟩ := h
  simp only [only, Array.getElem?_mapIdx] at h1
  cases hw : w.heap[b]? with
  | none => rw [hw] at h1; cases h1
  | some o' =>
    rw [hw] at h1
    simp only [Option.map_some, Option.some.injEq] at h1
    by_cases hf : F b
    · exact hf
    · rw [if_neg hf] at h1; exact absurd h1.symm h2
theorem only_frz (F : Nat → Prop) (w : World) : Frz (only F w) w := fun b o h1 h2 => by
  have hf := only_live ⟨o, h1, h2⟩
  rw [only_in hf] at h1
  exact h1

def rdH (R : World → Prop) : HP where
  holds F w := (∀ b, F b → b < w.heap.size) ∧ ∃ g : World, (∀ b, live g b → F b) ∧ Frz g w ∧ R g
  stable F w w' h hF := by
    obtain ⟨h1, g, hl, hz, hr⟩ := h
    refine ⟨fun b hb => ?_, g, hl, fun b o ho hd => ?_, hr⟩
    · have h2 := hF b hb
      rcases Nat.lt_or_ge b w'.heap.size with h | h
      · exact h
      · rw [Array.getElem?_eq_none h, Array.getElem?_eq_getElem (h1 b hb)] at h2; cases h2
    · rw [hF b (hl b ⟨o, ho, hd⟩)]; exact hz b o ho hd
  dom F w b h hb := h.1 b hb

def Stays (R : World → Prop) : Prop := ∀ g w, Frz g w → R g → R w

theorem rdH.rd {R : World → Prop} (hm : Stays R) {w : World} (h : (rdH R).rd w) : R w :=
  let ⟨_, _, g, _, hz, hr⟩ := h
  hm g w hz hr

theorem Sep.all {w : World} : ∀ {L : List HP} {F : Nat → Prop}, Sep L F w → ∀ A ∈ L, ∃ F', (∀ b, F' b → F b) ∧ A.holds F' w
  | A :: L, F, ⟨F1, F2, h1, h2, _, h4, h5⟩, B, hB => by
    rcases List.mem_cons.1 hB with rfl | hB
    · exact ⟨F1, h1, h4⟩
    · obtain ⟨F', k1, k2⟩ := Sep.all h5 B hB
      exact ⟨F', fun b hb => h2 b (k1 b hb), k2⟩

theorem rdH.of {R : World → Prop} {B : Bs} {w : World} {L1 L : List HP} (h : St B (L1 ++ L) w) (hr : ∀ g, (∀ A ∈ L1, A.rd g) → R g) : St B (rdH R :: L) w := by
  obtain ⟨F, hF, hs⟩ := h.own
  obtain ⟨F1, F2, h1, h2, h3, h4, h5⟩ := hs.split
  refine ⟨h.below, h.frz, F, hF, F1, F2, h1, h2, h3, ⟨fun b hb => (hF b (h1 b hb)).2, only F1 w, fun b => only_live, only_frz F1 w, hr _ fun A hA => ?_⟩, h5⟩
  obtain ⟨F', k1, k2⟩ := h4.all A hA
  exact ⟨F', A.stable _ _ _ k2 fun b hb => only_in (k1 b hb)⟩
end Go.Proofs.YtipdgobplfkipaaGreatDoor
namespace Go.Proofs.YtipdgobplfkipaaGreatDoor
open Go.RowKit

abbrev Opt := Int × Int × Int × Int × Bool × Bool
inductive Tree where
  | mk (k : Int) (tag key text : ByteArray) (cl : List ByteArray) (at_ : List (ByteArray × ByteArray)) (st : List (ByteArray × Int)) (o : Opt) (kids : List Tree)

abbrev NdH := Int × ByteArray × ByteArray × ByteArray × Hd × Hd × Hd × Opt × Hd
abbrev ndV (h : NdH) : Value := .agg (Enc.f h).toArray

inductive TrR (w : World) : Tree → NdH → Prop
  | mk {k : Int} {tag key text : ByteArray} {cl : List ByteArray} {at_ : List (ByteArray × ByteArray)} {st : List (ByteArray × Int)} {o : Opt} {kids : List Tree} {hc ha hs hk : Hd} {H : List NdH}
    (h1 : SlT cl hc.v w) (h2 : SlT at_ ha.v w) (h3 : SlT st hs.v w) (h4 : SlT H hk.v w) (hl : H.length = kids.length)
    (hr : ∀ (i : Nat) (t : Tree) (h : NdH), kids[i]? = some t → H[i]? = some h → TrR w t h) : TrR w (.mk k tag key text cl at_ st o kids) (k, tag, key, text, hc, ha, hs, o, hk)

theorem TrR.frz {w w' : World} {t : Tree} {h : NdH} (hr : TrR w t h) (hf : Frz w w') : TrR w' t h := by
  induction hr with
  | mk h1 h2 h3 h4 hl _ ih => exact .mk (h1.frz hf) (h2.frz hf) (h3.frz hf) (h4.frz hf) hl ih
theorem TrR.stays (t : Tree) (h : NdH) : Stays (fun w => TrR w t h) := fun _ _ hf hr => hr.frz hf

def FoR (w : World) (ts : List Tree) (H : List NdH) : Prop := H.length = ts.length ∧ ∀ (i : Nat) (t : Tree) (h : NdH), ts[i]? = some t → H[i]? = some h → TrR w t h
theorem FoR.frz {w w' : World} {ts : List Tree} {H : List NdH} (hr : FoR w ts H) (hf : Frz w w') : FoR w' ts H := ⟨hr.1, fun i t h h1 h2 => (hr.2 i t h h1 h2).frz hf⟩
theorem FoR.stays (ts : List Tree) (H : List NdH) : Stays (fun w => FoR w ts H) := fun _ _ hf hr => hr.frz hf
theorem FoR.nil (w : World) : FoR w [] [] := ⟨rfl, fun i t h h1 _ => by simp at h1⟩
theorem FoR.snoc {w : World} {ts : List Tree} {H : List NdH} {t : Tree} {h : NdH} (hF : FoR w ts H) (hT : TrR w t h) : FoR w (ts ++ [t]) (H ++ [h]) := by
  refine ⟨by simp [hF.1], fun i t' h' h1 h2 => ?_⟩
  rcases Nat.lt_or_ge i ts.length with hi | hi
  · rw [List.getElem?_append_left hi] at h1
    rw [List.getElem?_append_left (by rw [hF.1]; exact hi)] at h2
    exact hF.2 i t' h' h1 h2
  · rw [List.getElem?_append_right hi] at h1
    rw [List.getElem?_append_right (by rw [hF.1]; exact hi), hF.1] at h2
    cases hj : i - ts.length with
    | zero =>
      rw [hj] at h1 h2
      simp at h1 h2
      subst h1 h2
      exact hT
    | succ j => rw [hj] at h1; simp at h1

def appH {α : Type} [Enc α] (E : TypeId) (ys : List α) : Value → HP := match ys with
  | [] => emp0
  | y :: r => OwT E (y :: r)
theorem appH.rd {α : Type} [Enc α] {E : TypeId} {ys : List α} {v : Value} {w : World} (h : (appH E ys v).rd w) : SlT ys v w := by
  cases ys with
  | cons y r => exact OwT.rd h
  | nil =>
    obtain ⟨ao, rfl⟩ := emp0.get h
    refine ⟨by simp [enc], by simp [maxLen], ?_⟩
    cases ao with
    | none => exact .inl ⟨rfl, rfl⟩
    | some a => exact .inr ⟨a, 0, rfl, by simp, by simp [maxLen], fun j u hj => by simp [enc] at hj⟩

section
variable {df : List Deferred} {P : Program} {a : Act} {w : World} {n : Nat} {l : List (Nat × Value)} {dst : Option Nat} {ty : TypeId} {pos : String} {af : Array Edge} {g : Option (Nat × Bool)} {α : Type} [Enc α]
theorem v_appR {x y : Operand} {t tx : TypeId} {E E' : Nat} {v y0 z : Value} {ys : List α} (hk : Kn df n a l) (hv : (emp0 v).rd w)
    (hT : elOf P t = some E) (hTx : elOf P tx = some E') (hE : szOf P E = some (Enc.k α + 1)) (hz : zeroOf P E = some z) (hzs : z.cells.size = Enc.k α + 1) (hs : SlT ys y0 w) {by_ : Nat} (hby : ((P.info? E).map (·.bytes)).getD 0 = by_) (hbytes : ys.length * by_ ≤ 140737488355328) (h63 : ys.length ≤ maxLen)
    (hx : ev l x = some v := by rfl) (hy : ev l y = some y0 := by rfl) :
    Gives P ⟨dst, .call { callee := .builtin .append, args := #[x, y], argTypes := #[t, tx] }, ty, pos, af, g⟩ a w (fun v' w' => St w [appH E ys v'] w') := by
  cases ys with
  | cons u r => exact v_app0 (ys := u :: r) hk hv (by simp) hT hTx hE hz hzs hs hby hbytes h63 hx hy
  | nil =>
    have hv' : SlT ([] : List α) v w := appH.rd (E := E) hv
    refine (v_appN (α := α) hk hv' hT hTx hE hz hs hx hy).mono ?_
    rintro v' w' ⟨rfl, hS⟩
    obtain ⟨ao, rfl⟩ := emp0.get hv
    obtain ⟨F, hF, _⟩ := hS.own
    exact ⟨hS.below, hS.frz, F, hF, fun _ => False, F, fun _ h => h.elim, fun _ h => h, fun _ h _ => h, ⟨fun _ h => h, ao, rfl⟩, trivial⟩
theorem v_app2 {w0 : Bs} {X : List HP} {x y : Operand} {t tx : TypeId} {E E' : Nat} {v y0 z : Value} {xs ys : List α} (hk : Kn df n a l) (hS : St w0 (appH E xs v :: X) w)
    (hT : elOf P t = some E) (hTx : elOf P tx = some E') (hE : szOf P E = some (Enc.k α + 1)) (hz : zeroOf P E = some z) (hzs : z.cells.size = Enc.k α + 1) (hs : SlT ys y0 w) {by_ : Nat} (hby : ((P.info? E).map (·.bytes)).getD 0 = by_) (hbytes : (xs.length + ys.length) * by_ ≤ 140737488355328) (h63 : xs.length + ys.length ≤ maxLen)
    (hx : ev l x = some v := by rfl) (hy : ev l y = some y0 := by rfl) :
    Gives P ⟨dst, .call { callee := .builtin .append, args := #[x, y], argTypes := #[t, tx] }, ty, pos, af, g⟩ a w (fun v' w' => St w0 (appH E (xs ++ ys) v' :: X) w') := by
  cases xs with
  | cons u r => exact v_app hk hS hx hy hT hTx hs hE hz hzs hby hbytes h63
  | nil =>
    rw [List.length_nil, Nat.zero_add] at hbytes h63
    refine (v_appR (ys := ys) hk (hS.rd .here) hT hTx hE hz hzs hs hby hbytes h63 hx hy).mono ?_
    intro v' w' hS'
    exact (hS.call hS').sub (.cons .here .cons_drop)
end

abbrev treeR (t : Tree) (h : NdH) : HP := rdH (fun w => TrR w t h)
abbrev forR (ts : List Tree) (H : List NdH) : HP := rdH (fun w => FoR w ts H)
def treeH (t : Tree) (v : Value) : HP := bagH (fun h : NdH => [treeR t h]) (fun h => v = ndV h)

section
variable {B : Bs} {w : World} {L L' : List HP}
theorem treeR.of {k : Int} {tag key text : ByteArray} {cl : List ByteArray} {at_ : List (ByteArray × ByteArray)} {st : List (ByteArray × Int)} {o : Opt} {kids : List Tree} {hc ha hs hk : Hd} {H : List NdH} {A1 A2 A3 A4 : HP}
    (h : St B (A1 :: A2 :: A3 :: A4 :: forR kids H :: L) w) (h1 : ∀ g, A1.rd g → SlT cl hc.v g := by exact fun g h => by first | exact OwT.rd h | exact appH.rd h) (h2 : ∀ g, A2.rd g → SlT at_ ha.v g := by exact fun g h => OwT.rd h)
    (h3 : ∀ g, A3.rd g → SlT st hs.v g := by exact fun g h => OwT.rd h) (h4 : ∀ g, A4.rd g → SlT H hk.v g := by exact fun g h => OwT.rd h) : St B (treeR (.mk k tag key text cl at_ st o kids) (k, tag, key, text, hc, ha, hs, o, hk) :: L) w := by
  refine rdH.of (L1 := [A1, A2, A3, A4, forR kids H]) h fun g hg => ?_
  have hF : FoR g kids H := rdH.rd (FoR.stays kids H) (hg _ (by simp))
  exact .mk (h1 g (hg A1 (by simp))) (h2 g (hg A2 (by simp))) (h3 g (hg A3 (by simp))) (h4 g (hg A4 (by simp))) hF.1 hF.2
theorem treeH.of {t : Tree} {h : NdH} (hS : St B (treeR t h :: L) w) : St B (treeH t (ndV h) :: L) w := bagH.of (A := fun h : NdH => [treeR t h]) (x := h) hS rfl
theorem St.tree {t : Tree} {v : Value} (hS : St B L w) (hat : At (treeH t v) L L') : ∃ h, v = ndV h ∧ St B (treeR t h :: L') w := St.bag hS hat
theorem St.trR {t : Tree} {h : NdH} (hS : St B L w) (hat : At (treeR t h) L L') : TrR w t h := rdH.rd (TrR.stays t h) (hS.rd hat)
theorem St.foR {ts : List Tree} {H : List NdH} (hS : St B L w) (hat : At (forR ts H) L L') : FoR w ts H := rdH.rd (FoR.stays ts H) (hS.rd hat)
theorem forR.nil (hS : St B L w) : St B (forR [] [] :: L) w := rdH.of (L1 := []) hS fun g _ => FoR.nil g
theorem forR.snoc {ts : List Tree} {H : List NdH} {t : Tree} {h : NdH} (hS : St B (treeR t h :: forR ts H :: L) w) : St B (forR (ts ++ [t]) (H ++ [h]) :: L) w :=
  rdH.of (L1 := [treeR t h, forR ts H]) hS fun g hg => (rdH.rd (FoR.stays ts H) (hg _ (by simp))).snoc (rdH.rd (TrR.stays t h) (hg _ (by simp)))
abbrev forR2 (ts us : List Tree) (H K : List NdH) : HP := rdH (fun w => FoR w ts H ∧ FoR w us K)
theorem St.rdTr {t : Tree} {h : NdH} (hS : St B L w) (hr : TrR B.g t h) : TrR w t h := hr.frz hS.frz
theorem St.rdFo {ts : List Tree} {H : List NdH} (hS : St B L w) (hr : FoR B.g ts H) : FoR w ts H := hr.frz hS.frz
theorem treeH.rd {t : Tree} {v : Value} (h : (treeH t v).rd w) : ∃ h, v = ndV h ∧ TrR w t h := by
  obtain ⟨x, hp, F, F1, _, _, _, _, h4, _⟩ := bagH.rd h
  exact ⟨x, hp, rdH.rd (TrR.stays t x) ⟨F1, h4⟩⟩
end

instance : Inhabited Hd := ⟨⟨none, 0, 0⟩⟩
open Classical in
noncomputable def ndOf (v : Value) : NdH := if h : ∃ x, v = ndV x then Classical.choose h else default
theorem hdv_inj {a b : Hd} (h : a.v = b.v) : a = b := by
  cases a; cases b
  simp only [Hd.v, Value.slice.injEq] at h
  obtain ⟨rfl, rfl, rfl⟩ := h
  rfl
theorem SlT.hd {α : Type} [Enc α] {xs : List α} {h : Hd} {w : World} (hs : SlT xs h.v w) : ∃ a m, h = ⟨a, xs.length, m⟩ := by
  obtain ⟨a, m, e, _⟩ := hs.shape
  exact ⟨a, m, hdv_inj e⟩
theorem TrR.split {w : World} {t : Tree} {h : NdH} (hr : TrR w t h) : ∃ k tag key text cl al sl e lv m d p q kids a1 m1 a2 m2 a3 m3 a4 m4, ∃ H : List NdH, t = .mk k tag key text cl al sl (e, lv, m, d, p, q) kids ∧
    h = (k, tag, key, text, ⟨a1, cl.length, m1⟩, ⟨a2, al.length, m2⟩, ⟨a3, sl.length, m3⟩, (e, lv, m, d, p, q), ⟨a4, H.length, m4⟩) ∧
    SlT cl (.slice a1 cl.length m1) w ∧ SlT al (.slice a2 al.length m2) w ∧ SlT sl (.slice a3 sl.length m3) w ∧ SlT H (.slice a4 H.length m4) w ∧ FoR w kids H := by
  obtain ⟨c1, c2, c3, c4, hl, hkr⟩ := hr
  rename_i k tag key text cl al sl o kids hc ha hs hk0 H
  obtain ⟨e, lv, m, d, p, q⟩ := o
  obtain ⟨a1, m1, rfl⟩ := c1.hd
  obtain ⟨a2, m2, rfl⟩ := c2.hd
  obtain ⟨a3, m3, rfl⟩ := c3.hd
  obtain ⟨a4, m4, rfl⟩ := c4.hd
  exact ⟨k, tag, key, text, cl, al, sl, e, lv, m, d, p, q, kids, a1, m1, a2, m2, a3, m3, a4, m4, H, rfl, rfl, c1, c2, c3, c4, hl, hkr⟩
theorem ndV_inj {x y : NdH} (h : ndV x = ndV y) : x = y := by
  obtain ⟨k, tag, key, text, hc, ha, hs, ⟨e, l, m, d, p, q⟩, hk⟩ := x
  obtain ⟨k', tag', key', text', hc', ha', hs', ⟨e', l', m', d', p', q'⟩, hk'⟩ := y
  have h2 : ([.int .i64 k, .string tag, .string key, .string text, hc.v, ha.v, hs.v, .int .i64 e, .int .i64 l, .int .i64 m, .int .i64 d, .bool p, .bool q, hk.v] : List Value)
    = [.int .i64 k', .string tag', .string key', .string text', hc'.v, ha'.v, hs'.v, .int .i64 e', .int .i64 l', .int .i64 m', .int .i64 d', .bool p', .bool q', hk'.v] := by
    have := congrArg Value.cells h
    exact congrArg Array.toList this
  simp only [List.cons.injEq, Value.int.injEq, Value.string.injEq, Value.bool.injEq, true_and, and_true] at h2
  obtain ⟨rfl, rfl, rfl, rfl, h5, h6, h7, rfl, rfl, rfl, rfl, rfl, rfl, h8⟩ := h2
  rw [hdv_inj h5, hdv_inj h6, hdv_inj h7, hdv_inj h8]
theorem ndOf_ndV (x : NdH) : ndOf (ndV x) = x := by
  unfold ndOf
  rw [dif_pos ⟨x, rfl⟩]
  exact (ndV_inj (Classical.choose_spec (p := fun y => ndV x = ndV y) ⟨x, rfl⟩)).symm

def Tree.kids : Tree → List Tree
  | .mk _ _ _ _ _ _ _ _ ks => ks
theorem kid_lt {k : Int} {tag key text : ByteArray} {cl : List ByteArray} {at_ : List (ByteArray × ByteArray)} {st : List (ByteArray × Int)} {o : Opt} {kids : List Tree} {t : Tree} (h : t ∈ kids) : SizeOf.sizeOf t < SizeOf.sizeOf (Tree.mk k tag key text cl at_ st o kids) := by
  have := List.sizeOf_lt_of_mem h
  simp only [Tree.mk.sizeOf_spec]
  omega
inductive Fits : Tree → Prop
  | mk {k : Int} {tag key text : ByteArray} {cl : List ByteArray} {at_ : List (ByteArray × ByteArray)} {st : List (ByteArray × Int)} {o : Opt} {kids : List Tree}
    (h1 : cl.length ≤ 100) (h2 : at_.length ≤ 100) (h3 : st.length ≤ 100) (h4 : kids.length ≤ 1000) (h5 : ∀ t ∈ kids, Fits t) : Fits (.mk k tag key text cl at_ st o kids)
end Go.Proofs.YtipdgobplfkipaaGreatDoor
namespace Go.Proofs.YtipdgobplfkipaaGreatDoor
open Lib (decDigits itoa)

def digB (b : UInt8) : Bool := decide (48 ≤ b.toNat ∧ b.toNat ≤ 57)
def valL (l : List UInt8) : Nat := l.foldl (fun n b => 10 * n + (b.toNat - 48)) 0
theorem val_snoc (l : List UInt8) (b : UInt8) : valL (l ++ [b]) = 10 * valL l + (b.toNat - 48) := by
  unfold valL
  rw [List.foldl_append]; rfl
theorem head_app {a c : List UInt8} (h : a ≠ []) : (a ++ c).head? = a.head? := by
  cases a with
  | nil => exact absurd rfl h
  | cons x r => rfl
theorem u8_of {k : Nat} (h : k < 10) : (UInt8.ofNat (48 + k)).toNat = 48 + k := by
  rw [UInt8.toNat_ofNat']
  omega
theorem dec_small {u : Nat} (h : u < 10) : decDigits u = [UInt8.ofNat (48 + u)] := Lib.decDigits_one h
theorem dec_big {u : Nat} (h : ¬ u < 10) : decDigits u = decDigits (u / 10) ++ [UInt8.ofNat (48 + u % 10)] := by
  rw [decDigits, dif_neg h]
theorem dec_facts : ∀ u : Nat, valL (decDigits u) = u ∧ (decDigits u).all digB = true ∧ decDigits u ≠ [] ∧ ((decDigits u).head? = some 48 → u = 0) := by
  intro u
  induction u using Nat.strongRecOn with
  | _ u ih =>
    by_cases h : u < 10
    · rw [dec_small h]
      have e := u8_of h
      refine ⟨?_, ?_, by simp, fun hh => ?_⟩
      · show 10 * 0 + ((UInt8.ofNat (48 + u)).toNat - 48) = u
        rw [e]; omega
      · simp only [List.all_cons, List.all_nil, Bool.and_true, digB, e, decide_eq_true_eq]; omega
      · simp only [List.head?_cons, Option.some.injEq] at hh
        rw [hh] at e
        have : (48 : UInt8).toNat = 48 := rfl
        omega
    · obtain ⟨h1, h2, h3, h4⟩ := ih (u / 10) (by omega)
      rw [dec_big h]
      have e := u8_of (k := u % 10) (by omega)
      refine ⟨?_, ?_, by simp, fun hh => ?_⟩
      · rw [val_snoc, h1, e]; omega
      · rw [List.all_append, h2]
        simp only [List.all_cons, List.all_nil, Bool.and_true, digB, e, decide_eq_true_eq, Bool.true_and]; omega
      · rw [head_app h3] at hh
        have := h4 hh
        omega
theorem u8_ext {a c : UInt8} (h : a.toNat = c.toNat) : a = c := UInt8.toNat_inj.1 h
theorem val_pos : ∀ (n : Nat) (d : List UInt8), d.length = n → d.all digB = true → d ≠ [] → d.head? ≠ some 48 → 1 ≤ valL d
  | 0, d, hl, _, hne, _ => absurd (List.eq_nil_of_length_eq_zero hl) hne
  | n + 1, d, hl, hd, hne, hh => by
    rcases List.eq_nil_or_concat d with rfl | ⟨e, b, rfl⟩
    · exact absurd rfl hne
    · rw [List.concat_eq_append] at *
      rw [List.all_append] at hd
      simp only [Bool.and_eq_true, List.all_cons, List.all_nil, Bool.and_true] at hd
      rw [val_snoc]
      by_cases he : e = []
      · subst he
        have hb := hd.2
        simp only [digB, decide_eq_true_eq] at hb
        have : b.toNat ≠ 48 := fun h => hh (by simp only [List.nil_append, List.head?_cons, Option.some.injEq]; exact u8_ext h)
        omega
      · rw [head_app he] at hh
        have := val_pos n e (by simp at hl; exact hl) hd.1 he hh
        omega
theorem dec_val : ∀ (n : Nat) (d : List UInt8), d.length = n → d.all digB = true → d ≠ [] → (d.head? = some 48 → d.length = 1) → decDigits (valL d) = d
  | 0, d, hl, _, hne, _ => absurd (List.eq_nil_of_length_eq_zero hl) hne
  | n + 1, d, hl, hd, hne, hh => by
    rcases List.eq_nil_or_concat d with rfl | ⟨e, b, rfl⟩
    · exact absurd rfl hne
    · rw [List.concat_eq_append] at *
      rw [List.all_append] at hd
      simp only [Bool.and_eq_true, List.all_cons, List.all_nil, Bool.and_true] at hd
      have hb := hd.2
      simp only [digB, decide_eq_true_eq] at hb
      rw [val_snoc]
      by_cases he : e = []
      · subst he
        have : valL ([] : List UInt8) = 0 := rfl
        rw [this, dec_small (by omega), List.nil_append]
        congr 1
        exact u8_ext (by rw [Nat.mul_zero, Nat.zero_add, u8_of (by omega)]; omega)
      · rw [head_app he] at hh
        have hne48 : e.head? ≠ some 48 := fun h => by
          have := hh h
          have hp : 0 < e.length := List.length_pos_iff.2 he
          simp at this
          exact he this
        have h1 := val_pos e.length e rfl hd.1 he hne48
        rw [dec_big (by omega)]
        have ih := dec_val n e (by simp at hl; exact hl) hd.1 he (fun h => absurd h hne48)
        rw [show (10 * valL e + (b.toNat - 48)) / 10 = valL e by omega, ih]
        congr 2
        exact u8_ext (by rw [u8_of (by omega)]; omega)
def sgnL (L : List UInt8) : Bool := decide (L.head? = some 45)
def digL (L : List UInt8) : List UInt8 := if sgnL L then L.tail else L
def numL (L : List UInt8) : Int := if sgnL L then -((valL (digL L) : Nat) : Int) else ((valL (digL L) : Nat) : Int)
def badD (L : List UInt8) : Prop := digL L = [] ∨ 10 < (digL L).length ∨ (digL L).all digB = false
def zerD (L : List UInt8) : Prop := (digL L).head? = some 48 ∧ (1 < (digL L).length ∨ sgnL L = true)
def outR (m : Int) : Prop := m < -2147483648 ∨ 2147483647 < m
instance (L : List UInt8) : Decidable (badD L) := by unfold badD; infer_instance
instance (L : List UInt8) : Decidable (zerD L) := by unfold zerD; infer_instance
instance (m : Int) : Decidable (outR m) := by unfold outR; infer_instance
def numP (L : List UInt8) : Int × Bool := if badD L ∨ zerD L ∨ outR (numL L) then (0, false) else (numL L, true)
theorem sgn_eq {L : List UInt8} (h : sgnL L = true) : L = 45 :: digL L := by
  unfold digL
  rw [if_pos h]
  unfold sgnL at h
  simp only [decide_eq_true_eq] at h
  cases L with
  | nil => cases h
  | cons a r => simp only [List.head?_cons, Option.some.injEq] at h; rw [h]; rfl
theorem sgn_not {L : List UInt8} (h : sgnL L = false) : L = digL L := by
  unfold digL
  rw [h]; rfl
theorem itoa_num {L : List UInt8} (h : ¬ badD L) : itoa (numL L) = L ↔ ¬ zerD L := by
  have h1 : digL L ≠ [] := fun e => h (.inl e)
  have h2 : (digL L).all digB = true := by
    cases e : (digL L).all digB with
    | true => rfl
    | false => exact absurd (.inr (.inr e)) h
  obtain ⟨f1, f2, f3, f4⟩ := dec_facts (valL (digL L))
  cases hs : sgnL L with
  | false =>
    have hL := sgn_not hs
    have hn : numL L = ((valL (digL L) : Nat) : Int) := by unfold numL; rw [hs]; rfl
    have hi : itoa (numL L) = decDigits (valL (digL L)) := by
      rw [hn]
      unfold itoa
      rw [if_neg (by omega)]; simp
    rw [hi]
    constructor
    · rintro e ⟨g1, g2⟩
      rw [e] at f4
      rw [hL] at f4
      rw [← hL] at f4
      have hz := f4 (by rw [hL]; exact g1)
      rw [hz] at e
      have : decDigits 0 = [UInt8.ofNat 48] := dec_small (by omega)
      rw [this] at e
      rcases g2 with g2 | g2
      · rw [← hL, ← e] at g2; simp at g2
      · rw [hs] at g2; cases g2
    · intro hz
      conv => rhs; rw [hL]
      refine dec_val _ _ rfl h2 h1 (fun g => ?_)
      have : ¬ 1 < (digL L).length := fun g2 => hz ⟨g, .inl g2⟩
      have hp : 0 < (digL L).length := List.length_pos_iff.2 h1
      omega
  | true =>
    have hL := sgn_eq hs
    have hn : numL L = -((valL (digL L) : Nat) : Int) := by unfold numL; rw [hs]; rfl
    constructor
    · rintro e ⟨g1, _⟩
      rw [hn] at e
      by_cases hv : valL (digL L) = 0
      · rw [hv] at e
        have : itoa (-((0 : Nat) : Int)) = [UInt8.ofNat 48] := by
          unfold itoa
          rw [if_neg (by omega)]
          exact dec_small (by omega)
        rw [this, hL] at e
        simp at e
      · have hi : itoa (-((valL (digL L) : Nat) : Int)) = 45 :: decDigits (valL (digL L)) := by
          unfold itoa
          rw [if_pos (by omega)]
          simp
        rw [hi] at e
        conv at e => rhs; rw [hL]
        simp only [List.cons.injEq, true_and] at e
        exact hv (f4 (by rw [e]; exact g1))
    · intro hz
      have g : (digL L).head? ≠ some 48 := fun g => hz ⟨g, .inr hs⟩
      have hv := val_pos _ _ rfl h2 h1 g
      rw [hn]
      have hi : itoa (-((valL (digL L) : Nat) : Int)) = 45 :: decDigits (valL (digL L)) := by
        unfold itoa
        rw [if_pos (by omega)]
        simp
      rw [hi]
      conv => rhs; rw [hL]
      rw [dec_val _ _ rfl h2 h1 (fun h => absurd h g)]
end Go.Proofs.YtipdgobplfkipaaGreatDoor
namespace Go.Proofs.YtipdgobplfkipaaGreatDoor
open Go.RowKit
set_option maxRecDepth 100000
attribute [local irreducible] Go.Code.wpIn Go.wpListIn Go.Calls Gives Go.Exit.then Go.Exit.inBlock Done ObxE

def letB (b : UInt8) : Bool := decide (97 ≤ b.toNat ∧ b.toNat ≤ 122)
def plaB (b : UInt8) : Bool := decide ((97 ≤ b.toNat ∧ b.toNat ≤ 122) ∨ (48 ≤ b.toNat ∧ b.toNat ≤ 57) ∨ b.toNat = 45)
def visB (b : UInt8) : Bool := decide (32 < b.toNat ∧ b.toNat ≤ 126 ∧ b.toNat ≠ 39 ∧ b.toNat ≠ 40 ∧ b.toNat ≠ 41)
def priB (b : UInt8) : Bool := decide (32 ≤ b.toNat ∧ b.toNat ≤ 126 ∧ b.toNat ≠ 39)
theorem byte_at {s : ByteArray} {i : Nat} (h : i < s.size) : s.data.toList[i]? = some s[i] := by
  rw [List.getElem?_eq_getElem (by simpa using h)]
  congr 1
theorem all_take {s : ByteArray} {i : Nat} (h : i < s.size) (p : UInt8 → Bool) : (s.data.toList.take (i + 1)).all p = ((s.data.toList.take i).all p && p s[i]) := by
  rw [List.take_add_one, byte_at h, List.all_append]
  simp
theorem all_no {s : ByteArray} {i : Nat} (h : i < s.size) {p : UInt8 → Bool} (hp : p s[i] = false) : s.data.toList.all p = false := by
  have hs : s.data.toList = s.data.toList.take (i + 1) ++ s.data.toList.drop (i + 1) := (List.take_append_drop _ _).symm
  rw [hs, List.all_append, all_take h, hp]
  simp
theorem all_full (s : ByteArray) : s.data.toList.take s.size = s.data.toList := List.take_of_length_le (by simp)
theorem emp_iff {s : ByteArray} : s = ⟨#[]⟩ ↔ s.size = 0 := by
  constructor
  · rintro rfl; rfl
  · intro h
    cases s with
    | mk d => congr 1; exact Array.eq_empty_of_size_eq_zero h
def keyS (s : ByteArray) : Bool := decide (1 ≤ s.size ∧ s.size ≤ 16) && s.data.toList.all plaB
def nameS (s : ByteArray) : Bool := keyS s && (match s.data.toList with | [] => false | a :: _ => letB a)
def valS (s : ByteArray) : Bool := decide (s.size ≤ 32) && s.data.toList.all visB
def txtS (s : ByteArray) : Bool := decide (s.size ≤ 64) && s.data.toList.all priB
def rsvS (s : ByteArray) : Bool := decide (2 ≤ s.size ∧ s.extract 0 2 = ⟨#[116, 45]⟩)
def chkS (s : ByteArray) : Int := if nameS s then (if rsvS s then 6 else 0) else 2
theorem head_at {s : ByteArray} (h : 0 < s.size) : (match s.data.toList with | [] => false | a :: _ => letB a) = letB s[0] := by
  have := byte_at h
  cases hl : s.data.toList with
  | nil => rw [hl] at this; cases this
  | cons a r => rw [hl] at this; simp only [List.getElem?_cons_zero, Option.some.injEq] at this; rw [this]

end Go.Proofs.YtipdgobplfkipaaGreatDoor
namespace Go.Proofs.YtipdgobplfkipaaGreatDoor

def scanN (p : UInt8 → Bool) (s : ByteArray) : Nat → Nat → Nat
  | 0, i => i
  | n + 1, i => if h : i < s.size then (if p s[i] = true then scanN p s n (i + 1) else i) else i
def scan (p : UInt8 → Bool) (s : ByteArray) (i : Nat) : Nat := scanN p s (s.size - i) i
theorem scan_yes {p : UInt8 → Bool} {s : ByteArray} {i : Nat} (h : i < s.size) (hp : p s[i] = true) : scan p s i = scan p s (i + 1) := by
  unfold scan
  rw [show s.size - i = (s.size - (i + 1)) + 1 by omega, scanN, dif_pos h, if_pos hp]
theorem scan_no {p : UInt8 → Bool} {s : ByteArray} {i : Nat} (h : i < s.size) (hp : ¬ p s[i] = true) : scan p s i = i := by
  unfold scan
  rw [show s.size - i = (s.size - (i + 1)) + 1 by omega, scanN, dif_pos h, if_neg hp]
theorem scan_end {p : UInt8 → Bool} {s : ByteArray} {i : Nat} (h : ¬ i < s.size) : scan p s i = i := by
  unfold scan
  rw [show s.size - i = 0 by omega, scanN]
theorem scan_ge (p : UInt8 → Bool) (s : ByteArray) : ∀ (n i : Nat), s.size - i ≤ n → i ≤ scan p s i
  | 0, i, hn => by rw [scan_end (by omega)]; exact Nat.le_refl _
  | n + 1, i, hn => by
    by_cases h : i < s.size
    · by_cases hp : p s[i] = true
      · rw [scan_yes h hp]; exact Nat.le_trans (Nat.le_succ i) (scan_ge p s n (i + 1) (by omega))
      · rw [scan_no h hp]; exact Nat.le_refl _
    · rw [scan_end h]; exact Nat.le_refl _
theorem scan_le (p : UInt8 → Bool) (s : ByteArray) : ∀ (n i : Nat), s.size - i ≤ n → i ≤ s.size → scan p s i ≤ s.size
  | 0, i, hn, hi => by rw [scan_end (by omega)]; exact hi
  | n + 1, i, hn, hi => by
    by_cases h : i < s.size
    · by_cases hp : p s[i] = true
      · rw [scan_yes h hp]; exact scan_le p s n (i + 1) (by omega) (by omega)
      · rw [scan_no h hp]; exact hi
    · rw [scan_end h]; exact hi
theorem scan_stop (p : UInt8 → Bool) (s : ByteArray) : ∀ (n i : Nat), s.size - i ≤ n → (h : scan p s i < s.size) → ¬ p s[scan p s i] = true
  | 0, i, hn, h => by
    have e := scan_end (p := p) (s := s) (i := i) (by omega)
    rw [e] at h
    omega
  | n + 1, i, hn, h => by
    by_cases hi : i < s.size
    · by_cases hp : p s[i] = true
      · have e := scan_yes hi hp
        have := scan_stop p s n (i + 1) (by omega) (by rw [← e]; exact h)
        simp only [e]
        exact this
      · simp only [scan_no hi hp]
        exact hp
    · rw [scan_end hi] at h
      exact absurd h hi

def blkB (b : UInt8) : Bool := decide (b.toNat = 32)
def nqB (b : UInt8) : Bool := !decide (b.toNat = 39)
structure Tok where
  kind : Nat
  at_ : Nat
  txt : ByteArray
  till : Nat
deriving DecidableEq
def priL (b : UInt8) : Bool := decide (32 ≤ b.toNat ∧ b.toNat ≤ 126)
def tokF (s : ByteArray) (i : Nat) : Tok :=
  let j := scan blkB s i
  if h : j < s.size then
    if s[j].toNat = 40 then ⟨1, j, ⟨#[]⟩, j + 1⟩
    else if s[j].toNat = 41 then ⟨2, j, ⟨#[]⟩, j + 1⟩
    else if s[j].toNat = 39 then
      let e := scan nqB s (j + 1)
      if e < s.size ∧ (s.extract (j + 1) e).data.toList.all priL = true then ⟨3, j, s.extract (j + 1) e, e + 1⟩ else ⟨5, j, ⟨#[]⟩, j⟩
    else if visB s[j] = true then ⟨4, j, s.extract j (scan visB s j), scan visB s j⟩
    else ⟨5, j, ⟨#[]⟩, j⟩
  else ⟨0, s.size, ⟨#[]⟩, s.size⟩

structure Itm where
  k : Int
  tag : ByteArray
  key : ByteArray
  cl : List ByteArray
  al : List (ByteArray × ByteArray)
  sl : List (ByteArray × Int)
  o : Opt
def cutE (w : ByteArray) : Option (ByteArray × ByteArray) :=
  let j := scan (fun b => !decide (b.toNat = 61)) w 0
  if j < w.size then some (w.extract 0 j, w.extract (j + 1) w.size) else none
def nmE (w : ByteArray) : ByteArray := match cutE w with
  | some (a, _) => a
  | none => w
def whatF (w : ByteArray) : Option ByteArray :=
  match w.data.toList with
  | 46 :: _ => none
  | 35 :: _ => some ⟨#[35]⟩
  | 64 :: _ => some (nmE w)
  | 33 :: _ => if w = ⟨#[33, 103, 114, 111, 117, 112]⟩ ∨ w = ⟨#[33, 115, 108, 111, 116]⟩ then some ⟨#[33, 107, 105, 110, 100]⟩
      else if w = ⟨#[33, 111, 117, 116, 45, 105, 110]⟩ ∨ w = ⟨#[33, 105, 110, 45, 111, 117, 116]⟩ then some ⟨#[33, 109, 111, 100, 101]⟩ else some (nmE w)
  | _ => some (⟨#[61]⟩ ++ nmE w)
def wGroup : ByteArray := ⟨#[33, 103, 114, 111, 117, 112]⟩
def wSlot : ByteArray := ⟨#[33, 115, 108, 111, 116]⟩
def wOutIn : ByteArray := ⟨#[33, 111, 117, 116, 45, 105, 110]⟩
def wInOut : ByteArray := ⟨#[33, 105, 110, 45, 111, 117, 116]⟩
def wAppear : ByteArray := ⟨#[33, 97, 112, 112, 101, 97, 114]⟩
def wMoves : ByteArray := ⟨#[33, 109, 111, 118, 101, 115]⟩
def wEnter : ByteArray := ⟨#[33, 101, 110, 116, 101, 114]⟩
def wLeave : ByteArray := ⟨#[33, 108, 101, 97, 118, 101]⟩
def wMove : ByteArray := ⟨#[33, 109, 111, 118, 101]⟩
def addF (n : Itm) (w : ByteArray) : Option Itm :=
  match w.data.toList with
  | [] => none
  | c :: _ =>
    let rest := w.extract 1 w.size
    if c.toNat = 35 then (if keyS rest = true then some { n with key := rest } else none)
    else if c.toNat = 46 then (if nameS rest = true then some { n with cl := n.cl ++ [rest] } else none)
    else if c.toNat = 64 then (match cutE rest with
      | some (a, v) => if nameS a = true ∧ valS v = true then some { n with al := n.al ++ [(a, v)] } else none
      | none => none)
    else if c.toNat = 33 then
      if w = wGroup then some { n with k := 3 }
      else if w = wSlot then some { n with k := 4 }
      else if w = wOutIn then some { n with o := (n.o.1, n.o.2.1, n.o.2.2.1, 1, n.o.2.2.2.2.1, n.o.2.2.2.2.2) }
      else if w = wInOut then some { n with o := (n.o.1, n.o.2.1, n.o.2.2.1, 2, n.o.2.2.2.2.1, n.o.2.2.2.2.2) }
      else if w = wAppear then some { n with o := (n.o.1, n.o.2.1, n.o.2.2.1, n.o.2.2.2.1, true, n.o.2.2.2.2.2) }
      else if w = wMoves then some { n with o := (n.o.1, n.o.2.1, n.o.2.2.1, n.o.2.2.2.1, n.o.2.2.2.2.1, true) }
      else (match cutE w with
        | some (a, v) => if (numP v.data.toList).2 = true then
            (if a = wEnter then some { n with o := ((numP v.data.toList).1, n.o.2.1, n.o.2.2.1, n.o.2.2.2.1, n.o.2.2.2.2.1, n.o.2.2.2.2.2) }
             else if a = wLeave then some { n with o := (n.o.1, (numP v.data.toList).1, n.o.2.2.1, n.o.2.2.2.1, n.o.2.2.2.2.1, n.o.2.2.2.2.2) }
             else if a = wMove then some { n with o := (n.o.1, n.o.2.1, (numP v.data.toList).1, n.o.2.2.2.1, n.o.2.2.2.2.1, n.o.2.2.2.2.2) }
             else none) else none
        | none => none)
    else (match cutE w with
      | some (a, v) => if nameS a = true ∧ (numP v.data.toList).2 = true then some { n with sl := n.sl ++ [(a, (numP v.data.toList).1)] } else none
      | none => none)
def itemF (n : Itm) (w : ByteArray) (seen : List ByteArray) : Option (Itm × List ByteArray) :=
  match addF n w with
  | none => none
  | some m => match whatF w with
    | none => some (m, seen)
    | some x => if seen.any (fun y => decide (y = x)) = true then none else some (m, seen ++ [x])
def Itm.tree (n : Itm) (kids : List Tree) : Tree := .mk n.k n.tag n.key ⟨#[]⟩ n.cl n.al n.sl n.o kids
abbrev o0 : Opt := (0, 0, 0, 0, false, false)
inductive Rd (α : Type) where
  | ok (x : α) (at_ : Nat)
  | no (at_ : Nat) (e : Int)
mutual
def viewF (s : ByteArray) : Nat → Nat → Nat → Rd Tree
  | 0, i, _ => .no i 0
  | f + 1, i, op =>
    let t := tokF s i
    if t.kind = 3 then .ok (.mk 1 ⟨#[]⟩ ⟨#[]⟩ t.txt [] [] [] o0 []) t.till
    else if t.kind = 1 then
      if 40 ≤ op then .no t.at_ 7
      else
        let g := tokF s t.till
        if g.kind = 4 ∧ nameS g.txt = true then elemF s f g.till (op + 1) ⟨2, g.txt, ⟨#[]⟩, [], [], [], o0⟩ [] []
        else .no g.at_ 2
    else .no t.at_ 2
def elemF (s : ByteArray) : Nat → Nat → Nat → Itm → List ByteArray → List Tree → Rd Tree
  | 0, i, _, _, _, _ => .no i 0
  | f + 1, i, op, n, seen, kids =>
    let t := tokF s i
    if t.kind = 2 then .ok (n.tree kids) t.till
    else if t.kind = 4 then
      match itemF n t.txt seen with
      | some (m, more) => elemF s f t.till op m more kids
      | none => .no t.at_ 2
    else
      match viewF s f i op with
      | .ok k j => elemF s f j op n seen (kids ++ [k])
      | .no a e => .no a e
end
def parseF (s : ByteArray) : Rd Tree :=
  if 20000 < s.size then .no 0 3
  else match viewF s (2 * s.size + 2) 0 0 with
    | .ok n j => if (tokF s j).kind = 0 then .ok n 0 else .no (tokF s j).at_ 2
    | .no a e => .no a e
end Go.Proofs.YtipdgobplfkipaaGreatDoor
namespace Go.Proofs.YtipdgobplfkipaaGreatDoor

theorem tok_at (s : ByteArray) (i : Nat) : (tokF s i).kind ≠ 0 → scan blkB s i < s.size := by
  unfold tokF
  simp only
  split
  · intro _; assumption
  · intro h; exact absurd rfl h
theorem tok_till {s : ByteArray} {i : Nat} (h0 : (tokF s i).kind ≠ 0) (h5 : (tokF s i).kind ≠ 5) : i < (tokF s i).till ∧ (tokF s i).till ≤ s.size := by
  have hj := tok_at s i h0
  have hij := scan_ge blkB s _ i (Nat.le_refl _)
  by_cases n1 : s[scan blkB s i].toNat = 40
  · have e : tokF s i = ⟨1, scan blkB s i, ⟨#[]⟩, scan blkB s i + 1⟩ := by unfold tokF; simp only [hj, dif_pos]; rw [if_pos n1]
    rw [e]; exact ⟨by show i < _ + 1; omega, by show _ + 1 ≤ _; omega⟩
  · by_cases n2 : s[scan blkB s i].toNat = 41
    · have e : tokF s i = ⟨2, scan blkB s i, ⟨#[]⟩, scan blkB s i + 1⟩ := by unfold tokF; simp only [hj, dif_pos]; rw [if_neg n1, if_pos n2]
      rw [e]; exact ⟨by show i < _ + 1; omega, by show _ + 1 ≤ _; omega⟩
    · by_cases n3 : s[scan blkB s i].toNat = 39
      · by_cases n4 : scan nqB s (scan blkB s i + 1) < s.size ∧ (s.extract (scan blkB s i + 1) (scan nqB s (scan blkB s i + 1))).data.toList.all priL = true
        · have e : tokF s i = ⟨3, scan blkB s i, s.extract (scan blkB s i + 1) (scan nqB s (scan blkB s i + 1)), scan nqB s (scan blkB s i + 1) + 1⟩ := by unfold tokF; simp only [hj, dif_pos]; rw [if_neg n1, if_neg n2, if_pos n3, if_pos n4]
          have := scan_ge nqB s _ (scan blkB s i + 1) (Nat.le_refl _)
          rw [e]; exact ⟨by show i < _ + 1; omega, by show _ + 1 ≤ _; omega⟩
        · have e : tokF s i = ⟨5, scan blkB s i, ⟨#[]⟩, scan blkB s i⟩ := by unfold tokF; simp only [hj, dif_pos]; rw [if_neg n1, if_neg n2, if_pos n3, if_neg n4]
          rw [e] at h5; exact absurd rfl h5
      · by_cases n4 : visB s[scan blkB s i] = true
        · have e : tokF s i = ⟨4, scan blkB s i, s.extract (scan blkB s i) (scan visB s (scan blkB s i)), scan visB s (scan blkB s i)⟩ := by unfold tokF; simp only [hj, dif_pos]; rw [if_neg n1, if_neg n2, if_neg n3, if_pos n4]
          have e1 := scan_yes hj n4
          have h1 := scan_ge visB s _ (scan blkB s i + 1) (Nat.le_refl _)
          have h2 := scan_le visB s _ (scan blkB s i) (Nat.le_refl _) (by omega)
          rw [e]; exact ⟨by show i < scan visB s (scan blkB s i); omega, h2⟩
        · have e : tokF s i = ⟨5, scan blkB s i, ⟨#[]⟩, scan blkB s i⟩ := by unfold tokF; simp only [hj, dif_pos]; rw [if_neg n1, if_neg n2, if_neg n3, if_neg n4]
          rw [e] at h5; exact absurd rfl h5
def toksL (s : ByteArray) (i : Nat) : List Tok :=
  if _h : (tokF s i).kind = 0 ∨ (tokF s i).kind = 5 then [tokF s i] else tokF s i :: toksL s (tokF s i).till
termination_by s.size - i
decreasing_by
  have := tok_till (s := s) (i := i) (fun e => _h (.inl e)) (fun e => _h (.inr e))
  omega
theorem toks_end {s : ByteArray} {i : Nat} (h : (tokF s i).kind = 0 ∨ (tokF s i).kind = 5) : toksL s i = [tokF s i] := by rw [toksL, dif_pos h]
theorem toks_more {s : ByteArray} {i : Nat} (h0 : (tokF s i).kind ≠ 0) (h5 : (tokF s i).kind ≠ 5) : toksL s i = tokF s i :: toksL s (tokF s i).till := by
  rw [toksL, dif_neg (fun h => h.elim h0 h5)]
theorem toks_ne (s : ByteArray) (i : Nat) : ∃ r, toksL s i = tokF s i :: r := by
  by_cases h : (tokF s i).kind = 0 ∨ (tokF s i).kind = 5
  · exact ⟨[], toks_end h⟩
  · exact ⟨_, toks_more (fun e => h (.inl e)) (fun e => h (.inr e))⟩
def TokAt (l : List Tok) (j : Nat) (s : ByteArray) (p : Nat) : Prop := l.drop j = toksL s p
theorem view_pos (s : ByteArray) : ∀ (f : Nat), (∀ (i op : Nat) (t : Tree) (j : Nat), viewF s f i op = .ok t j → i < j ∧ j ≤ s.size) ∧
    (∀ (i op : Nat) (n : Itm) (seen : List ByteArray) (kids : List Tree) (t : Tree) (j : Nat), elemF s f i op n seen kids = .ok t j → i < j ∧ j ≤ s.size)
  | 0 => ⟨fun i op t j h => by simp [viewF] at h, fun i op n seen kids t j h => by simp [elemF] at h⟩
  | f + 1 => by
    obtain ⟨hv, he⟩ := view_pos s f
    refine ⟨fun i op t j h => ?_, fun i op n seen kids t j h => ?_⟩
    · simp only [viewF] at h
      split at h
      · rename_i h3
        obtain ⟨h1, h2⟩ := tok_till (s := s) (i := i) (by omega) (by omega)
        injection h with _ h
        omega
      · split at h
        · rename_i h1
          obtain ⟨k1, k2⟩ := tok_till (s := s) (i := i) (by omega) (by omega)
          split at h
          · cases h
          · split at h
            · rename_i hg
              obtain ⟨g1, g2⟩ := tok_till (s := s) (i := (tokF s i).till) (by omega) (by omega)
              have := he _ _ _ _ _ _ _ h
              omega
            · cases h
        · cases h
    · simp only [elemF] at h
      split at h
      · rename_i h3
        obtain ⟨h1, h2⟩ := tok_till (s := s) (i := i) (by omega) (by omega)
        injection h with _ h
        omega
      · split at h
        · rename_i h4
          obtain ⟨k1, k2⟩ := tok_till (s := s) (i := i) (by omega) (by omega)
          split at h
          · have := he _ _ _ _ _ _ _ h
            omega
          · cases h
        · split at h
          · rename_i k j' hk
            have h1 := hv _ _ _ _ hk
            have h2 := he _ _ _ _ _ _ _ h
            omega
          · cases h
end Go.Proofs.YtipdgobplfkipaaGreatDoor
namespace Go.Proofs.YtipdgobplfkipaaGreatDoor

theorem scan_idem (p : UInt8 → Bool) (s : ByteArray) (i : Nat) : scan p s (scan p s i) = scan p s i := by
  by_cases hj : scan p s i < s.size
  · exact scan_no hj (scan_stop p s _ i (Nat.le_refl _) hj)
  · exact scan_end hj
theorem tok_scan (s : ByteArray) (i : Nat) : tokF s (scan blkB s i) = tokF s i := by unfold tokF; rw [scan_idem]
theorem tok_e {s : ByteArray} {i : Nat} (h : ¬ scan blkB s i < s.size) : tokF s i = ⟨0, s.size, ⟨#[]⟩, s.size⟩ := by
  unfold tokF; simp only; rw [dif_neg h]
theorem tok_1 {s : ByteArray} {i : Nat} (hj : scan blkB s i < s.size) (n1 : s[scan blkB s i].toNat = 40) : tokF s i = ⟨1, scan blkB s i, ⟨#[]⟩, scan blkB s i + 1⟩ := by
  unfold tokF; simp only [hj, dif_pos]; rw [if_pos n1]
theorem tok_2 {s : ByteArray} {i : Nat} (hj : scan blkB s i < s.size) (n2 : s[scan blkB s i].toNat = 41) : tokF s i = ⟨2, scan blkB s i, ⟨#[]⟩, scan blkB s i + 1⟩ := by
  unfold tokF; simp only [hj, dif_pos]; rw [if_neg (by omega), if_pos n2]
theorem tok_3 {s : ByteArray} {i : Nat} (hj : scan blkB s i < s.size) (n3 : s[scan blkB s i].toNat = 39)
    (n4 : scan nqB s (scan blkB s i + 1) < s.size ∧ (s.extract (scan blkB s i + 1) (scan nqB s (scan blkB s i + 1))).data.toList.all priL = true) :
    tokF s i = ⟨3, scan blkB s i, s.extract (scan blkB s i + 1) (scan nqB s (scan blkB s i + 1)), scan nqB s (scan blkB s i + 1) + 1⟩ := by
  unfold tokF; simp only [hj, dif_pos]; rw [if_neg (by omega), if_neg (by omega), if_pos n3, if_pos n4]
theorem tok_5 {s : ByteArray} {i : Nat} (hj : scan blkB s i < s.size) (n3 : s[scan blkB s i].toNat = 39)
    (n4 : ¬ (scan nqB s (scan blkB s i + 1) < s.size ∧ (s.extract (scan blkB s i + 1) (scan nqB s (scan blkB s i + 1))).data.toList.all priL = true)) :
    tokF s i = ⟨5, scan blkB s i, ⟨#[]⟩, scan blkB s i⟩ := by
  unfold tokF; simp only [hj, dif_pos]; rw [if_neg (by omega), if_neg (by omega), if_pos n3, if_neg n4]
theorem tok_4 {s : ByteArray} {i : Nat} (hj : scan blkB s i < s.size) (hv : visB s[scan blkB s i] = true) : tokF s i = ⟨4, scan blkB s i, s.extract (scan blkB s i) (scan visB s (scan blkB s i)), scan visB s (scan blkB s i)⟩ := by
  have h2 := hv
  unfold visB at h2
  rw [decide_eq_true_eq] at h2
  unfold tokF; simp only [hj, dif_pos]; rw [if_neg (by omega), if_neg (by omega), if_neg (by omega), if_pos hv]
theorem tok_6 {s : ByteArray} {i : Nat} (hj : scan blkB s i < s.size) (n1 : s[scan blkB s i].toNat ≠ 40) (n2 : s[scan blkB s i].toNat ≠ 41) (n3 : s[scan blkB s i].toNat ≠ 39) (hv : ¬ visB s[scan blkB s i] = true) : tokF s i = ⟨5, scan blkB s i, ⟨#[]⟩, scan blkB s i⟩ := by
  unfold tokF; simp only [hj, dif_pos]; rw [if_neg n1, if_neg n2, if_neg n3, if_neg hv]
theorem tok_word {s : ByteArray} {i : Nat} (h : scan blkB s i < scan visB s (scan blkB s i)) : tokF s i = ⟨4, scan blkB s i, s.extract (scan blkB s i) (scan visB s (scan blkB s i)), scan visB s (scan blkB s i)⟩ := by
  by_cases hj : scan blkB s i < s.size
  · by_cases hv : visB s[scan blkB s i] = true
    · exact tok_4 hj hv
    · rw [scan_no hj hv] at h; omega
  · rw [scan_end hj] at h; omega
theorem tok_noword {s : ByteArray} {i : Nat} (hi : i ≤ s.size) (h : scan visB s (scan blkB s i) = scan blkB s i) : (tokF s i).kind ≠ 4 ∧ (tokF s i).at_ = scan blkB s i := by
  by_cases hj : scan blkB s i < s.size
  · have hv : ¬ visB s[scan blkB s i] = true := fun hv => by
      rw [scan_yes hj hv] at h
      have := scan_ge visB s _ (scan blkB s i + 1) (Nat.le_refl _)
      omega
    by_cases n1 : s[scan blkB s i].toNat = 40
    · rw [tok_1 hj n1]; exact ⟨by show (1 : Nat) ≠ 4; decide, rfl⟩
    · by_cases n2 : s[scan blkB s i].toNat = 41
      · rw [tok_2 hj n2]; exact ⟨by show (2 : Nat) ≠ 4; decide, rfl⟩
      · by_cases n3 : s[scan blkB s i].toNat = 39
        · by_cases n4 : scan nqB s (scan blkB s i + 1) < s.size ∧ (s.extract (scan blkB s i + 1) (scan nqB s (scan blkB s i + 1))).data.toList.all priL = true
          · rw [tok_3 hj n3 n4]; exact ⟨by show (3 : Nat) ≠ 4; decide, rfl⟩
          · rw [tok_5 hj n3 n4]; exact ⟨by show (5 : Nat) ≠ 4; decide, rfl⟩
        · rw [tok_6 hj n1 n2 n3 hv]; exact ⟨by show (5 : Nat) ≠ 4; decide, rfl⟩
  · have h1 := scan_le blkB s _ i (Nat.le_refl _) hi
    rw [tok_e hj]; exact ⟨by show (0 : Nat) ≠ 4; decide, by show s.size = _; omega⟩
end Go.Proofs.YtipdgobplfkipaaGreatDoor
namespace Go.Proofs.YtipdgobplfkipaaGreatDoor
open Go.RowKit
set_option maxRecDepth 100000
attribute [local irreducible] Go.Code.wpIn Go.wpListIn Go.Calls Gives Go.Exit.then Go.Exit.inBlock Done ObxE

abbrev rdrC (s : ByteArray) (i o : Nat) : List Value := [.string s, .int .i64 (i : Int), .int .i64 (o : Int)]
abbrev rdr (b : Nat) (s : ByteArray) (i o : Nat) : HP := pts b (rdrC s i o) 69
abbrev thrown (p : Nat) (e : Int) : List PanicEntry := [{ v := .iface 65 (.agg #[.int .i64 (p : Int), .int .i64 e]), recovered := false }]
theorem fail_any (p : Nat) (e : Int) (w0 : World) : Calls Tryz.prog 25 #[.int .i64 (p : Int), .int .i64 e] w0 (RoP (fun _ _ => False) (fun ch w => ch = thrown p e ∧ St w0 [] w)) := by
  refine enterP Tryz.func25 rfl Tryz.ntmps25 rfl (fun a hk => ?_); have hS := St.refl w0
  (repeat' (first | (show wpListIn _ _ _ _ _ (_ :: _) _ _; first | (refine wx1 ?_; clear hk a; intro a hk) | (refine wx2 ?_ ?_ <;> (intro hp; clear hk a; intro a hk)) | (refine wx3 ?_; clear hk hS a; intro w b hS a hk) | (refine wx4 ?_; clear hk hS a; intro w hS a hk) | (refine wx5 ?_; clear hk hS a; intro w v hS a hk) | fail) | refine wx0 ?_ | (refine s_end hk ?_; clear hk a; intro a hk) | fail))
  refine sg hk (g_mkI hk ?_ (by kernel_rfl)); clear hk a; intro a hk
  refine suP hk ((g_panicO (S := fun ch w => ch = thrown p e ∧ St w0 [] w) (R := fun _ _ => False) hk ⟨rfl, hS⟩).mono (fun v w h => h.elim) (fun ch w h a hk => ?_))
  exact DoneP.panic hk h
theorem worded_any (b : UInt8) (w0 : World) : Calls Tryz.prog 100 #[.int .u8 (b.toNat : Nat)] w0 (Ret fun v w => v = .bool (visB b) ∧ St w0 [] w) := by
  refine enter Tryz.func100 rfl Tryz.ntmps100 rfl (fun a hk => ?_); have hS := St.refl w0
  (repeat' (first | (show wpListIn _ _ _ _ _ (_ :: _) _ _; first | (refine wx1 ?_; clear hk a; intro a hk) | (refine wx2 ?_ ?_ <;> (intro hp; clear hk a; intro a hk)) | (refine wx3 ?_; clear hk hS a; intro w b hS a hk) | (refine wx4 ?_; clear hk hS a; intro w hS a hk) | (refine wx5 ?_; clear hk hS a; intro w v hS a hk) | fail) | refine wx0 ?_ | (refine s_end hk ?_; clear hk a; intro a hk) | fail))
  all_goals exact done1 hk (h := ⟨by unfold visB; first | rw [decide_eq_true (by omega)] | rw [decide_eq_false (by omega)], hS.nil⟩)

section
variable {B : Bs} {L : List HP} {w : World}
theorem skip_any (b : Nat) (s : ByteArray) (i o : Nat) (hs : s.size ≤ 100000000) (hi : i ≤ s.size) (hS : St B (rdr b s i o :: L) w) :
    Calls Tryz.prog 24 #[.pointer (some ⟨b, 0, none⟩)] w (Ret fun _ w' => St B (rdr b s (scan blkB s i) o :: L) w') := by
  refine enter Tryz.func24 rfl Tryz.ntmps24 rfl (fun a hk => ?_)
  (repeat' (first | (show wpListIn _ _ _ _ _ (_ :: _) _ _; first | (refine wx1 ?_; clear hk a; intro a hk) | (refine wx2 ?_ ?_ <;> (intro hp; clear hk a; intro a hk)) | (refine wx3 ?_; clear hk hS a; intro w b hS a hk) | (refine wx4 ?_; clear hk hS a; intro w hS a hk) | (refine wx5 ?_; clear hk hS a; intro w v hS a hk) | fail) | refine wx0 ?_ | (refine s_end hk ?_; clear hk a; intro a hk) | fail))
  refine wp_while (fun _ => []) (fun x => rdr b s x o :: L) (fun x => x ≤ s.size ∧ scan blkB s x = scan blkB s i) (fun x => s.size - x) i hk (by repeat (first | exact trivial | refine ⟨rfl, ?_⟩)) hS.sb ⟨hi, rfl⟩ ?_
  clear hk hS a
  rintro x a w hk hS ⟨hx, hsc⟩
  by_cases hxl : x < s.size
  · by_cases hb : s[x].toNat = 32
    · have hst := scan_yes (p := blkB) hxl (by unfold blkB; rw [decide_eq_true hb])
      (repeat' (first | (show wpListIn _ _ _ _ _ (_ :: _) _ _; first | (refine wx1 ?_; clear hk a; intro a hk) | (refine wx2 ?_ ?_ <;> (intro hp; clear hk a; intro a hk)) | (refine wx3 ?_; clear hk hS a; intro w b hS a hk) | (refine wx4 ?_; clear hk hS a; intro w hS a hk) | (refine wx5 ?_; clear hk hS a; intro w v hS a hk) | fail) | refine wx0 ?_ | (refine s_end hk ?_; clear hk a; intro a hk) | fail))
      refine wp_drawn 22 mixed (by kernel_rfl) hk hS ?_; clear hk hS a
      (repeat' (first | (show ObxE _ _ _ _ _ _ _ _ _ (_ :: _) _ _ _; first | refine ox1 ?_ | (refine ox2 ?_ ?_ <;> intro hp) | fail) | fail))
      refine obe_nil ⟨rfl, ?_⟩; intro us a w hk hS
      (repeat' (first | (show wpListIn _ _ _ _ _ (_ :: _) _ _; first | (refine wx1 ?_; clear hk a; intro a hk) | (refine wx2 ?_ ?_ <;> (intro hp; clear hk a; intro a hk)) | (refine wx3 ?_; clear hk hS a; intro w b hS a hk) | (refine wx4 ?_; clear hk hS a; intro w hS a hk) | (refine wx5 ?_; clear hk hS a; intro w v hS a hk) | fail) | refine wx0 ?_ | (refine s_end hk ?_; clear hk a; intro a hk) | fail))
      exact ⟨x + 1, by omega, hk.sd, hS.sb, by omega, by rw [← hst]; exact hsc⟩
    · have hst := scan_no (p := blkB) hxl (by unfold blkB; rw [decide_eq_false hb]; decide)
      rw [hst] at hsc
      (repeat' (first | (show wpListIn _ _ _ _ _ (_ :: _) _ _; first | (refine wx1 ?_; clear hk a; intro a hk) | (refine wx2 ?_ ?_ <;> (intro hp; clear hk a; intro a hk)) | (refine wx3 ?_; clear hk hS a; intro w b hS a hk) | (refine wx4 ?_; clear hk hS a; intro w hS a hk) | (refine wx5 ?_; clear hk hS a; intro w v hS a hk) | fail) | refine wx0 ?_ | (refine s_end hk ?_; clear hk a; intro a hk) | fail))
      refine wp_drawn 22 mixed (by kernel_rfl) hk hS ?_; clear hk hS a
      (repeat' (first | (show ObxE _ _ _ _ _ _ _ _ _ (_ :: _) _ _ _; first | refine ox1 ?_ | (refine ox2 ?_ ?_ <;> intro hp) | fail) | fail))
      refine obe_nil ⟨rfl, ?_⟩; intro us a w hk hS
      (repeat' (first | (show wpListIn _ _ _ _ _ (_ :: _) _ _; first | (refine wx1 ?_; clear hk a; intro a hk) | (refine wx2 ?_ ?_ <;> (intro hp; clear hk a; intro a hk)) | (refine wx3 ?_; clear hk hS a; intro w b hS a hk) | (refine wx4 ?_; clear hk hS a; intro w hS a hk) | (refine wx5 ?_; clear hk hS a; intro w v hS a hk) | fail) | refine wx0 ?_ | (refine s_end hk ?_; clear hk a; intro a hk) | fail))
      rw [hsc] at hS
      exact done0n hk rfl (h := hS)
  · have hst := scan_end (p := blkB) hxl
    rw [hst] at hsc
    (repeat' (first | (show wpListIn _ _ _ _ _ (_ :: _) _ _; first | (refine wx1 ?_; clear hk a; intro a hk) | (refine wx2 ?_ ?_ <;> (intro hp; clear hk a; intro a hk)) | (refine wx3 ?_; clear hk hS a; intro w b hS a hk) | (refine wx4 ?_; clear hk hS a; intro w hS a hk) | (refine wx5 ?_; clear hk hS a; intro w v hS a hk) | fail) | refine wx0 ?_ | (refine s_end hk ?_; clear hk a; intro a hk) | fail))
    refine wp_drawn 22 mixed (by kernel_rfl) hk hS ?_; clear hk hS a
    (repeat' (first | (show ObxE _ _ _ _ _ _ _ _ _ (_ :: _) _ _ _; first | refine ox1 ?_ | (refine ox2 ?_ ?_ <;> intro hp) | fail) | fail))
    refine obe_nil ⟨rfl, ?_⟩; intro us a w hk hS
    (repeat' (first | (show wpListIn _ _ _ _ _ (_ :: _) _ _; first | (refine wx1 ?_; clear hk a; intro a hk) | (refine wx2 ?_ ?_ <;> (intro hp; clear hk a; intro a hk)) | (refine wx3 ?_; clear hk hS a; intro w b hS a hk) | (refine wx4 ?_; clear hk hS a; intro w hS a hk) | (refine wx5 ?_; clear hk hS a; intro w v hS a hk) | fail) | refine wx0 ?_ | (refine s_end hk ?_; clear hk a; intro a hk) | fail))
    rw [hsc] at hS
    exact done0n hk rfl (h := hS)
def nextB (s : ByteArray) (j : Nat) : Int := if h : j < s.size then (s[j].toNat : Int) else 0
theorem next_any (b : Nat) (s : ByteArray) (i o : Nat) (hs : s.size ≤ 100000000) (hi : i ≤ s.size) (hS : St B (rdr b s i o :: L) w) :
    Calls Tryz.prog 48 #[.pointer (some ⟨b, 0, none⟩)] w (Ret fun v w' => v = .int .u8 (nextB s (scan blkB s i)) ∧ St B (rdr b s (scan blkB s i) o :: L) w') := by
  have hle := scan_le blkB s _ i (Nat.le_refl _) hi
  refine enter Tryz.func48 rfl Tryz.ntmps48 rfl (fun a hk => ?_)
  (repeat' (first | (show wpListIn _ _ _ _ _ (_ :: _) _ _; first | (refine wx1 ?_; clear hk a; intro a hk) | (refine wx2 ?_ ?_ <;> (intro hp; clear hk a; intro a hk)) | (refine wx3 ?_; clear hk hS a; intro w b hS a hk) | (refine wx4 ?_; clear hk hS a; intro w hS a hk) | (refine wx5 ?_; clear hk hS a; intro w v hS a hk) | fail) | refine wx0 ?_ | (refine s_end hk ?_; clear hk a; intro a hk) | fail))
  refine sg hk (g_callO hk (hf := by kernel_rfl) (hc := skip_any b s i o hs hi hS) (h := ?_)); clear hk hS a; intro vr w hS a hk
  generalize scan blkB s i = j at *
  by_cases hj : j < s.size
  · (repeat' (first | (show wpListIn _ _ _ _ _ (_ :: _) _ _; first | (refine wx1 ?_; clear hk a; intro a hk) | (refine wx2 ?_ ?_ <;> (intro hp; clear hk a; intro a hk)) | (refine wx3 ?_; clear hk hS a; intro w b hS a hk) | (refine wx4 ?_; clear hk hS a; intro w hS a hk) | (refine wx5 ?_; clear hk hS a; intro w v hS a hk) | fail) | refine wx0 ?_ | (refine s_end hk ?_; clear hk a; intro a hk) | fail))
    (repeat' (first | (show wpListIn _ _ _ _ _ (_ :: _) _ _; first | (refine wx1 ?_; clear hk a; intro a hk) | (refine wx2 ?_ ?_ <;> (intro hp; clear hk a; intro a hk)) | (refine wx3 ?_; clear hk hS a; intro w b hS a hk) | (refine wx4 ?_; clear hk hS a; intro w hS a hk) | (refine wx5 ?_; clear hk hS a; intro w v hS a hk) | fail) | refine wx0 ?_ | (refine s_end hk ?_; clear hk a; intro a hk) | fail))
    refine wp_drawn 10 mixed (by kernel_rfl) hk hS ?_; clear hk hS a
    (repeat' (first | (show ObxE _ _ _ _ _ _ _ _ _ (_ :: _) _ _ _; first | refine ox1 ?_ | (refine ox2 ?_ ?_ <;> intro hp) | fail) | fail))
    refine obe_nil ⟨rfl, ?_⟩; intro us a w hk hS
    (repeat' (first | (show wpListIn _ _ _ _ _ (_ :: _) _ _; first | (refine wx1 ?_; clear hk a; intro a hk) | (refine wx2 ?_ ?_ <;> (intro hp; clear hk a; intro a hk)) | (refine wx3 ?_; clear hk hS a; intro w b hS a hk) | (refine wx4 ?_; clear hk hS a; intro w hS a hk) | (refine wx5 ?_; clear hk hS a; intro w v hS a hk) | fail) | refine wx0 ?_ | (refine s_end hk ?_; clear hk a; intro a hk) | fail))
    refine wp_drawn 9 mixed (by kernel_rfl) hk hS ?_; clear hk hS a
    (repeat' (first | (show ObxE _ _ _ _ _ _ _ _ _ (_ :: _) _ _ _; first | refine ox1 ?_ | (refine ox2 ?_ ?_ <;> intro hp) | fail) | fail))
    refine obe_nil ⟨rfl, ?_⟩; intro us a w hk hS
    (repeat' (first | (show wpListIn _ _ _ _ _ (_ :: _) _ _; first | (refine wx1 ?_; clear hk a; intro a hk) | (refine wx2 ?_ ?_ <;> (intro hp; clear hk a; intro a hk)) | (refine wx3 ?_; clear hk hS a; intro w b hS a hk) | (refine wx4 ?_; clear hk hS a; intro w hS a hk) | (refine wx5 ?_; clear hk hS a; intro w v hS a hk) | fail) | refine wx0 ?_ | (refine s_end hk ?_; clear hk a; intro a hk) | fail))
    refine done1 hk (h := ⟨?_, hS⟩)
    unfold nextB
    rw [dif_pos hj]; rfl
  · have hje : j = s.size := by omega
    (repeat' (first | (show wpListIn _ _ _ _ _ (_ :: _) _ _; first | (refine wx1 ?_; clear hk a; intro a hk) | (refine wx2 ?_ ?_ <;> (intro hp; clear hk a; intro a hk)) | (refine wx3 ?_; clear hk hS a; intro w b hS a hk) | (refine wx4 ?_; clear hk hS a; intro w hS a hk) | (refine wx5 ?_; clear hk hS a; intro w v hS a hk) | fail) | refine wx0 ?_ | (refine s_end hk ?_; clear hk a; intro a hk) | fail))
    refine wp_drawn 10 mixed (by kernel_rfl) hk hS ?_; clear hk hS a
    (repeat' (first | (show ObxE _ _ _ _ _ _ _ _ _ (_ :: _) _ _ _; first | refine ox1 ?_ | (refine ox2 ?_ ?_ <;> intro hp) | fail) | fail))
    refine obe_nil ⟨rfl, ?_⟩; intro us a w hk hS
    (repeat' (first | (show wpListIn _ _ _ _ _ (_ :: _) _ _; first | (refine wx1 ?_; clear hk a; intro a hk) | (refine wx2 ?_ ?_ <;> (intro hp; clear hk a; intro a hk)) | (refine wx3 ?_; clear hk hS a; intro w b hS a hk) | (refine wx4 ?_; clear hk hS a; intro w hS a hk) | (refine wx5 ?_; clear hk hS a; intro w v hS a hk) | fail) | refine wx0 ?_ | (refine s_end hk ?_; clear hk a; intro a hk) | fail))
    refine done1 hk (h := ⟨?_, hS⟩)
    unfold nextB
    rw [dif_neg hj]
end
end Go.Proofs.YtipdgobplfkipaaGreatDoor
