/- Memory and calls: reading and writing what is known, new blocks, calls by contract, the end of a body. -/
import Derived.Test.YtkcjkbnbblpomaaGreatDoorT00
set_option linter.all false
namespace Go.Proofs.YtkcjkbnbblpomaaGreatDoor
variable {df : List Deferred}
open Go.RowKit

def szOf (P : Program) (T : TypeId) : Option Nat := (P.info? T).map (·.size)
def zeroOf (P : Program) (T : TypeId) : Option Value := (P.info? T).bind (·.zero)
def aggOf (P : Program) (T : TypeId) : Option Bool :=
  match P.underlying T with
  | some (.struct _) => some true
  | some (.array _ _) => some true
  | some _ => some false
  | none => none
def fldOf (P : Program) (T : TypeId) (f : Nat) : Option (Nat × Nat) :=
  match P.underlying T with
  | some (.struct fs) => match fs[f]? with
    | some x => some (x.offset, ((szOf P x.type).getD 0))
    | none => none
  | _ => none
def fldsO (P : Program) (T : TypeId) : Option (List (Nat × Nat)) :=
  match P.underlying T with
  | some (.struct fs) => fs.toList.mapM (fun x => (szOf P x.type).map (x.offset, ·))
  | _ => none
def elOf (P : Program) (T : TypeId) : Option TypeId :=
  match P.underlying T with
  | some (.slice e) => some e
  | _ => none
def fvOf (P : Program) (T : TypeId) : Option (List (Nat × Option Bool)) :=
  match P.underlying T with
  | some (.struct fs) => some (fs.toList.map (fun x => (x.offset, aggOf P x.type)))
  | _ => none
def mapOf (P : Program) (T : TypeId) : Option (Nat × Nat) :=
  match P.underlying T with
  | some (.map k e) => some (k, e)
  | _ => none
def callable (P : Program) (f : FuncId) : Bool :=
  match P.funcs[f]? with
  | some fn => !(fn.name == "runtime.NumGoroutine") && !fn.body.isNone
  | none => false

theorem szOf_run {P : Program} {T : TypeId} {k : Nat} (h : szOf P T = some k) (w : World) : (sizeOf T).run P w = .ok k w := by
  unfold szOf at h
  cases hi : P.info? T with
  | none => rw [hi] at h; simp at h
  | some i => rw [hi] at h; simp at h; simp [sizeOf, typeInfo, hi, h]

theorem zeroOf_run {P : Program} {T : TypeId} {z : Value} (h : zeroOf P T = some z) (w : World) : (zeroValue T).run P w = .ok z w := by
  unfold zeroOf at h
  cases hi : P.info? T with
  | none => rw [hi] at h; simp at h
  | some i => rw [hi] at h; simp at h; simp [zeroValue, typeInfo, hi, h]

theorem aggOf_run {P : Program} {T : TypeId} {b : Bool} (h : aggOf P T = some b) (w : World) : (isAgg T).run P w = .ok b w := by
  unfold aggOf at h
  unfold isAgg
  cases hi : P.underlying T with
  | none => rw [hi] at h; simp at h
  | some d =>
    rw [hi] at h
    simp only [Sem.run_bind, run_underlying hi, Result.andThen_ok]
    cases d <;> simp at h <;> subst h <;> rfl

theorem elOf_und {P : Program} {T e : TypeId} (h : elOf P T = some e) : P.underlying T = some (.slice e) := by
  unfold elOf at h
  cases hi : P.underlying T with
  | none => rw [hi] at h; simp at h
  | some d => rw [hi] at h; cases d <;> simp at h; subst h; rfl

def Cells (b o : Nat) (us : List Value) (w : World) : Prop := ∀ j u, us[j]? = some u → w.cell? ⟨b, o + j, none⟩ = some u

theorem Cells.get {b o : Nat} {us : List Value} {w : World} (h : Cells b o us w) {j : Nat} {u : Value} (hj : us[j]? = some u) : w.cell? ⟨b, o + j, none⟩ = some u := h j u hj

theorem Cells.of_block {b : Nat} {vs : List Value} {T : TypeId} {fz : Nat × Nat} {w : World} (h : w.heap[b]? = some (.cells vs.toArray T fz)) (o m : Nat) : Cells b o ((vs.drop o).take m) w := fun j u hj => by
  rw [cell_of_row w b (o + j) _ T fz h]
  rw [List.getElem?_take] at hj
  split at hj
  · simpa using hj
  · cases hj

theorem addr_add (b o n : Nat) : (⟨b, o, none⟩ : Addr).add n = ⟨b, o + n, none⟩ := by
  unfold Addr.add
  split
  · simp [*]
  · rfl

theorem run_load1 {P : Program} {T : TypeId} {b o : Nat} {v : Value} {w : World} (hT : aggOf P T = some false) (hc : w.cell? ⟨b, o, none⟩ = some v) :
    (Instr.loadAt T (.pointer (some ⟨b, o, none⟩))).run P w = .ok v w := by
  simp [Instr.loadAt, Instr.sureAddr, loadVar, aggOf_run hT, hc]

theorem run_loadN {P : Program} {T : TypeId} {b o : Nat} {us : List Value} {w : World} (hT : aggOf P T = some true) (hs : szOf P T = some us.length) (hc : Cells b o us w) :
    (Instr.loadAt T (.pointer (some ⟨b, o, none⟩))).run P w = .ok (.agg us.toArray) w := by
  have h1 := run_loadCells_list (P := P) (w := w) ⟨b, o, none⟩ us (fun j v hj => by rw [addr_add]; exact hc j v hj)
  simp [Instr.loadAt, Instr.sureAddr, loadVar, aggOf_run hT, szOf_run hs, h1]

section
variable {P : Program} {ops : Array Oper} {Q : Exit → Act → World → Prop} {a : Act} {w w' : World} {w0 : Bs} {rest : List Oper} {n : Nat} {l : List (Nat × Value)}
  {d : Nat} {dst : Option Nat} {R R' : Value → World → Prop} {ty : TypeId} {pos : String} {af : Array Edge} {g : Option (Nat × Bool)} {L L' : List HP}

theorem g_field {x : Operand} {T : TypeId} {f b o off sz : Nat} (hk : Kn df n a l) (h : R (.pointer (some ⟨b, o + off, none⟩)) w)
    (hf : fldOf P T f = some (off, sz + 1))
    (hx : ev l x = some (.pointer (some ⟨b, o, none⟩)) := by rfl) :
    Gives P ⟨dst, .fieldAddr T x f, ty, pos, af, g⟩ a w R := by
  refine givesv (v := .pointer (some ⟨b, o + off, none⟩)) ?_ h
  unfold fldOf at hf
  cases hu : P.underlying T with
  | none => rw [hu] at hf; simp at hf
  | some dsc =>
    rw [hu] at hf
    cases dsc <;> simp only [reduceCtorEq] at hf
    case struct fs =>
      cases hfs : fs[f]? with
      | none => rw [hfs] at hf; simp at hf
      | some fl =>
        rw [hfs] at hf
        simp only [Option.some.injEq, Prod.mk.injEq] at hf
        obtain ⟨h1, h2⟩ := hf
        have h3 : szOf P fl.type = some (sz + 1) := by
          cases hz : szOf P fl.type with
          | none => rw [hz] at h2; simp at h2
          | some z => rw [hz] at h2; simp at h2; rw [h2]
        simp [execOp, hk.eval hx, Instr.fieldAt, run_underlying hu, hfs, Instr.sureAddr, fieldPlace, szOf_run h3, h1, addr_add]

theorem g_load1 {x : Operand} {T : TypeId} {b o : Nat} {v : Value} (hk : Kn df n a l) (h : R (v) w)
    (hT : aggOf P T = some false) (hc : w.cell? ⟨b, o, none⟩ = some v)
    (hx : ev l x = some (.pointer (some ⟨b, o, none⟩)) := by rfl) :
    Gives P ⟨dst, .load T x, ty, pos, af, g⟩ a w R :=
  givesv (v := v) (by simp [execOp, hk.eval hx, run_load1 hT hc]) h

theorem g_loadN {x : Operand} {T : TypeId} {b o : Nat} {us : List Value} (hk : Kn df n a l) (h : R (.agg us.toArray) w)
    (hT : aggOf P T = some true) (hc : Cells b o us w) (hs : szOf P T = some us.length)
    (hx : ev l x = some (.pointer (some ⟨b, o, none⟩)) := by rfl) :
    Gives P ⟨dst, .load T x, ty, pos, af, g⟩ a w R :=
  givesv (v := .agg us.toArray) (by simp [execOp, hk.eval hx, run_loadN hT hs hc]) h

theorem g_own1 {x : Operand} {T : TypeId} {b o : Nat} {vs : List Value} {T' : TypeId} {v : Value} (hk : Kn df n a l) (hS : St w0 L w) (h : R (v) w)
    (hT : aggOf P T = some false)
    (hx : ev l x = some (.pointer (some ⟨b, o, none⟩)) := by rfl)
    (hat : At (pts b vs T') L L' := by (repeat (first | exact At.here | apply At.there)))
    (hv : vs[o]? = some v := by rfl) :
    Gives P ⟨dst, .load T x, ty, pos, af, g⟩ a w R :=
  g_load1 hk h hT (by rw [cell_of_row w b o _ T' _ (pts.block (hS.rd hat))]; simpa using hv) hx

theorem g_ownN {x : Operand} {T : TypeId} {b o k : Nat} {vs us : List Value} {T' : TypeId} (hk : Kn df n a l) (hS : St w0 L w) (h : R (.agg us.toArray) w)
    (hT : aggOf P T = some true) (hs : szOf P T = some k)
    (hx : ev l x = some (.pointer (some ⟨b, o, none⟩)) := by rfl)
    (hat : At (pts b vs T') L L' := by (repeat (first | exact At.here | apply At.there)))
    (hv : (vs.drop o).take k = us := by first | (simp only [List.drop_succ_cons, List.drop_zero, List.take_succ_cons, List.take_zero, Nat.zero_add, Nat.reduceAdd]; rfl) | rfl) (hl : us.length = k := by rfl) :
    Gives P ⟨dst, .load T x, ty, pos, af, g⟩ a w R := by
  have hc := Cells.of_block (pts.block (hS.rd hat)) o k
  rw [hv] at hc
  exact g_loadN hk h hT hc (by rw [hl]; exact hs) hx

theorem g_box {x : Operand} {T : TypeId} {v : Value} {vs : List Value} (hk : Kn df n a l) (hS : St w0 L w)
    (h : ∀ w' b, St w0 (pts b vs T :: L) w' → R (.pointer (some ⟨b, 0, none⟩)) w')
    (hx : ev l x = some v := by rfl) (hv : v.cells = vs.toArray := by rfl) :
    Gives P ⟨dst, .box T x, ty, pos, af, g⟩ a w R :=
  givesv (v := .pointer (some ⟨w.heap.size, 0, none⟩)) (w' := w.alloc (.cells vs.toArray T)) (by simp [execOp, hk.eval hx, Instr.box, newVar, newRow, hv]) (h _ _ (hS.alloc vs T))

theorem g_alloc {T : TypeId} {v : Value} {vs : List Value} (hk : Kn df n a l) (hS : St w0 L w)
    (h : ∀ w' b, St w0 (pts b vs T :: L) w' → R (.pointer (some ⟨b, 0, none⟩)) w')
    (hz : zeroOf P T = some v) (hv : v.cells = vs.toArray := by rfl) :
    Gives P ⟨dst, .alloc T, ty, pos, af, g⟩ a w R :=
  givesv (v := .pointer (some ⟨w.heap.size, 0, none⟩)) (w' := w.alloc (.cells vs.toArray T)) (by simp [execOp, Instr.alloc, zeroOf_run hz, newVar, newRow, hv]) (h _ _ (hS.alloc vs T))

def splice : List Value → Nat → List Value → List Value
  | vs, _, [] => vs
  | vs, o, u :: us => splice (vs.set o u) (o + 1) us

theorem run_storeCells_own {b : Nat} {T : TypeId} {L L' : List HP} : ∀ (us : List Value) (o i : Nat) (vs : List Value) (w : World), St w0 L w → At (pts b vs T) L L' → (∀ u ∈ us, u.oneCell' = true) → o + i + us.length ≤ vs.length →
    ∃ w', (storeCells ⟨b, o, none⟩ us i).run P w = .ok () w' ∧ St w0 (pts b (splice vs (o + i) us) T :: L') w'
  | [], o, i, vs, w, hS, hat, _, _ => ⟨w, rfl, hS.sub (.cons hat .refl)⟩
  | u :: us, o, i, vs, w, hS, hat, h1, hl => by
    have hb := pts.block (hS.rd hat)
    have hlt : o + i < vs.length := by simp at hl; omega
    have hc : w.cell? ⟨b, o + i, none⟩ = some vs[o + i] := by rw [cell_of_row w b (o + i) _ T _ hb]; simp [hlt]
    have hf : w.frozen? ⟨b, o + i, none⟩ = false := frozen_of_row w b (o + i) _ T hb
    have hst : (store ⟨b, o + i, none⟩ u).run P w = .ok () (w.setCell ⟨b, o + i, none⟩ u) := by
      rw [run_store P w _ u .plain (h1 u (by simp)), hc]
      simp [hf]
    obtain ⟨w', hr, hS'⟩ := run_storeCells_own us o (i + 1) _ _ (hS.setCell hat u) (At.here) (fun x hx => h1 x (by simp [hx])) (by simp at hl ⊢; omega)
    refine ⟨w', ?_, ?_⟩
    · unfold storeCells
      simp only [Sem.run_bind, addr_add, hst, Result.andThen_ok]
      exact hr
    · simpa [splice, Nat.add_assoc] using hS'

theorem g_store {x y : Operand} {T : TypeId} {b o : Nat} {v : Value} {vs us vs' : List Value} {T' : TypeId} (hk : Kn df n a l) (hS : St w0 L w)
    (h : ∀ w', St w0 (pts b vs' T' :: L') w' → R undef w')
    (hx : ev l x = some (.pointer (some ⟨b, o, none⟩)) := by rfl) (hy : ev l y = some v := by rfl) (hv : v.cells = us.toArray := by rfl)
    (hsz : szOf P T = some us.length)
    (hat : At (pts b vs T') L L' := by (repeat (first | exact At.here | apply At.there)))
    (hone : us.all (·.oneCell') = true := by rfl) (hl : Nat.ble (o + us.length) vs.length = true := by rfl) (hsp : splice vs o us = vs' := by rfl) :
    Gives P ⟨dst, .store T x y, ty, pos, af, g⟩ a w R := by
  subst hsp
  obtain ⟨w', hr, hS'⟩ := run_storeCells_own (P := P) us o 0 vs w hS hat (fun u hu => (List.all_eq_true.1 hone) u hu) (by simpa using Nat.le_of_ble_eq_true hl)
  refine givesu (w' := w') ?_ (h w' (by simpa using hS'))
  simp [execOp, hk.eval hx, hk.eval hy, Instr.storeAt, Instr.sureAddr, storeVar, szOf_run hsz, hv, hr]

def bldP (pl : Nat → Option (Nat × Nat)) : List Value → List (Nat × Value) → Option (List Value)
  | z, [] => some z
  | z, (i, v) :: r => match pl i with
    | none => none
    | some (off, sz) => bif (Nat.beq v.cells.size sz && Nat.ble (off + v.cells.size) z.length) then bldP pl (splice z off v.cells.toList) r else none
def bldS (pl : List (Nat × Nat)) : List Value → List (Nat × Value) → Option (List Value) := bldP (pl[·]?)

theorem foldl_splice : ∀ (us : List Value) (k off : Nat) (cs : Array Value), ((us.zipIdx k).foldl (fun (cs : Array Value) (p : Value × Nat) => cs.setIfInBounds (off + p.2) p.1) cs).toList = splice cs.toList (off + k) us
  | [], _, _, _ => rfl
  | u :: us, k, off, cs => by
    simp only [List.zipIdx_cons, List.foldl_cons, splice]
    rw [foldl_splice us (k + 1) off]
    simp [Nat.add_assoc]

theorem fill_bldP (pl : Nat → Option (Nat × Nat)) : ∀ (parts : List (Nat × Value)) (z : Array Value) (us : List Value), bldP pl z.toList parts = some us → Instr.fill pl z parts = some us.toArray
  | [], z, us, h => by simp [bldP] at h; subst h; simp [Instr.fill]
  | (i, v) :: r, z, us, h => by
    simp only [bldP] at h
    unfold Instr.fill
    cases hp : pl i with
    | none => rw [hp] at h; simp at h
    | some p =>
      obtain ⟨off, sz⟩ := p
      rw [hp] at h
      simp only
      cases hb : (Nat.beq v.cells.size sz && Nat.ble (off + v.cells.size) z.toList.length) with
      | false => simp only [hb, cond_false] at h; cases h
      | true =>
        simp only [hb, cond_true] at h
        simp only [Bool.and_eq_true] at hb
        have h1 : v.cells.size = sz := Nat.eq_of_beq_eq_true hb.1
        have h2 : off + v.cells.size ≤ z.size := by simpa using Nat.le_of_ble_eq_true hb.2
        rw [if_neg (by simp [h1]; omega)]
        refine fill_bldP pl r _ us ?_
        have := foldl_splice v.cells.toList 0 off z
        simp only [Nat.add_zero] at this
        rw [← this] at h
        rw [← h]
        congr 1
        rw [← Array.foldl_toList, Array.toList_zipIdx]

theorem fill_bld (pl : Array (Nat × Nat)) (parts : List (Nat × Value)) (z : Array Value) (us : List Value) (h : bldS pl.toList z.toList parts = some us) : Instr.fill (pl[·]?) z parts = some us.toArray := by
  have e : (fun (i : Nat) => pl.toList[i]?) = (fun (i : Nat) => pl[i]?) := by funext i; simp
  unfold bldS at h
  rw [e] at h
  exact fill_bldP _ parts z us h

def evP (l : List (Nat × Value)) : List (Nat × Operand) → Option (List (Nat × Value))
  | [] => some []
  | (i, x) :: r => match ev l x, evP l r with
    | some v, some vs => some ((i, v) :: vs)
    | _, _ => none

theorem evP_map (hk : Kn df n a l) : ∀ {xs : List (Nat × Operand)} {vs : List (Nat × Value)}, evP l xs = some vs → xs.map (fun (i, x) => (i, a.eval x)) = vs
  | [], vs, h => by simp [evP] at h; simp [h]
  | (i, x) :: r, vs, h => by
    simp only [evP] at h
    cases h1 : ev l x with
    | none => rw [h1] at h; simp at h
    | some v =>
      cases h2 : evP l r with
      | none => rw [h1, h2] at h; simp at h
      | some us => rw [h1, h2] at h; simp at h; simp [← h, hk.eval h1, evP_map hk h2]

theorem run_places {fs : List Field} {pl : List (Nat × Nat)} (h : fs.mapM (fun x => (szOf P x.type).map (x.offset, ·)) = some pl) (w : World) :
    ((fs.mapM (m := Sem) fun f => do pure (f.offset, ← sizeOf f.type)) : Sem (List (Nat × Nat))).run P w = .ok pl w := by
  induction fs generalizing pl with
  | nil => simp at h; subst h; simp
  | cons f fs ih =>
    simp only [List.mapM_cons, Option.bind_eq_bind, Option.bind_eq_some_iff] at h
    obtain ⟨p, hp, ps, hps, hpl⟩ := h
    simp only [Option.map_eq_some_iff] at hp
    obtain ⟨k, hk, rfl⟩ := hp
    simp at hpl
    subst hpl
    have ih' := ih hps
    simp only [bind_pure_comp] at ih' ⊢
    simp [List.mapM_cons, szOf_run hk, ih']

theorem g_build {T : TypeId} {parts : List (Nat × Operand)} {vals : List (Nat × Value)} {pl : List (Nat × Nat)} {z us : List Value} (hk : Kn df n a l) (h : R (.agg us.toArray) w)
    (hf : fldsO P T = some pl) (hz : zeroOf P T = some (.agg z.toArray))
    (hp : evP l parts = some vals := by rfl) (hb : bldS pl z vals = some us := by rfl) :
    Gives P ⟨dst, .build T parts.toArray, ty, pos, af, g⟩ a w R := by
  refine givesv (v := .agg us.toArray) ?_ h
  unfold fldsO at hf
  cases hu : P.underlying T with
  | none => rw [hu] at hf; simp at hf
  | some dsc =>
    rw [hu] at hf
    cases dsc <;> simp only [reduceCtorEq] at hf
    case struct fs =>
      have he := evP_map hk hp
      have h1 := run_places hf w
      have h2 : (fs.mapM (m := Sem) fun f => do pure (f.offset, ← sizeOf f.type)).run P w = .ok pl.toArray w := by
        rw [Array.mapM_eq_mapM_toList, Sem.run_map, h1]
        rfl
      have h3 := fill_bld pl.toArray vals z.toArray us (by simpa using hb)
      have h4 : (List.map (fun p => (p.1, a.eval p.2)) parts) = vals := he
      simp only [execOp, Instr.build, Sem.run_bind, zeroOf_run hz, Result.andThen_ok, run_underlying hu, h2, Value.cells]
      simp only [List.map_toArray, he, h3]
      rfl

def evs (l : List (Nat × Value)) : List Operand → Option (List Value)
  | [] => some []
  | x :: r => match ev l x, evs l r with
    | some v, some vs => some (v :: vs)
    | _, _ => none

theorem evs_map (hk : Kn df n a l) : ∀ {xs : List Operand} {vs : List Value}, evs l xs = some vs → xs.map a.eval = vs
  | [], vs, h => by simp [evs] at h; simp [h]
  | x :: r, vs, h => by
    simp only [evs] at h
    cases h1 : ev l x with
    | none => rw [h1] at h; simp at h
    | some v =>
      cases h2 : evs l r with
      | none => rw [h1, h2] at h; simp at h
      | some us => rw [h1, h2] at h; simp at h; simp [← h, hk.eval h1, evs_map hk h2]

theorem callFunc_run {f : FuncId} {args : Array Value} (h : callable P f = true) : (callFunc f args).run P w = .ok (.enter f args) w := by
  unfold callable at h
  unfold callFunc
  cases hf : P.funcs[f]? with
  | none => rw [hf] at h; simp at h
  | some fn =>
    rw [hf] at h
    simp only [Bool.and_eq_true, Bool.not_eq_true'] at h
    obtain ⟨h1, h2⟩ := h
    have h1' : ¬ fn.name = "runtime.NumGoroutine" := by simpa using h1
    have h2' : ¬ fn.body = none := by intro e; rw [e] at h2; simp at h2
    simp [hf, h1', h2']

theorem g_call {f : FuncId} {xs : List Operand} {vs : List Value} {ts : Array TypeId} (hk : Kn df n a l) (hf : callable P f = true) (hc : Calls P f vs.toArray w (Ret R'))
    (h : ∀ v w', R' v w' → R v w')
    (hxs : evs l xs = some vs := by rfl) :
    Gives P ⟨dst, .call { callee := .value (.func f), args := xs.toArray, argTypes := ts }, ty, pos, af, g⟩ a w R := by
  refine givesc (f := f) (args := vs.toArray) ?_ hc h
  have he := evs_map hk hxs
  have : (#[] ++ (List.toArray xs).map a.eval ++ #[] : Array Value) = vs.toArray := by simp [he]
  rw [← this]
  exact callFunc_run hf

theorem g_callv {x : Operand} {f : FuncId} {first cap : List Value} {xs : List Operand} {vs : List Value} {ts : Array TypeId} (hk : Kn df n a l) (hf : callable P f = true) (hc : Calls P f (first ++ vs ++ cap).toArray w (Ret R'))
    (h : ∀ v w', R' v w' → R v w')
    (hx : ev l x = some (.func (.func f) first.toArray cap.toArray) := by rfl)
    (hxs : evs l xs = some vs := by rfl) :
    Gives P ⟨dst, .call { callee := .value x, args := xs.toArray, argTypes := ts }, ty, pos, af, g⟩ a w R := by
  refine givesc (f := f) (args := (first ++ vs ++ cap).toArray) ?_ hc h
  have he := evs_map hk hxs
  have : (first.toArray ++ (List.toArray xs).map a.eval ++ cap.toArray : Array Value) = (first ++ vs ++ cap).toArray := by simp [he]
  rw [← this]
  have e : (execOp a.eval ⟨dst, .call { callee := .value x, args := xs.toArray, argTypes := ts }, ty, pos, af, g⟩) = callFunc f (first.toArray ++ (List.toArray xs).map a.eval ++ cap.toArray) := by
    simp [execOp, resolve, hk.eval hx, Deferred.ofValue, invoke]
  rw [e]
  exact callFunc_run hf

theorem q_then {K : Act → World → Prop} (h : K a w) : Exit.then K Q .normal a w := h

theorem done1 {fn : Func} {R : Value → World → Prop} {t : Nat} {v : Value} (hk : Kn [] n a l) (hr : fn.results = #[.tmp t] := by rfl) (hv : lk l t = some v := by rfl) (h : R v w) : Done P fn R .ret a w :=
  bodyPost_ret (results_tmp hr _ _ _) hk.defers ⟨v, by rw [hk.get t v hv], h⟩

theorem done2 {fn : Func} {R : Value → World → Prop} {t t' : Nat} {v v' : Value} (hk : Kn [] n a l) (hr : fn.results = #[.tmp t, .tmp t'] := by rfl) (hv : lk l t = some v := by rfl) (hv' : lk l t' = some v' := by rfl)
    (h : R (.tuple #[v, v']) w) : Done P fn R .ret a w :=
  bodyPost_ret (results_tmp2 hr _ _ _) hk.defers ⟨_, by rw [hk.get t v hv, hk.get t' v' hv'], h⟩

end
end Go.Proofs.YtkcjkbnbblpomaaGreatDoor
