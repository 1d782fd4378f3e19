/- Layer 5, plain: what is done with nodes. A range over a function: its record, its rounds, what stands behind it. A value that owns several resources at once, of things that are not told. Maps by numbers. Layer 5: nodes by numbers, as they lie in memory. Texts are cut. Layer 3: lists of texts, each once. Layer 5: Doms are read. How texts begin. Layer 2: what the program says of texts. -/
import Derived.Test.YtnjmonkehjlaoaaGreatDoorG05
import Derived.Test.YtnjmonkehjlaoaaGreatDoorG08
import Derived.Test.YtnjmonkehjlaoaaGreatDoorG07
import Derived.RangeFuncRecord
import Derived.Lib.SliceRun
import Derived.WalkSpells
set_option linter.all false
namespace Go.Proofs.YtnjmonkehjlaoaaGreatDoor
structure DomP where
 most : Int
 next : Int
 l : List NodeP
abbrev DomP.f (D : DomP) : Nds := fnP D.l
structure WfD (D : DomP) : Prop where
 uni : (D.l.map (·.id)).Nodup
 wf : Wf D.next D.f
 most : 1 ≤ D.most ∧ D.most ≤ 65536
structure NdB (K : Nat) (n : NodeP) : Prop where
 cls : n.cls.length ≤ K
 att : n.att.length ≤ K
 sty : n.sty.length ≤ K
 kids : n.kids.length ≤ K
 ra : Rises nmS n.att
 rs : Rises nmI n.sty
structure Bnd (K : Nat) (D : DomP) : Prop where
 len : D.l.length ≤ K + 1
 nx : D.next ≤ K + 1
 nd : ∀ n ∈ D.l, NdB K n
theorem NdB.up {K K' : Nat} {n : NodeP} (h : NdB K n) (hk : K ≤ K') : NdB K' n := ⟨by have := h.cls; omega, by have := h.att; omega, by have := h.sty; omega, by have := h.kids; omega, h.ra, h.rs⟩
theorem Bnd.up {K K' : Nat} {D : DomP} (h : Bnd K D) (hk : K ≤ K') : Bnd K' D := ⟨by have := h.len; omega, by have := h.nx; omega, fun n hn => (h.nd n hn).up hk⟩
theorem Bnd.get {K : Nat} {D : DomP} (h : Bnd K D) {id : Int} {n : NodeP} (hn : fnP D.l id = some n) : NdB K n := h.nd n (fnd_mem hn)
def rootP : NodeP := ⟨0, 2, ⟨#[114, 111, 111, 116]⟩, ⟨#[]⟩, [], [], [], -1, []⟩
def newP (most : Int) : DomP := ⟨max 1 (min most 65536), 1, [rootP]⟩
theorem root_f (i : Int) : fnP [rootP] i = if i = 0 then some rootP else none := by
 unfold fnP
 by_cases h : i = 0
 ·subst h;rfl
 ·rw [if_neg (fun e => h e.symm), if_neg h];rfl
theorem newP_wf (most : Int) : WfD (newP most) := by
 have hf : ∀ {i m}, fnP [rootP] i = some m → i = 0 ∧ m = rootP := fun {i m} h => by
  rw [root_f] at h
  split at h
  ·cases h;exact ⟨by assumption, rfl⟩
  ·cases h
 refine ⟨by simp [newP], ⟨by simp [newP], fun i m hm => ?_, ⟨rootP, by simp [DomP.f, newP, root_f], rfl, rfl⟩, fun i m hm => ?_, fun i m hm k hk => ?_, fun i m hm => ?_, fun i m hm => ?_, fun i => ?_, fun i => ?_⟩, by simp only [newP];omega⟩
 ·obtain ⟨rfl, rfl⟩ := hf hm;exact ⟨rfl, Int.le_refl 0, show (0 : Int) < 1 by decide⟩
 ·obtain ⟨rfl, rfl⟩ := hf hm;exact .inr rfl
 ·obtain ⟨rfl, rfl⟩ := hf hm;cases hk
 ·obtain ⟨rfl, rfl⟩ := hf hm;exact .inl rfl
 ·obtain ⟨rfl, rfl⟩ := hf hm;exact List.nodup_nil
 ·exact .intro i fun y ⟨m, hm, hy⟩ => by obtain ⟨rfl, rfl⟩ := hf hm;cases hy
 ·refine .intro i fun y ⟨m, hm, hy⟩ => ?_
  obtain ⟨rfl, rfl⟩ := hf hm
  subst hy
  exact .intro _ fun z ⟨m, hm, hz⟩ => by
   obtain ⟨h, -⟩ := hf hm
   cases h
theorem newP_bnd (most : Int) (K : Nat) : Bnd K (newP most) := by
 refine ⟨by simp [newP], by simp [newP];omega, fun n hn => ?_⟩
 simp only [newP, List.mem_singleton] at hn
 subst hn
 exact ⟨Nat.zero_le _, Nat.zero_le _, Nat.zero_le _, Nat.zero_le _, List.Pairwise.nil, List.Pairwise.nil⟩
section
open Classical
noncomputable def addP (D : DomP) (kind : Int) (tag text : ByteArray) : DomP × Int × Int :=
 if (D.l.length : Int) > D.most then (D, 0, 8) else ({ D with next := D.next + 1, l := D.l ++ [⟨D.next, kind, tag, text, [], [], [], -1, []⟩] }, D.next, 0)
noncomputable def elemP (D : DomP) (tag : ByteArray) : DomP × Int × Int := if nameS tag = true then addP D 2 tag ⟨#[]⟩ else (D, 0, 2)
noncomputable def textP (D : DomP) (s : ByteArray) : DomP × Int × Int := addP D 1 ⟨#[]⟩ s
noncomputable def insP (D : DomP) (parent at_ id : Int) : DomP × Int :=
 match D.f parent, D.f id with
 | some p, some n =>
  if p.kind ≠ 2 then (D, 14)
  else if id = 0 ∨ n.par ≠ -1 ∨ Win D.f id parent ∨ at_ < 0 ∨ at_ > p.kids.length then (D, 1)
  else ({ D with l := putP (putP D.l { p with kids := insF p.kids at_.toNat id }) { n with par := parent } }, 0)
 | _, _ => (D, 11)
def woP (l : List Int) (id : Int) : List Int := l.filter (fun x => decide (x ≠ id))
noncomputable def movDP (D : DomP) (id at_ : Int) : DomP × Int :=
 match D.f id with
 | none => (D, 11)
 | some n => match D.f n.par with
  | none => (D, 1)
  | some p => if at_ < 0 ∨ at_ ≥ p.kids.length then (D, 1) else ({ D with l := putP D.l { p with kids := insF (woP p.kids id) at_.toNat id } }, 0)
def leaP (l : List NodeP) (n : NodeP) : List NodeP :=
 match fnP l n.par with
 | none => l
 | some p => putP l { p with kids := woP p.kids n.id }
noncomputable def remL (l : List NodeP) (n : NodeP) : List NodeP := (leaP l n).filter (fun x => decide (x.id ∉ preN (fnP (leaP l n)) n.id))
noncomputable def remP (D : DomP) (id : Int) : DomP × Int :=
 match D.f id with
 | none => (D, 11)
 | some n => if id = 0 then (D, 1) else ({ D with l := remL D.l n }, 0)
def kndC (kind : Int) : Int := if kind = 1 then 1 else 2
def ownP (D : DomP) (id kind : Int) (name : ByteArray) : Int :=
 match D.f id with
 | none => 11
 | some n => if id = 0 then 1 else if n.kind ≠ kind then 14 else if kind = 2 ∧ nameS name = false then 2 else 0
noncomputable def chgP (kind : Int) (n : NodeP) (name v : ByteArray) (num : Int) : Option NodeP :=
 if kind = 0 then some { n with tag := name }
 else if kind = 1 then some { n with text := v }
 else if kind = 2 then some { n with att := putF nmS n.att (name, v) }
 else if kind = 3 then if (lastF nmS n.att name).isSome then some { n with att := n.att.filter (fun x => !decide (x.1 = name)) } else none
 else if kind = 4 then some { n with sty := putF nmI n.sty (name, satF num) }
 else if kind = 5 then if (lastF nmI n.sty name).isSome then some { n with sty := n.sty.filter (fun x => !decide (x.1 = name)) } else none
 else if kind = 6 then if name ∈ n.cls then none else some { n with cls := n.cls ++ [name] }
 else if name ∈ n.cls then some { n with cls := n.cls.filter (fun x => !decide (x = name)) } else none
noncomputable def setP (D : DomP) (kind id : Int) (name v : ByteArray) (num : Int) : DomP × Int :=
 match D.f id with
 | none => (D, 11)
 | some n => if ownP D id (kndC kind) name ≠ 0 then (D, ownP D id (kndC kind) name) else
  match chgP kind n name v num with
  | none => (D, 1)
  | some n' => ({ D with l := putP D.l n' }, 0)
end
theorem ins_perm {α : Type} (l : List α) (i : Nat) (e : α) : List.Perm (insF l i e) (e :: l) := by
 unfold insF
 have : List.Perm (l.take i ++ e :: l.drop i) (e :: (l.take i ++ l.drop i)) := List.perm_middle
 rwa [List.take_append_drop] at this
theorem insLen5 {α : Type} (l : List α) (i : Nat) (e : α) : (insF l i e).length = l.length + 1 := (ins_perm l i e).length_eq
theorem addP_wf {D : DomP} (h : WfD D) {kind : Int} (hk : kind = 1 ∨ kind = 2) (tag text : ByteArray) : WfD (addP D kind tag text).1 := by
 unfold addP
 split
 ·exact h
 ·refine ⟨?_, h.wf.add (n := ⟨D.next, kind, tag, text, [], [], [], -1, []⟩) rfl rfl rfl hk fun i => ?_, h.most⟩
  ·simp only [List.map_append, List.map_cons, List.map_nil]
   rw [List.nodup_append]
   refine ⟨h.uni, by simp, fun a ha b hb e => ?_⟩
   rw [List.mem_singleton] at hb
   obtain ⟨n, hn, rfl⟩ := List.mem_map.1 ha
   have := h.wf.idn _ _ (fnd_of_mem h.uni hn)
   omega
  ·show fnP (D.l ++ [_]) i = _
   rw [fnd_app]
   by_cases hi : i = D.next
   ·subst hi
    rw [show fnP D.l D.next = none from h.wf.big (Int.le_refl _)]
    simp
   ·rw [if_neg hi]
    cases hf : D.f i with
    | none => rw [show fnP D.l i = none from hf];simp only;rw [if_neg (fun e => hi e.symm)]
    | some m => rw [show fnP D.l i = some m from hf]
theorem addP_bnd {K : Nat} {D : DomP} (h : Bnd K D) (kind : Int) (tag text : ByteArray) : Bnd (K + 1) (addP D kind tag text).1 := by
 unfold addP
 split
 ·exact h.up (by omega)
 ·refine ⟨by have := h.len;simp only [List.length_append, List.length_cons, List.length_nil];omega, by have := h.nx;simp only;omega, fun n hn => ?_⟩
  rcases List.mem_append.1 hn with hn | hn
  ·exact (h.nd n hn).up (by omega)
  ·rw [List.mem_singleton] at hn
   subst hn
   exact ⟨Nat.zero_le _, Nat.zero_le _, Nat.zero_le _, Nat.zero_le _, List.Pairwise.nil, List.Pairwise.nil⟩
theorem elemP_wf {D : DomP} (h : WfD D) (tag : ByteArray) : WfD (elemP D tag).1 := by
 unfold elemP;split
 ·exact addP_wf h (.inr rfl) _ _
 ·exact h
theorem elemP_bnd {K : Nat} {D : DomP} (h : Bnd K D) (tag : ByteArray) : Bnd (K + 1) (elemP D tag).1 := by
 unfold elemP;split
 ·exact addP_bnd h _ _ _
 ·exact h.up (by omega)
theorem textP_wf {D : DomP} (h : WfD D) (s : ByteArray) : WfD (textP D s).1 := addP_wf h (.inl rfl) _ _
theorem textP_bnd {K : Nat} {D : DomP} (h : Bnd K D) (s : ByteArray) : Bnd (K + 1) (textP D s).1 := addP_bnd h _ _ _
theorem put_bnd {K : Nat} {D : DomP} (h : Bnd K D) {n : NodeP} (hn : NdB K n) : Bnd K { D with l := putP D.l n } :=
 ⟨by have := h.len;simp only [put_len0];exact this, h.nx, fun x hx => (put_mem0 hx).elim (fun e => e ▸ hn) (h.nd x)⟩
theorem insP_wf {D : DomP} (h : WfD D) (parent at_ id : Int) : WfD (insP D parent at_ id).1 := by
 unfold insP
 split
 ·rename_i p n hp hn
  split
  ·exact h
  ·split
   ·exact h
   ·rename_i hc
    simp only [not_or] at hc
    obtain ⟨h0, hl, hw, -, -⟩ := hc
    have ep : p.id = parent := fnd_id hp
    have en : n.id = id := fnd_id hn
    have hne : parent ≠ id := fun e => hw (by rw [e];exact .refl hn)
    have hmem : id ∉ p.kids := fun hm => by
     obtain ⟨c, hc, hcp⟩ := h.wf.down parent p hp id hm
     rw [hn] at hc;cases hc
     have := h.wf.idn parent p hp
     omega
    refine ⟨?_, h.wf.ins hp hn h0 (by omega) hw (ks := insF p.kids at_.toNat id) (fun x => ?_) ?_ (fun i => ?_), h.most⟩
    ·rw [put_ids, put_ids];exact h.uni
    ·rw [(ins_perm _ _ _).mem_iff, List.mem_cons]
    ·rw [(ins_perm _ _ _).nodup_iff, List.nodup_cons];exact ⟨hmem, h.wf.nod parent p hp⟩
    ·have h1 : ∀ i, fnP (putP D.l { p with kids := insF p.kids at_.toNat id }) i = if i = parent then some { p with kids := insF p.kids at_.toNat id } else D.f i := fun i => by
      rw [fnd_put_some (n := { p with kids := insF p.kids at_.toNat id }) (m := p) (by simp only [ep];exact hp)]
      simp only [ep]
     show fnP (putP (putP D.l _) _) i = _
     rw [fnd_put_some (n := { n with par := parent }) (m := n) (by rw [h1];simp only [en];rw [if_neg (Ne.symm hne)];exact hn), h1]
     simp only [en]
 ·exact h
theorem insP_bnd {K : Nat} {D : DomP} (h : Bnd K D) (parent at_ id : Int) : Bnd (K + 1) (insP D parent at_ id).1 := by
 unfold insP
 split
 ·rename_i p n hp hn
  split
  ·exact h.up (by omega)
  ·split
   ·exact h.up (by omega)
   ·have b1 := h.get hp
    have b2 := h.get hn
    have hk := insLen5 p.kids at_.toNat id
    exact put_bnd (D := { D with l := putP D.l { p with kids := insF p.kids at_.toNat id } }) (put_bnd (h.up (Nat.le_succ K)) (n := { p with kids := insF p.kids at_.toNat id }) ⟨by have := b1.cls;simp only;omega, by have := b1.att;simp only;omega, by have := b1.sty;simp only;omega, by have := b1.kids;simp only;omega, b1.ra, b1.rs⟩)
     ⟨by have := b2.cls;simp only;omega, by have := b2.att;simp only;omega, by have := b2.sty;simp only;omega, by have := b2.kids;simp only;omega, b2.ra, b2.rs⟩
 ·exact h.up (by omega)
end Go.Proofs.YtnjmonkehjlaoaaGreatDoor
namespace Go.Proofs.YtnjmonkehjlaoaaGreatDoor
variable {df : List Deferred} {rr : Option Nat}
open Go.RowKit
def obj (b : Nat) (o : Obj) : HP where
 holds F w := F b ∧ (∀ c, F c → c = b) ∧ w.heap[b]? = some o
 stable := fun F w w' ⟨h1, h2, h3⟩ h => ⟨h1, h2, by rw [h b h1];exact h3⟩
 dom := fun F w c ⟨h1, h2, h3⟩ hc => by
  rw [h2 c hc]
  rcases Nat.lt_or_ge b w.heap.size with h' | h'
  ·exact h'
  ·rw [Array.getElem?_eq_none h'] at h3;cases h3
theorem obj.block {b : Nat} {o : Obj} {w : World} (h : (obj b o).rd w) : w.heap[b]? = some o :=
 let ⟨_, h⟩ := h
 h.2.2
theorem St.newObj {B : Bs} {w : World} {L : List HP} (h : St B L w) (o : Obj) : St B (obj w.heap.size o :: L) (w.alloc o) :=
 h.new (As := [_]) ((Below.refl _ _).alloc (Nat.le_refl _) _) ⟨fun b => b = w.heap.size, fun b hb => by subst hb;simp, Sep.one ⟨rfl, fun _ h => h, World.alloc_heap_new w o⟩⟩
def lrec (fn : FuncId) (tmps : Array Value) (ps : Array Tmp) (assign body : Code) (D : Nat) (s : LoopState) (pe : Option Code) : Obj :=
 .loop { state := s, pending := pe, fn, tmps, params := ps, assign, body, defers := D }
def BegK (P : Program) (b : Nat) (body : Code) (R : Ending → World → Prop) (a : Act) (w : World) : Prop :=
 ∃ w₂, (Instr.beginRound b).run P w = .ok () w₂ ∧ body.wpIn (FR (some b)) 0 P (roundPost P b R) a w₂
section
variable {P : Program} {Q : Exit → Act → World → Prop} {a : Act} {w w' : World} {w0 : Bs} {n : Nat} {l l0 : List (Nat × Value)} {L L' : List HP}
 {dst : Option Nat} {R : Value → World → Prop} {ty : TypeId} {pos : String} {af : Array Edge} {g : Option (Nat × Bool)}
 {fn : FuncId} {tmps : Array Value} {ps : Array Tmp} {assign body : Code} {D b : Nat}
def mk_ (D : Nat) : List Deferred := [{ target := .collected D, args := #[] }]
def DoneM (P : Program) (fn : Func) (R : Value → World → Prop) : Exit → Act → World → Prop := bodyPostM Fence.wide 0 P fn (Ret R)
theorem done0n {fn : Func} (hk : Kn [] n a l) (hr : fn.results = #[] := by rfl) (h : R (.tuple #[]) w) : Done P fn R .normal a w :=
 bodyPost_end (results_none hr _ _ _) hk.defers ⟨_, rfl, h⟩
theorem g_eqN {x : Operand} {t t' E m c n' c' : Nat} {ao : Option Addr} (hk : Kn df n a l) (h : R (.bool ao.isNone) w) (hx : ev l x = some (.slice ao m c) := by rfl) (hT : elOf P t = some E) :
  Gives P ⟨dst, .binOp .eql t x (.const (.slice none n' c')) t', ty, pos, af, g⟩ a w R :=
 givesv (v := .bool ao.isNone) (by
  have h1 := Lib.run_eql_slice_nil (P := P) w t E ao m c n' c' (elOf_und hT)
  have h2 : a.eval (.const (.slice none n' c')) = .slice none n' c' := rfl
  simp [execOp, hk.eval hx, h2, eqGuard, Sem.run_bind, h1]) h
end
end Go.Proofs.YtnjmonkehjlaoaaGreatDoor
namespace Go.Proofs.YtnjmonkehjlaoaaGreatDoor
open Go.RowKit
theorem Sep.split {w : World} : ∀ {L1 L2 : List HP} {F : Nat → Prop}, Sep (L1 ++ L2) F w → ∃ F1 F2 : Nat → Prop, (∀ b, F1 b → F b) ∧ (∀ b, F2 b → F b) ∧ (∀ b, F1 b → F2 b → False) ∧ Sep L1 F1 w ∧ Sep L2 F2 w
 | [], _, F, h => ⟨fun _ => False, F, fun _ h => h.elim, fun _ h => h, fun _ h _ => h, trivial, h⟩
 | A :: L1, L2, F, ⟨G1, G2, h1, h2, h3, h4, h5⟩ => by
  obtain ⟨F1, F2, k1, k2, k3, k4, k5⟩ := Sep.split (L1 := L1) h5
  exact ⟨fun b => G1 b ∨ F1 b, F2, fun b h => h.elim (h1 b) (fun h => h2 b (k1 b h)), fun b h => h2 b (k2 b h), fun b h1 hF => h1.elim (fun hG => h3 b hG (k2 b hF)) (fun hG => k3 b hG hF),
   ⟨G1, F1, fun b h => .inl h, fun b h => .inr h, fun b hG hF => h3 b hG (k1 b hF), h4, k4⟩, k5⟩
def bagH {α : Type} (A : α → List HP) (p : α → Prop) : HP where
 holds F w := (∀ b, F b → b < w.heap.size) ∧ ∃ x, p x ∧ Sep (A x) F w
 stable F w w' h hF := by
  obtain ⟨h1, x, hp, hs⟩ := h
  refine ⟨fun b hb => ?_, x, hp, hs.stable hF⟩
  have h2 := hF b hb
  rcases Nat.lt_or_ge b w'.heap.size with h | h
  ·exact h
  ·rw [Array.getElem?_eq_none h, Array.getElem?_eq_getElem (h1 b hb)] at h2;cases h2
 dom F w b h hb := h.1 b hb
theorem bagH.of {α : Type} {A : α → List HP} {p : α → Prop} {B : Bs} {w : World} {L : List HP} {x : α} (h : St B (A x ++ L) w) (hp : p x) : St B (bagH A p :: L) w := by
 obtain ⟨F, hF, hs⟩ := h.own
 obtain ⟨F1, F2, h1, h2, h3, h4, h5⟩ := hs.split
 exact ⟨h.below, h.frz, F, hF, F1, F2, h1, h2, h3, ⟨fun b hb => (hF b (h1 b hb)).2, x, hp, h4⟩, h5⟩
theorem St.bag {α : Type} {A : α → List HP} {p : α → Prop} {B : Bs} {w : World} {L L' : List HP} (h : St B L w) (hat : At (bagH A p) L L') : ∃ x, p x ∧ St B (A x ++ L') w := by
 obtain ⟨F, hF, hs⟩ := h.own
 obtain ⟨F1, F2, h1, h2, h3, ⟨_, x, hp, h4⟩, h5⟩ := hs.pull hat
 exact ⟨x, hp, h.below, h.frz, F, hF, (h4.append h5 h3).mono (fun b hb => hb.elim (h1 b) (h2 b))⟩
theorem Sep.rd {w : World} {A : HP} {L L' : List HP} {F : Nat → Prop} (h : Sep L F w) (hat : At A L L') : A.rd w :=
 let ⟨F1, _, _, _, _, h4, _⟩ := h.pull hat
 ⟨F1, h4⟩
theorem bagH.rd {α : Type} {A : α → List HP} {p : α → Prop} {w : World} (h : (bagH A p).rd w) : ∃ x, p x ∧ ∃ F, Sep (A x) F w :=
 let ⟨F, _, x, hp, hs⟩ := h
 ⟨x, hp, F, hs⟩
noncomputable def only (F : Nat → Prop) (w : World) : World :=
 { w with heap := w.heap.mapIdx fun i o => @ite _ (F i) (Classical.propDecidable _) o dead }
theorem only_in {F : Nat → Prop} {w : World} {b : Nat} (h : F b) : (only F w).heap[b]? = w.heap[b]? := by
 classical
 simp only [only, Array.getElem?_mapIdx]
 cases hw : w.heap[b]? with
 | none => rfl
 | some o => simp [h]
theorem only_live {F : Nat → Prop} {w : World} {b : Nat} (h : live (only F w) b) : F b := by
 classical
 obtain ⟨o, h1, h2⟩ := h
 simp only [only, Array.getElem?_mapIdx] at h1
 cases hw : w.heap[b]? with
 | none => rw [hw] at h1;cases h1
 | some o' =>
  rw [hw] at h1
  simp only [Option.map_some, Option.some.injEq] at h1
  by_cases hf : F b
  ·exact hf
  ·rw [if_neg hf] at h1;exact absurd h1.symm h2
theorem only_frz (F : Nat → Prop) (w : World) : Frz (only F w) w := fun b o h1 h2 => by
 have hf := only_live ⟨o, h1, h2⟩
 rw [only_in hf] at h1
 exact h1
def rdH (R : World → Prop) : HP where
 holds F w := (∀ b, F b → b < w.heap.size) ∧ ∃ g : World, (∀ b, live g b → F b) ∧ Frz g w ∧ R g
 stable F w w' h hF := by
  obtain ⟨h1, g, hl, hz, hr⟩ := h
  refine ⟨fun b hb => ?_, g, hl, fun b o ho hd => ?_, hr⟩
  ·have h2 := hF b hb
   rcases Nat.lt_or_ge b w'.heap.size with h | h
   ·exact h
   ·rw [Array.getElem?_eq_none h, Array.getElem?_eq_getElem (h1 b hb)] at h2;cases h2
  ·rw [hF b (hl b ⟨o, ho, hd⟩)];exact hz b o ho hd
 dom F w b h hb := h.1 b hb
def Stays (R : World → Prop) : Prop := ∀ g w, Frz g w → R g → R w
theorem rdH.rd {R : World → Prop} (hm : Stays R) {w : World} (h : (rdH R).rd w) : R w :=
 let ⟨_, _, g, _, hz, hr⟩ := h
 hm g w hz hr
theorem Sep.all {w : World} : ∀ {L : List HP} {F : Nat → Prop}, Sep L F w → ∀ A ∈ L, ∃ F', (∀ b, F' b → F b) ∧ A.holds F' w
 | A :: L, F, ⟨F1, F2, h1, h2, _, h4, h5⟩, B, hB => by
  rcases List.mem_cons.1 hB with rfl | hB
  ·exact ⟨F1, h1, h4⟩
  ·obtain ⟨F', k1, k2⟩ := Sep.all h5 B hB
   exact ⟨F', fun b hb => h2 b (k1 b hb), k2⟩
theorem rdH.of {R : World → Prop} {B : Bs} {w : World} {L1 L : List HP} (h : St B (L1 ++ L) w) (hr : ∀ g, (∀ A ∈ L1, A.rd g) → R g) : St B (rdH R :: L) w := by
 obtain ⟨F, hF, hs⟩ := h.own
 obtain ⟨F1, F2, h1, h2, h3, h4, h5⟩ := hs.split
 refine ⟨h.below, h.frz, F, hF, F1, F2, h1, h2, h3, ⟨fun b hb => (hF b (h1 b hb)).2, only F1 w, fun b => only_live, only_frz F1 w, hr _ fun A hA => ?_⟩, h5⟩
 obtain ⟨F', k1, k2⟩ := h4.all A hA
 exact ⟨F', A.stable _ _ _ k2 fun b hb => only_in (k1 b hb)⟩
end Go.Proofs.YtnjmonkehjlaoaaGreatDoor
namespace Go.Proofs.YtnjmonkehjlaoaaGreatDoor
open Go.RowKit
def encI (n : Int) : Value := .int .i64 n
theorem keyI : KeyT Tryz.prog 3 encI := keyInt (iT rfl)
theorem mapH.shape {κ : Type} {enc : κ → Value} {v : Value} {l : List (κ × Value)} {w : World} (h : (mapH enc v l).rd w) : ∃ b, v = .map (some b) :=
 let ⟨_, b, _, _, h1, _⟩ := h
 ⟨b, h1⟩
end Go.Proofs.YtnjmonkehjlaoaaGreatDoor
namespace Go.Proofs.YtnjmonkehjlaoaaGreatDoor
open Go.RowKit
set_option maxRecDepth 100000
attribute [local irreducible] Go.Code.wpIn Go.wpListIn Go.Calls Gives Go.Exit.then Go.Exit.inBlock Done ObxE
abbrev pA (b : Nat) : Value := .pointer (some ⟨b, 0, none⟩)
abbrev NoA := (Option Addr × Nat) × (Option Addr × Nat) × (Option Addr × Nat) × (Option Addr × Nat)
abbrev nodC (n : NodeP) (y : NoA) : List Value :=
 [.int .i64 n.id, .int .i64 n.kind, .string n.tag, .string n.text, .slice y.1.1 n.cls.length y.1.2, .slice y.2.1.1 n.att.length y.2.1.2, .slice y.2.2.1.1 n.sty.length y.2.2.1.2, .int .i64 n.par, .slice y.2.2.2.1 n.kids.length y.2.2.2.2]
abbrev nodeL (b : Nat) (n : NodeP) (y : NoA) : List HP :=
 [pts b (nodC n y) 93, OwT 9 n.cls (.slice y.1.1 n.cls.length y.1.2), OwT 139 n.att (.slice y.2.1.1 n.att.length y.2.1.2),
  OwT 140 n.sty (.slice y.2.2.1.1 n.sty.length y.2.2.1.2), OwT 3 n.kids (.slice y.2.2.2.1 n.kids.length y.2.2.2.2)]
def nodH (b : Nat) (n : NodeP) : HP := bagH (fun y : NoA => nodeL b n y) (fun _ => True)
def ndsL (bl : Int → Nat) (l : List NodeP) : List HP := l.map (fun n => nodH (bl n.id) n)
def ndsH (bl : Int → Nat) (l : List NodeP) : HP := bagH (fun _ : Unit => ndsL bl l) (fun _ => True)
def mapL (bl : Int → Nat) (l : List NodeP) : List (Int × Value) := l.map (fun n => (n.id, pA (bl n.id)))
abbrev domC5 (D : DomP) (bm : Nat) : List Value := [.int .i64 D.most, .int .i64 D.next, .map (some bm)]
abbrev domL (bd : Nat) (D : DomP) (bm : Nat) (bl : Int → Nat) : List HP := [pts bd (domC5 D bm) 90, mapH encI (.map (some bm)) (mapL bl D.l), ndsH bl D.l]
def domH (bd : Nat) (D : DomP) : HP := bagH (fun y : Nat × (Int → Nat) => domL bd D y.1 y.2) (fun _ => True)
theorem Sep.perm {w : World} {L L' : List HP} (h : List.Perm L L') : ∀ {F : Nat → Prop}, Sep L F w → Sep L' F w := by
 induction h with
 | nil => exact fun h => h
 | cons x _ ih => exact fun ⟨F1, F2, h1, h2, h3, h4, h5⟩ => ⟨F1, F2, h1, h2, h3, h4, ih h5⟩
 | swap x y l => exact fun h => h.sub (.cons (.there .here) (.cons .here .refl))
 | trans _ _ ih1 ih2 => exact fun h => ih2 (ih1 h)
def ousP (l : List NodeP) (id : Int) : List NodeP := l.filter (fun x => decide (x.id ≠ id))
theorem out_perm {l : List NodeP} (hu : (l.map (·.id)).Nodup) {id : Int} {n : NodeP} (hn : fnP l id = some n) : List.Perm l (n :: ousP l id) := by
 induction l with
 | nil => cases hn
 | cons x l ih =>
  simp only [List.map_cons, List.nodup_cons] at hu
  unfold fnP at hn
  unfold ousP at *
  by_cases hx : x.id = id
  ·rw [if_pos hx] at hn
   cases hn
   have : l.filter (fun y => decide (y.id ≠ id)) = l := List.filter_eq_self.2 fun y hy => decide_eq_true fun e => hu.1 (by rw [hx, ← e];exact List.mem_map_of_mem hy)
   rw [List.filter_cons, if_neg (by simp [hx]), this]
  ·rw [if_neg hx] at hn
   rw [List.filter_cons, if_pos (by simpa using hx)]
   exact ((ih hu.2 hn).cons x).trans (.swap _ _ _)
theorem out_put {l : List NodeP} {n : NodeP} : ousP (putP l n) n.id = ousP l n.id := by
 induction l with
 | nil => rfl
 | cons x l ih =>
  unfold ousP putP at *
  rw [List.map_cons, List.filter_cons, List.filter_cons, ih]
  by_cases hx : x.id = n.id
  ·rw [if_pos hx];simp [hx]
  ·rw [if_neg hx]
theorem put_perm {l : List NodeP} (hu : (l.map (·.id)).Nodup) {n n' : NodeP} (hn : fnP l n'.id = some n) : List.Perm (putP l n') (n' :: ousP l n'.id) := by
 have h1 : fnP (putP l n') n'.id = some n' := by rw [fnd_put_some hn, if_pos rfl]
 have := out_perm (l := putP l n') (by rw [put_ids];exact hu) h1
 rwa [out_put] at this
theorem out_f (l : List NodeP) (id i : Int) : fnP (ousP l id) i = if i = id then none else fnP l i := by
 unfold ousP
 rw [fnd_filter l (fun i => decide (i ≠ id))]
 by_cases h : i = id
 ·rw [if_neg (by simpa using h), if_pos h]
 ·rw [if_pos (by simpa using h), if_neg h]
theorem out_uni {l : List NodeP} (hu : (l.map (·.id)).Nodup) (id : Int) : ((ousP l id).map (·.id)).Nodup := hu.sublist (List.Sublist.map _ List.filter_sublist)
section
variable {B : Bs} {w : World} {L L' : List HP} {bl : Int → Nat} {l : List NodeP}
theorem St.perm (h : St B L w) (hp : List.Perm L L') : St B L' w := ⟨h.below, h.frz, let ⟨F, hF, hs⟩ := h.own; ⟨F, hF, hs.perm hp⟩⟩
theorem nodH.of {b : Nat} {n : NodeP} {y : NoA} (hS : St B (nodeL b n y ++ L) w) : St B (nodH b n :: L) w := bagH.of (A := fun y : NoA => nodeL b n y) (x := y) hS trivial
theorem St.nod {b : Nat} {n : NodeP} (hS : St B L w) (hat : At (nodH b n) L L') : ∃ a1 c1 a2 c2 a3 c3 a4 c4, St B (nodeL b n ((a1, c1), (a2, c2), (a3, c3), (a4, c4)) ++ L') w := by
 obtain ⟨⟨⟨a1, c1⟩, ⟨a2, c2⟩, ⟨a3, c3⟩, ⟨a4, c4⟩⟩, -, h⟩ := St.bag hS hat
 exact ⟨a1, c1, a2, c2, a3, c3, a4, c4, h⟩
theorem nodH.get {b : Nat} {n : NodeP} (h : (nodH b n).rd w) : ∃ a1 c1 a2 c2 a3 c3 a4 c4, (pts b (nodC n ((a1, c1), (a2, c2), (a3, c3), (a4, c4))) 93).rd w ∧ SlT n.cls (.slice a1 n.cls.length c1) w ∧ SlT n.att (.slice a2 n.att.length c2) w ∧ SlT n.sty (.slice a3 n.sty.length c3) w ∧ SlT n.kids (.slice a4 n.kids.length c4) w := by
 obtain ⟨⟨⟨a1, c1⟩, ⟨a2, c2⟩, ⟨a3, c3⟩, ⟨a4, c4⟩⟩, -, F, h⟩ := bagH.rd h
 exact ⟨a1, c1, a2, c2, a3, c3, a4, c4, h.rd .here, OwT.rd (h.rd (.there .here)), OwT.rd (h.rd (.there (.there .here))), OwT.rd (h.rd (.there (.there (.there .here)))), OwT.rd (h.rd (.there (.there (.there (.there .here)))))⟩
theorem ndsH.of (hS : St B (ndsL bl l ++ L) w) : St B (ndsH bl l :: L) w := bagH.of (A := fun _ : Unit => ndsL bl l) (x := ()) hS trivial
theorem St.nds (hS : St B L w) (hat : At (ndsH bl l) L L') : St B (ndsL bl l ++ L') w := by
 obtain ⟨⟨⟩, -, h⟩ := St.bag hS hat
 exact h
theorem ndsH.rd {id : Int} {n : NodeP} (h : (ndsH bl l).rd w) (hn : fnP l id = some n) : (nodH (bl id) n).rd w := by
 obtain ⟨⟨⟩, -, F, hs⟩ := bagH.rd h
 obtain ⟨F', -, h1⟩ := hs.all (nodH (bl n.id) n) (List.mem_map_of_mem (f := fun n => nodH (bl n.id) n) (fnd_mem hn))
 rw [fnd_id hn] at h1
 exact ⟨F', h1⟩
theorem St.out (hS : St B L w) (hat : At (ndsH bl l) L L') (hu : (l.map (·.id)).Nodup) {id : Int} {n : NodeP} (hn : fnP l id = some n) : St B (nodH (bl id) n :: ndsH bl (ousP l id) :: L') w := by
 have h1 := hS.nds hat
 have hp : List.Perm (ndsL bl l ++ L') (ndsL bl (ousP l id) ++ (nodH (bl id) n :: L')) := by
  have := (List.Perm.map (fun n => nodH (bl n.id) n) (out_perm hu hn)).append_right L'
  rw [List.map_cons, fnd_id hn] at this
  exact this.trans List.perm_middle.symm
 exact (ndsH.of (h1.perm hp)).perm (.swap _ _ _)
theorem ndsH.put {n n' : NodeP} (hu : (l.map (·.id)).Nodup) (hn : fnP l n'.id = some n) (hS : St B (nodH (bl n'.id) n' :: ndsH bl (ousP l n'.id) :: L) w) : St B (ndsH bl (putP l n') :: L) w := by
 have h1 := hS.nds (.there .here)
 refine ndsH.of (h1.perm ?_)
 have := (List.Perm.map (fun n => nodH (bl n.id) n) (put_perm hu hn)).append_right L
 rw [List.map_cons] at this
 exact (List.perm_middle.trans this.symm)
theorem ndsL_up {b : Nat} {i : Int} (h : ∀ x ∈ l, x.id ≠ i) : ndsL (fun j => if j = i then b else bl j) l = ndsL bl l := by
 unfold ndsL
 refine List.map_congr_left fun x hx => ?_
 show nodH (if x.id = i then b else bl x.id) x = _
 rw [if_neg (h x hx)]
theorem mapL_up {b : Nat} {i : Int} (h : ∀ x ∈ l, x.id ≠ i) : mapL (fun j => if j = i then b else bl j) l = mapL bl l := by
 unfold mapL
 refine List.map_congr_left fun x hx => ?_
 show (x.id, pA (if x.id = i then b else bl x.id)) = _
 rw [if_neg (h x hx)]
theorem ndsH.add {b : Nat} {n : NodeP} (h : ∀ x ∈ l, x.id ≠ n.id) (hS : St B (nodH b n :: ndsH bl l :: L) w) : St B (ndsH (fun j => if j = n.id then b else bl j) (l ++ [n]) :: L) w := by
 have h1 := hS.nds (.there .here)
 refine ndsH.of (h1.perm ?_)
 have e : ndsL (fun j => if j = n.id then b else bl j) (l ++ [n]) = ndsL bl l ++ [nodH b n] := by
  have := ndsL_up (bl := bl) (b := b) h
  unfold ndsL at this ⊢
  rw [List.map_append, this]
  simp
 rw [e, List.append_assoc]
 exact List.Perm.refl _
theorem mapL_put (n : NodeP) : mapL bl (putP l n) = mapL bl l := by
 unfold mapL putP
 rw [List.map_map]
 refine List.map_congr_left fun x _ => ?_
 simp only [Function.comp]
 split
 ·rename_i h;rw [h]
 ·rfl
theorem getL_mapL (id : Int) : getL (mapL bl l) id = (fnP l id).map (fun _ => pA (bl id)) := by
 induction l with
 | nil => rfl
 | cons x l ih =>
  have ih : getL (mapL bl l) id = _ := ih
  show getL ((x.id, pA (bl x.id)) :: mapL bl l) id = _
  rw [getL_cons, ih]
  unfold fnP
  by_cases h : x.id = id
  ·rw [if_pos h, if_pos h.symm, h];rfl
  ·rw [if_neg h, if_neg (fun e => h e.symm)]
   cases l <;> rfl
theorem setL_mapL {id : Int} {b : Nat} (h : ∀ x ∈ l, x.id ≠ id) : setL (mapL bl l) id (pA b) = mapL bl l ++ [(id, pA b)] := by
 induction l with
 | nil => rfl
 | cons x l ih =>
  show setL ((x.id, pA (bl x.id)) :: mapL bl l) id (pA b) = _
  unfold setL
  rw [if_neg (fun e => h x (by simp) e.symm), ih (fun y hy => h y (by simp [hy]))]
  rfl
structure DomR (bd : Nat) (D : DomP) (bm : Nat) (bl : Int → Nat) (w : World) : Prop where
 d : (pts bd (domC5 D bm) 90).rd w
 m : (mapH encI (.map (some bm)) (mapL bl D.l)).rd w
 n : (ndsH bl D.l).rd w
theorem DomR.mono {bd : Nat} {D : DomP} {bm : Nat} {w w' : World} (h : DomR bd D bm bl w) (hb : Below w.heap.size w w') : DomR bd D bm bl w' := ⟨h.d.mono hb, h.m.mono hb, h.n.mono hb⟩
theorem domH.get {bd : Nat} {D : DomP} (h : (domH bd D).rd w) : ∃ bm bl, DomR bd D bm bl w := by
 obtain ⟨⟨bm, bl⟩, -, F, h⟩ := bagH.rd h
 exact ⟨bm, bl, h.rd .here, h.rd (.there .here), h.rd (.there (.there .here))⟩
theorem domH.of {bd : Nat} {D : DomP} {bm : Nat} (hS : St B (domL bd D bm bl ++ L) w) : St B (domH bd D :: L) w := bagH.of (A := fun y : Nat × (Int → Nat) => domL bd D y.1 y.2) (x := (bm, bl)) hS trivial
theorem St.dom {bd : Nat} {D : DomP} (hS : St B L w) (hat : At (domH bd D) L L') : ∃ bm bl, St B (domL bd D bm bl ++ L') w := by
 obtain ⟨⟨bm, bl⟩, -, h⟩ := St.bag hS hat
 exact ⟨bm, bl, h⟩
theorem St.domR {bd : Nat} {D : DomP} {bm : Nat} (hS : St B (domL bd D bm bl ++ L) w) : DomR bd D bm bl w := ⟨hS.rd .here, hS.rd (.there .here), hS.rd (.there (.there .here))⟩
end
end Go.Proofs.YtnjmonkehjlaoaaGreatDoor
namespace Go.Proofs.YtnjmonkehjlaoaaGreatDoor
open Go.RowKit
set_option maxRecDepth 100000
attribute [local irreducible] Go.Code.wpIn Go.wpListIn Go.Calls Gives Go.Exit.then Go.Exit.inBlock Done ObxE
def cutF (s : ByteArray) (n : Nat) : ByteArray := if n < s.size then s.extract 0 n else s
theorem cut_any (s : ByteArray) (n : Nat) (w0 : World) : Calls Tryz.prog 6 #[.string s, .int .i64 (n : Int)] w0 (Ret fun v w => v = .string (cutF s n) ∧ St w0 [] w) := by
 refine enter Tryz.func6 rfl Tryz.ntmps6 rfl (fun a hk => ?_);have hS := St.refl w0
 by_cases hn : n < s.size
 ·have hn' : (n : Int) < (s.size : Int) := by omega
  (repeat' (first|((first|refine wx1 ?_|refine wx2 ?_ ?_<;>intro hp|refine s_end hk ?_)<;>(clear hk a;intro a hk))|((first|refine wx3 ?_;intro w b|refine wx4 ?_;intro w|refine wx5 ?_;intro w v);clear hk hS a;intro hS a hk)|refine wx0 ?_|fail))
  exact done1 hk (h := ⟨by rw [cutF, if_pos hn];rfl, hS.nil⟩)
 ·have hn' : ¬ (n : Int) < (s.size : Int) := by omega
  (repeat' (first|((first|refine wx1 ?_|refine wx2 ?_ ?_<;>intro hp|refine s_end hk ?_)<;>(clear hk a;intro a hk))|((first|refine wx3 ?_;intro w b|refine wx4 ?_;intro w|refine wx5 ?_;intro w v);clear hk hS a;intro hS a hk)|refine wx0 ?_|fail))
  exact done1 hk (h := ⟨by rw [cutF, if_neg hn], hS.nil⟩)
end Go.Proofs.YtnjmonkehjlaoaaGreatDoor
namespace Go.Proofs.YtnjmonkehjlaoaaGreatDoor
open Go.RowKit
set_option maxRecDepth 100000
attribute [local irreducible] Go.Code.wpIn Go.wpListIn Go.Calls Gives Go.Exit.then Go.Exit.inBlock Done ObxE
theorem cloneS_any (l : List ByteArray) (v : Value) (w0 : World) (hv : SlT l v w0) (hl : l.length ≤ 1000) :
  Calls Tryz.prog 90 #[v] w0 (Ret fun v w => St w0 [OwT 9 l v] w) := by
 obtain ⟨ao, c, rfl, hao, _, _⟩ := hv.shape
 refine enter Tryz.func90 rfl Tryz.ntmps90 rfl (fun a hk => ?_);have hS := St.refl w0
 (repeat' (first|((first|refine wx1 ?_|refine wx2 ?_ ?_<;>intro hp|refine s_end hk ?_)<;>(clear hk a;intro a hk))|((first|refine wx3 ?_;intro w b|refine wx4 ?_;intro w|refine wx5 ?_;intro w v);clear hk hS a;intro hS a hk)|refine wx0 ?_|fail))
 refine sg hk (g_eqN hk ?_ (hT := eT rfl));clear hk a;intro a hk
 cases ao with
 | none =>
  obtain ⟨h1, _⟩ := hao rfl
  subst h1
  (repeat' (first|((first|refine wx1 ?_|refine wx2 ?_ ?_<;>intro hp|refine s_end hk ?_)<;>(clear hk a;intro a hk))|((first|refine wx3 ?_;intro w b|refine wx4 ?_;intro w|refine wx5 ?_;intro w v);clear hk hS a;intro hS a hk)|refine wx0 ?_|fail))
  exact done1 hk (h := hS.nilT 9 ByteArray)
 | some ad =>
  (repeat' (first|((first|refine wx1 ?_|refine wx2 ?_ ?_<;>intro hp|refine s_end hk ?_)<;>(clear hk a;intro a hk))|((first|refine wx3 ?_;intro w b|refine wx4 ?_;intro w|refine wx5 ?_;intro w v);clear hk hS a;intro hS a hk)|refine wx0 ?_|fail))
  refine sg hk (g_bs0 ByteArray hS ?_ (hT := eT rfl) (hE := zT rfl));clear hk hS a;intro w v0 hS a hk
  refine sg hk (g_move hk ?_);clear hk a;intro a hk
  refine sg hk (g_appT (xs := ([] : List ByteArray)) (ys := l) hk hS ?_ (hT := eT rfl) (hTx := eT rfl) (hE := zT rfl) (hz := oT rfl) (hzs := rfl) (hs := hS.rdT hv) (hby := bT rfl) (hbytes := by simp only [List.length_nil];omega) (h63 := by simp only [maxLen, List.length_nil];omega));clear hk hS a;intro w v1 hS a hk
  rw [List.nil_append] at hS
  (repeat' (first|((first|refine wx1 ?_|refine wx2 ?_ ?_<;>intro hp|refine s_end hk ?_)<;>(clear hk a;intro a hk))|((first|refine wx3 ?_;intro w b|refine wx4 ?_;intro w|refine wx5 ?_;intro w v);clear hk hS a;intro hS a hk)|refine wx0 ?_|fail))
  exact done1 hk (h := hS)
open Classical in
noncomputable def addC (l : List ByteArray) (c : ByteArray) : List ByteArray := if c ∈ l then l else l ++ [c]
noncomputable def clnC (l : List ByteArray) : List ByteArray := l.foldl addC []
end Go.Proofs.YtnjmonkehjlaoaaGreatDoor
namespace Go.Proofs.YtnjmonkehjlaoaaGreatDoor
open Go.RowKit
section
variable {P : Program} {a : Act} {w : World} {n : Nat} {l : List (Nat × Value)} {df : List Deferred}
 {dst : Option Nat} {ty : TypeId} {pos : String} {af : Array Edge} {g : Option (Nat × Bool)} {R : Value → World → Prop}
theorem g_pnE {x : Operand} {t t' : TypeId} {o : Option Addr} (hk : Kn df n a l) (h : R (.bool o.isNone) w) (hT : P.underlying t = some (.pointer (P.pointee t))) (hx : ev l x = some (.pointer o) := by rfl) :
  Gives P ⟨dst, .binOp .eql t x (.const (.pointer none)) t', ty, pos, af, g⟩ a w R :=
 givesv (v := .bool o.isNone) (by
  have h1 := run_eql_pointer_nil (P := P) w t o hT
  have h2 : a.eval (.const (.pointer none)) = .pointer none := rfl
  simp [execOp, hk.eval hx, h2, eqGuard_at_pointer, h1]) h
theorem g_pnN {x : Operand} {t t' : TypeId} {o : Option Addr} (hk : Kn df n a l) (h : R (.bool (!o.isNone)) w) (hT : P.underlying t = some (.pointer (P.pointee t))) (hx : ev l x = some (.pointer o) := by rfl) :
  Gives P ⟨dst, .binOp .neq t x (.const (.pointer none)) t', ty, pos, af, g⟩ a w R :=
 givesv (v := .bool (!o.isNone)) (by
  have h1 := run_neq_pointer_nil (P := P) w t o hT
  have h2 : a.eval (.const (.pointer none)) = .pointer none := rfl
  simp [execOp, hk.eval hx, h2, eqGuard_at_pointer, h1]) h
theorem g_lenM {κ : Type} {enc : κ → Value} {m : List (κ × Value)} {x : Operand} {T K E : TypeId} {v : Value} (hk : Kn df n a l) (h : R (.int .i64 m.length) w) (hm : (mapH enc v m).rd w) (hT : mapOf P T = some (K, E)) (hx : ev l x = some v := by rfl) :
  Gives P ⟨dst, .call { callee := .builtin .len, args := #[x], argTypes := #[T] }, ty, pos, af, g⟩ a w R := by
 obtain ⟨F, b, es, c, rfl, hF, hF', hb, he, _⟩ := hm
 have hl : es.size = m.length := by
  have := congrArg List.length he
  simpa using this
 refine givesv (v := .int .i64 m.length) ?_ h
 simp [execOp, resolve, invoke, builtin, hk.eval hx, Builtin.len_, run_underlying (mapOf_und hT), goInt, getObj, Sem.run, hb, hl]
end
set_option maxRecDepth 100000
attribute [local irreducible] Go.Code.wpIn Go.wpListIn Go.Calls Gives Go.Exit.then Go.Exit.inBlock Done ObxE
def pO (bl : Int → Nat) (f : Nds) (id : Int) : Option Addr := (f id).map (fun _ => ⟨bl id, 0, none⟩)
theorem pO_some {bl : Int → Nat} {f : Nds} {id : Int} {n : NodeP} (h : f id = some n) : pO bl f id = some ⟨bl id, 0, none⟩ := by unfold pO; rw [h]; rfl
theorem pO_none {bl : Int → Nat} {f : Nds} {id : Int} (h : f id = none) : pO bl f id = none := by unfold pO; rw [h]; rfl
section
variable {a : Act} {w : World} {n : Nat} {l : List (Nat × Value)} {df : List Deferred}
 {dst : Option Nat} {ty : TypeId} {pos : String} {af : Array Edge} {g : Option (Nat × Bool)} {R : Value → World → Prop}
theorem g_lk5 {x y : Operand} {v : Value} {id : Int} {bl : Int → Nat} {ns : List NodeP} (hk : Kn df n a l) (hm : (mapH encI v (mapL bl ns)).rd w) (h : R (.pointer (pO bl (fnP ns) id)) w) 
  (hx : ev l x = some v := by rfl) (hy : ev l y = some (.int .i64 id) := by rfl) : Gives Tryz.prog ⟨dst, .lookup 88 x y false, ty, pos, af, g⟩ a w R := by
 refine g_lookup (k := id) hk hm ?_ (mT rfl) keyI (oT rfl) hx hy
 rw [getL_mapL]
 unfold pO at h
 cases hf : fnP ns id with
 | none => rw [hf] at h;exact h
 | some n => rw [hf] at h;exact h
end
theorem DomR.nd {bd : Nat} {D : DomP} {bm : Nat} {bl : Int → Nat} {w : World} (h : DomR bd D bm bl w) {id : Int} {n : NodeP} (hn : D.f id = some n) : (nodH (bl id) n).rd w := ndsH.rd h.n hn
abbrev ndO (n : NodeP) (y : NoA) : List HP := [OwT 9 n.cls (.slice y.1.1 n.cls.length y.1.2), OwT 139 n.att (.slice y.2.1.1 n.att.length y.2.1.2), OwT 140 n.sty (.slice y.2.2.1.1 n.sty.length y.2.2.1.2), OwT 3 n.kids (.slice y.2.2.2.1 n.kids.length y.2.2.2.2)]
abbrev ndZ : Value := .agg #[.int .i64 0, .int .i64 0, .string ⟨#[]⟩, .string ⟨#[]⟩, .slice none 0 0, .slice none 0 0, .slice none 0 0, .int .i64 0, .slice none 0 0]
theorem count5_any {bd bm : Nat} {bl : Int → Nat} {D : DomP} (w0 : World) (hDR : DomR bd D bm bl w0) (hl : D.l.length ≤ 1000000) : Calls Tryz.prog 13 #[pA bd] w0 (Ret fun v w => v = .int .i64 ((D.l.length : Int) - 1) ∧ St w0 [] w) := by
 have h1 := hDR.d
 simp only [domC5] at h1
 refine enter Tryz.func13 rfl Tryz.ntmps13 rfl (fun a hk => ?_);have hS := St.refl w0
 (repeat' (first|((first|refine wx1 ?_|refine wx2 ?_ ?_<;>intro hp|refine s_end hk ?_)<;>(clear hk a;intro a hk))|((first|refine wx3 ?_;intro w b|refine wx4 ?_;intro w|refine wx5 ?_;intro w v);clear hk hS a;intro hS a hk)|refine wx0 ?_|fail))
 refine sg hk (g_lenM hk ?_ (hDR.mono hS.below).m (mT rfl));clear hk a;intro a hk
 rw [show (mapL bl D.l).length = D.l.length from List.length_map _] at hk
 (repeat' (first|((first|refine wx1 ?_|refine wx2 ?_ ?_<;>intro hp|refine s_end hk ?_)<;>(clear hk a;intro a hk))|((first|refine wx3 ?_;intro w b|refine wx4 ?_;intro w|refine wx5 ?_;intro w v);clear hk hS a;intro hS a hk)|refine wx0 ?_|fail))
 exact done1 hk (h := ⟨rfl, hS.nil⟩)
theorem room5_any {bd bm : Nat} {bl : Int → Nat} {D : DomP} (w0 : World) (hDR : DomR bd D bm bl w0) (hl : D.l.length ≤ 1000000) (hm : 1 ≤ D.most ∧ D.most ≤ 65536) : Calls Tryz.prog 123 #[pA bd] w0 (Ret fun v w => v = .int .i64 (D.most - ((D.l.length : Int) - 1)) ∧ St w0 [] w) := by
 have h1 := hDR.d
 simp only [domC5] at h1
 refine enter Tryz.func123 rfl Tryz.ntmps123 rfl (fun a hk => ?_);have hS := St.refl w0
 (repeat' (first|((first|refine wx1 ?_|refine wx2 ?_ ?_<;>intro hp|refine s_end hk ?_)<;>(clear hk a;intro a hk))|((first|refine wx3 ?_;intro w b|refine wx4 ?_;intro w|refine wx5 ?_;intro w v);clear hk hS a;intro hS a hk)|refine wx0 ?_|fail))
 refine wp_drawn 8 mixed (by kernel_rfl) hk hS ?_;clear hk hS a
 (repeat' (first|(show ObxE _ _ _ _ _ _ _ _ _ (_::_) _ _ _;first|refine ox1 ?_|refine ox2 ?_ ?_<;>intro hp)|fail))
 refine' obe_val (fun us a w hk hd hS => ?_) ?_;rotate_left;focus (have hk := Kn.vw hk vwx;exact g_callO hk (hf := by kernel_rfl) (hc := count5_any _ (hDR.mono hS.below) hl) (h := fun _ _ h => h))
 (repeat' (first|(show ObxE _ _ _ _ _ _ _ _ _ (_::_) _ _ _;first|refine ox1 ?_|refine ox2 ?_ ?_<;>intro hp)|fail))
 refine obe_nil ⟨rfl, ?_⟩;intro us a w hk hS
 (repeat' (first|((first|refine wx1 ?_|refine wx2 ?_ ?_<;>intro hp|refine s_end hk ?_)<;>(clear hk a;intro a hk))|((first|refine wx3 ?_;intro w b|refine wx4 ?_;intro w|refine wx5 ?_;intro w v);clear hk hS a;intro hS a hk)|refine wx0 ?_|fail))
 exact done1 hk (h := ⟨rfl, hS.nil⟩)
set_option maxHeartbeats 4000000 in
theorem within5_any {bd bm : Nat} {bl : Int → Nat} {D : DomP} (id of_ : Int) (w0 : World) (hDR : DomR bd D bm bl w0) (hW : WfD D) : Calls Tryz.prog 94 #[pA bd, .int .i64 id, .int .i64 of_] w0 (Ret fun v w => ∃ b, v = .bool b ∧ (b = true ↔ Win D.f of_ id) ∧ St w0 [] w) := by
 have h1 := hDR.d
 simp only [domC5] at h1
 have hwf : WellFounded (parOf D.f) := ⟨hW.wf.accU⟩
 refine enter Tryz.func94 rfl Tryz.ntmps94 rfl (fun a hk => ?_);have hS := St.refl w0
 (repeat' (first|((first|refine wx1 ?_|refine wx2 ?_ ?_<;>intro hp|refine s_end hk ?_)<;>(clear hk a;intro a hk))|((first|refine wx3 ?_;intro w b|refine wx4 ?_;intro w|refine wx5 ?_;intro w v);clear hk hS a;intro hS a hk)|refine wx0 ?_|fail))
 refine sg hk (g_lk5 hk (hDR.mono hS.below).m ?_);clear hk a;intro a hk
 refine sg hk (g_pnE hk ?_ (by kernel_rfl));clear hk a;intro a hk
 cases ho : D.f of_ with
 | none =>
  rw [pO_none ho] at hk
  simp only [Option.isNone_none] at hk
  (repeat' (first|((first|refine wx1 ?_|refine wx2 ?_ ?_<;>intro hp|refine s_end hk ?_)<;>(clear hk a;intro a hk))|((first|refine wx3 ?_;intro w b|refine wx4 ?_;intro w|refine wx5 ?_;intro w v);clear hk hS a;intro hS a hk)|refine wx0 ?_|fail))
  exact done1 hk (h := ⟨false, rfl, ⟨fun h => (by cases h), fun h => by obtain ⟨m, hm⟩ := h.top;rw [ho] at hm;cases hm⟩, hS.nil⟩)
 | some no =>
  rw [pO_some ho] at hk
  simp only [Option.isNone_some] at hk
  (repeat' (first|((first|refine wx1 ?_|refine wx2 ?_ ?_<;>intro hp|refine s_end hk ?_)<;>(clear hk a;intro a hk))|((first|refine wx3 ?_;intro w b|refine wx4 ?_;intro w|refine wx5 ?_;intro w v);clear hk hS a;intro hS a hk)|refine wx0 ?_|fail))
  refine sg hk (g_lk5 hk (hDR.mono hS.below).m ?_);clear hk a;intro a hk
  (repeat' (first|((first|refine wx1 ?_|refine wx2 ?_ ?_<;>intro hp|refine s_end hk ?_)<;>(clear hk a;intro a hk))|((first|refine wx3 ?_;intro w b|refine wx4 ?_;intro w|refine wx5 ?_;intro w v);clear hk hS a;intro hS a hk)|refine wx0 ?_|fail))
  replace hk := Kn.kp [0, 2, 7] hk
  refine wp_while (fun x : Int => [(7, .pointer (pO bl D.f x))]) (fun _ => []) (fun x => Win D.f of_ id ↔ Win D.f of_ x) (fun x => depU D.f hwf x) id hk skx hS.nil Iff.rfl ?_
  clear hk hS a
  intro x a w hk hS hx
  (repeat' (first|((first|refine wx1 ?_|refine wx2 ?_ ?_<;>intro hp|refine s_end hk ?_)<;>(clear hk a;intro a hk))|((first|refine wx3 ?_;intro w b|refine wx4 ?_;intro w|refine wx5 ?_;intro w v);clear hk hS a;intro hS a hk)|refine wx0 ?_|fail))
  refine sg hk (g_pnN hk ?_ (by kernel_rfl));clear hk a;intro a hk
  cases hf : D.f x with
  | none =>
   rw [pO_none hf] at hk
   simp only [Option.isNone_none, Bool.not_true] at hk
   (repeat' (first|((first|refine wx1 ?_|refine wx2 ?_ ?_<;>intro hp|refine s_end hk ?_)<;>(clear hk a;intro a hk))|((first|refine wx3 ?_;intro w b|refine wx4 ?_;intro w|refine wx5 ?_;intro w v);clear hk hS a;intro hS a hk)|refine wx0 ?_|fail))
   exact done1 hk (h := ⟨false, rfl, ⟨fun h => (by cases h), fun h => absurd (hx.1 h) (win_none hf)⟩, hS.nil⟩)
  | some m =>
   rw [pO_some hf] at hk
   simp only [Option.isNone_some, Bool.not_false] at hk
   obtain ⟨a1, c1, a2, c2, a3, c3, a4, c4, h0, -⟩ := nodH.get (hDR.nd hf)
   simp only [nodC] at h0
   have hmi : m.id = x := fnd_id hf
   have hdep := depU_some hwf hf
   by_cases he : m.id = of_
   ·(repeat' (first|((first|refine wx1 ?_|refine wx2 ?_ ?_<;>intro hp|refine s_end hk ?_)<;>(clear hk a;intro a hk))|((first|refine wx3 ?_;intro w b|refine wx4 ?_;intro w|refine wx5 ?_;intro w v);clear hk hS a;intro hS a hk)|refine wx0 ?_|fail))
    exact done1 hk (h := ⟨true, rfl, ⟨fun _ => hx.2 (by rw [← he, hmi];exact .refl hf), fun _ => rfl⟩, hS.nil⟩)
   ·(repeat' (first|((first|refine wx1 ?_|refine wx2 ?_ ?_<;>intro hp|refine s_end hk ?_)<;>(clear hk a;intro a hk))|((first|refine wx3 ?_;intro w b|refine wx4 ?_;intro w|refine wx5 ?_;intro w v);clear hk hS a;intro hS a hk)|refine wx0 ?_|fail))
    refine wp_drawn 9 mixed (by kernel_rfl) hk hS ?_;clear hk hS a
    (repeat' (first|(show ObxE _ _ _ _ _ _ _ _ _ (_::_) _ _ _;first|refine ox1 ?_|refine ox2 ?_ ?_<;>intro hp)|fail))
    refine' obe_val (fun us a w hk hd hS => ?_) ?_;rotate_left;focus (have hk := Kn.vw hk vwx;exact g_lk5 hk (hDR.mono hS.below).m (same _ _))
    refine obe_nil ⟨rfl, ?_⟩;intro us a w hk hS
    (repeat' (first|((first|refine wx1 ?_|refine wx2 ?_ ?_<;>intro hp|refine s_end hk ?_)<;>(clear hk a;intro a hk))|((first|refine wx3 ?_;intro w b|refine wx4 ?_;intro w|refine wx5 ?_;intro w v);clear hk hS a;intro hS a hk)|refine wx0 ?_|fail))
    exact ⟨m.par, by omega, hk.sd, hS.nil, hx.trans ((win_iff hf).trans ⟨fun h => h.resolve_left (fun e => he (by rw [hmi];exact e)), .inr⟩)⟩
end Go.Proofs.YtnjmonkehjlaoaaGreatDoor
namespace Go.Proofs.YtnjmonkehjlaoaaGreatDoor
open Go.RowKit
set_option maxRecDepth 100000
attribute [local irreducible] Go.Code.wpIn Go.wpListIn Go.Calls Gives Go.Exit.then Go.Exit.inBlock Done ObxE
theorem prefix_any (s p : ByteArray) (w0 : World) : Calls Tryz.prog 122 #[.string s, .string p] w0 (Ret fun v w => v = .bool (decide (p.size ≤ s.size ∧ s.extract 0 p.size = p)) ∧ St w0 [] w) := by
 refine enter Tryz.func122 rfl Tryz.ntmps122 rfl (fun a hk => ?_);have hS := St.refl w0
 by_cases h : p.size ≤ s.size
 ·(repeat' (first|((first|refine wx1 ?_|refine wx2 ?_ ?_<;>intro hp|refine s_end hk ?_)<;>(clear hk a;intro a hk))|((first|refine wx3 ?_;intro w b|refine wx4 ?_;intro w|refine wx5 ?_;intro w v);clear hk hS a;intro hS a hk)|refine wx0 ?_|fail))
  all_goals first
   | exact done1 hk (h := ⟨by rw [decide_eq_true ⟨h, by simpa using (by assumption)⟩], hS.nil⟩)
   | exact done1 hk (h := ⟨by rw [decide_eq_false (fun e => absurd e.2 (by simpa using (by assumption)))], hS.nil⟩)
 ·(repeat' (first|((first|refine wx1 ?_|refine wx2 ?_ ?_<;>intro hp|refine s_end hk ?_)<;>(clear hk a;intro a hk))|((first|refine wx3 ?_;intro w b|refine wx4 ?_;intro w|refine wx5 ?_;intro w v);clear hk hS a;intro hS a hk)|refine wx0 ?_|fail))
  exact done1 hk (h := ⟨by rw [decide_eq_false (fun e => h e.1)], hS.nil⟩)
theorem hasPrefix_any (s p : ByteArray) (w0 : World) : Calls Tryz.prog 91 #[.string s, .string p] w0 (Ret fun v w => v = .bool (decide (p.size ≤ s.size ∧ s.extract 0 p.size = p)) ∧ St w0 [] w) := by
 refine enter Tryz.func91 rfl Tryz.ntmps91 rfl (fun a hk => ?_);have hS := St.refl w0
 (repeat' (first|((first|refine wx1 ?_|refine wx2 ?_ ?_<;>intro hp|refine s_end hk ?_)<;>(clear hk a;intro a hk))|((first|refine wx3 ?_;intro w b|refine wx4 ?_;intro w|refine wx5 ?_;intro w v);clear hk hS a;intro hS a hk)|refine wx0 ?_|fail))
 refine sg hk (g_callO hk (hf := by kernel_rfl) (hc := prefix_any s p _) (h := ?_));clear hk a;rintro _ w ⟨rfl, hS1⟩ a hk;replace hS := hS.call0 hS1;clear hS1
 (repeat' (first|((first|refine wx1 ?_|refine wx2 ?_ ?_<;>intro hp|refine s_end hk ?_)<;>(clear hk a;intro a hk))|((first|refine wx3 ?_;intro w b|refine wx4 ?_;intro w|refine wx5 ?_;intro w v);clear hk hS a;intro hS a hk)|refine wx0 ?_|fail))
 exact done1 hk (h := ⟨rfl, hS.nil⟩)
end Go.Proofs.YtnjmonkehjlaoaaGreatDoor
namespace Go.Proofs.YtnjmonkehjlaoaaGreatDoor
open Go.RowKit
set_option maxRecDepth 100000
attribute [local irreducible] Go.Code.wpIn Go.wpListIn Go.Calls Gives Go.Exit.then Go.Exit.inBlock Done ObxE
theorem letter_any (b : UInt8) (w0 : World) : Calls Tryz.prog 111 #[.int .u8 (b.toNat : Nat)] w0 (Ret fun v w => v = .bool (letB b) ∧ St w0 [] w) := by
 refine enter Tryz.func111 rfl Tryz.ntmps111 rfl (fun a hk => ?_);have hS := St.refl w0
 (repeat' (first|((first|refine wx1 ?_|refine wx2 ?_ ?_<;>intro hp|refine s_end hk ?_)<;>(clear hk a;intro a hk))|((first|refine wx3 ?_;intro w b|refine wx4 ?_;intro w|refine wx5 ?_;intro w v);clear hk hS a;intro hS a hk)|refine wx0 ?_|fail))
 all_goals exact done1 hk (h := ⟨by unfold letB;first | rw [decide_eq_true (by omega)] | rw [decide_eq_false (by omega)], hS.nil⟩)
theorem digit_any (b : UInt8) (w0 : World) : Calls Tryz.prog 144 #[.int .u8 (b.toNat : Nat)] w0 (Ret fun v w => v = .bool (digB b) ∧ St w0 [] w) := by
 refine enter Tryz.func144 rfl Tryz.ntmps144 rfl (fun a hk => ?_);have hS := St.refl w0
 (repeat' (first|((first|refine wx1 ?_|refine wx2 ?_ ?_<;>intro hp|refine s_end hk ?_)<;>(clear hk a;intro a hk))|((first|refine wx3 ?_;intro w b|refine wx4 ?_;intro w|refine wx5 ?_;intro w v);clear hk hS a;intro hS a hk)|refine wx0 ?_|fail))
 all_goals exact done1 hk (h := ⟨by unfold digB;first | rw [decide_eq_true (by omega)] | rw [decide_eq_false (by omega)], hS.nil⟩)
theorem visible_any (b : UInt8) (w0 : World) : Calls Tryz.prog 142 #[.int .u8 (b.toNat : Nat)] w0 (Ret fun v w => v = .bool (visB b) ∧ St w0 [] w) := by
 refine enter Tryz.func142 rfl Tryz.ntmps142 rfl (fun a hk => ?_);have hS := St.refl w0
 (repeat' (first|((first|refine wx1 ?_|refine wx2 ?_ ?_<;>intro hp|refine s_end hk ?_)<;>(clear hk a;intro a hk))|((first|refine wx3 ?_;intro w b|refine wx4 ?_;intro w|refine wx5 ?_;intro w v);clear hk hS a;intro hS a hk)|refine wx0 ?_|fail))
 all_goals exact done1 hk (h := ⟨by unfold visB;first | rw [decide_eq_true (by omega)] | rw [decide_eq_false (by omega)], hS.nil⟩)
theorem printed_any (b : UInt8) (w0 : World) : Calls Tryz.prog 119 #[.int .u8 (b.toNat : Nat)] w0 (Ret fun v w => v = .bool (priB b) ∧ St w0 [] w) := by
 refine enter Tryz.func119 rfl Tryz.ntmps119 rfl (fun a hk => ?_);have hS := St.refl w0
 (repeat' (first|((first|refine wx1 ?_|refine wx2 ?_ ?_<;>intro hp|refine s_end hk ?_)<;>(clear hk a;intro a hk))|((first|refine wx3 ?_;intro w b|refine wx4 ?_;intro w|refine wx5 ?_;intro w v);clear hk hS a;intro hS a hk)|refine wx0 ?_|fail))
 all_goals exact done1 hk (h := ⟨by unfold priB;first | rw [decide_eq_true (by omega)] | rw [decide_eq_false (by omega)], hS.nil⟩)
theorem plain_any (b : UInt8) (w0 : World) : Calls Tryz.prog 120 #[.int .u8 (b.toNat : Nat)] w0 (Ret fun v w => v = .bool (plaB b) ∧ St w0 [] w) := by
 refine enter Tryz.func120 rfl Tryz.ntmps120 rfl (fun a hk => ?_);have hS := St.refl w0
 (repeat' (first|((first|refine wx1 ?_|refine wx2 ?_ ?_<;>intro hp|refine s_end hk ?_)<;>(clear hk a;intro a hk))|((first|refine wx3 ?_;intro w b|refine wx4 ?_;intro w|refine wx5 ?_;intro w v);clear hk hS a;intro hS a hk)|refine wx0 ?_|fail))
 refine sg hk (g_callO hk (hf := by kernel_rfl) (hc := letter_any b _) (h := ?_));clear hk a;rintro _ w ⟨rfl, hS1⟩ a hk;replace hS := hS.call0 hS1;clear hS1
 cases h : letB b with
 | true =>
  rw [h] at hk
  unfold letB at h
  simp only [decide_eq_true_eq] at h
  (repeat' (first|((first|refine wx1 ?_|refine wx2 ?_ ?_<;>intro hp|refine s_end hk ?_)<;>(clear hk a;intro a hk))|((first|refine wx3 ?_;intro w b|refine wx4 ?_;intro w|refine wx5 ?_;intro w v);clear hk hS a;intro hS a hk)|refine wx0 ?_|fail))
  exact done1 hk (h := ⟨by unfold plaB;rw [decide_eq_true (by omega)], hS.nil⟩)
 | false =>
  rw [h] at hk
  unfold letB at h
  simp only [decide_eq_false_iff_not] at h
  (repeat' (first|((first|refine wx1 ?_|refine wx2 ?_ ?_<;>intro hp|refine s_end hk ?_)<;>(clear hk a;intro a hk))|((first|refine wx3 ?_;intro w b|refine wx4 ?_;intro w|refine wx5 ?_;intro w v);clear hk hS a;intro hS a hk)|refine wx0 ?_|fail))
  refine sg hk (g_callO hk (hf := by kernel_rfl) (hc := digit_any b _) (h := ?_));clear hk a;rintro _ w ⟨rfl, hS1⟩ a hk;replace hS := hS.call0 hS1;clear hS1
  cases h2 : digB b with
  | true =>
   rw [h2] at hk
   unfold digB at h2
   simp only [decide_eq_true_eq] at h2
   (repeat' (first|((first|refine wx1 ?_|refine wx2 ?_ ?_<;>intro hp|refine s_end hk ?_)<;>(clear hk a;intro a hk))|((first|refine wx3 ?_;intro w b|refine wx4 ?_;intro w|refine wx5 ?_;intro w v);clear hk hS a;intro hS a hk)|refine wx0 ?_|fail))
   exact done1 hk (h := ⟨by unfold plaB;rw [decide_eq_true (by omega)], hS.nil⟩)
  | false =>
   rw [h2] at hk
   unfold digB at h2
   simp only [decide_eq_false_iff_not] at h2
   (repeat' (first|((first|refine wx1 ?_|refine wx2 ?_ ?_<;>intro hp|refine s_end hk ?_)<;>(clear hk a;intro a hk))|((first|refine wx3 ?_;intro w b|refine wx4 ?_;intro w|refine wx5 ?_;intro w v);clear hk hS a;intro hS a hk)|refine wx0 ?_|fail))
   all_goals exact done1 hk (h := ⟨by unfold plaB;first | rw [decide_eq_true (by omega)] | rw [decide_eq_false (by omega)], hS.nil⟩)
theorem all_any (fid : FuncId) (p : UInt8 → Bool) (hf : callable Tryz.prog fid = true) (hp : ∀ b w0, Calls Tryz.prog fid #[.int .u8 (b.toNat : Nat)] w0 (Ret fun v w => v = .bool (p b) ∧ St w0 [] w)) (s : ByteArray) (hs : s.size ≤ 1000000) (w0 : World) :
  Calls Tryz.prog 118 #[.string s, .func (.func fid) #[] #[]] w0 (Ret fun v w => v = .bool (s.data.toList.all p) ∧ St w0 [] w) := by
 refine enter Tryz.func118 rfl Tryz.ntmps118 rfl (fun a hk => ?_);have hS := St.refl w0
 (repeat' (first|((first|refine wx1 ?_|refine wx2 ?_ ?_<;>intro hp|refine s_end hk ?_)<;>(clear hk a;intro a hk))|((first|refine wx3 ?_;intro w b|refine wx4 ?_;intro w|refine wx5 ?_;intro w v);clear hk hS a;intro hS a hk)|refine wx0 ?_|fail))
 replace hk := Kn.kp [0, 1, 7, 8] hk
 refine wp_for s.size (fun i _ => [(8, .int .i64 (i : Int))]) (fun _ _ => []) (fun i _ => (s.data.toList.take i).all p = true) () hk skx hS.sb (by simp) ?_
 clear hk hS a
 rintro i - a w hi hk hS hF
 by_cases hil : i < s.size
 ·have htk := all_take hil p
  (repeat' (first|((first|refine wx1 ?_|refine wx2 ?_ ?_<;>intro hp|refine s_end hk ?_)<;>(clear hk a;intro a hk))|((first|refine wx3 ?_;intro w b|refine wx4 ?_;intro w|refine wx5 ?_;intro w v);clear hk hS a;intro hS a hk)|refine wx0 ?_|fail))
  refine sg hk (g_callvO hk (hf := hf) (hc := hp s[i] _) (h := ?_));clear hk a;rintro _ w ⟨rfl, hS1⟩ a hk;replace hS := hS.call0 hS1;clear hS1
  cases hb : p s[i] with
  | true =>
   rw [hb] at hk
   (repeat' (first|((first|refine wx1 ?_|refine wx2 ?_ ?_<;>intro hp|refine s_end hk ?_)<;>(clear hk a;intro a hk))|((first|refine wx3 ?_;intro w b|refine wx4 ?_;intro w|refine wx5 ?_;intro w v);clear hk hS a;intro hS a hk)|refine wx0 ?_|fail))
   exact ⟨hil, (), hk.sd, hS.sb, by rw [htk, hF, hb];rfl⟩
  | false =>
   rw [hb] at hk
   (repeat' (first|((first|refine wx1 ?_|refine wx2 ?_ ?_<;>intro hp|refine s_end hk ?_)<;>(clear hk a;intro a hk))|((first|refine wx3 ?_;intro w b|refine wx4 ?_;intro w|refine wx5 ?_;intro w v);clear hk hS a;intro hS a hk)|refine wx0 ?_|fail))
   exact done1 hk (h := ⟨by rw [all_no hil hb], hS.nil⟩)
 ·have : i = s.size := by omega
  subst this
  rw [all_full] at hF
  (repeat' (first|((first|refine wx1 ?_|refine wx2 ?_ ?_<;>intro hp|refine s_end hk ?_)<;>(clear hk a;intro a hk))|((first|refine wx3 ?_;intro w b|refine wx4 ?_;intro w|refine wx5 ?_;intro w v);clear hk hS a;intro hS a hk)|refine wx0 ?_|fail))
  exact done1 hk (h := ⟨by rw [hF], hS.nil⟩)
theorem key_any (s : ByteArray) (hs : s.size ≤ 1000000) (w0 : World) : Calls Tryz.prog 85 #[.string s] w0 (Ret fun v w => v = .bool (keyS s) ∧ St w0 [] w) := by
 refine enter Tryz.func85 rfl Tryz.ntmps85 rfl (fun a hk => ?_);have hS := St.refl w0
 have he := emp_iff (s := s)
 by_cases h0 : s = ⟨#[]⟩
 ·have h1 := he.1 h0
  (repeat' (first|((first|refine wx1 ?_|refine wx2 ?_ ?_<;>intro hp|refine s_end hk ?_)<;>(clear hk a;intro a hk))|((first|refine wx3 ?_;intro w b|refine wx4 ?_;intro w|refine wx5 ?_;intro w v);clear hk hS a;intro hS a hk)|refine wx0 ?_|fail))
  all_goals first
   | exact done1 hk (h := ⟨by unfold keyS;rw [decide_eq_false (by omega)];rfl, hS.nil⟩)
   | (exfalso;contradiction)
 ·have h1 : s.size ≠ 0 := fun h => h0 (he.2 h)
  by_cases h2 : s.size ≤ 16
  ·(repeat' (first|((first|refine wx1 ?_|refine wx2 ?_ ?_<;>intro hp|refine s_end hk ?_)<;>(clear hk a;intro a hk))|((first|refine wx3 ?_;intro w b|refine wx4 ?_;intro w|refine wx5 ?_;intro w v);clear hk hS a;intro hS a hk)|refine wx0 ?_|fail))
   refine sg hk (g_callO hk (hf := by kernel_rfl) (hc := all_any 120 plaB (by kernel_rfl) plain_any s hs _) (h := ?_));clear hk a;rintro _ w ⟨rfl, hS1⟩ a hk;replace hS := hS.call0 hS1;clear hS1
   (repeat' (first|((first|refine wx1 ?_|refine wx2 ?_ ?_<;>intro hp|refine s_end hk ?_)<;>(clear hk a;intro a hk))|((first|refine wx3 ?_;intro w b|refine wx4 ?_;intro w|refine wx5 ?_;intro w v);clear hk hS a;intro hS a hk)|refine wx0 ?_|fail))
   exact done1 hk (h := ⟨by unfold keyS;rw [decide_eq_true (by omega)];rfl, hS.nil⟩)
  ·(repeat' (first|((first|refine wx1 ?_|refine wx2 ?_ ?_<;>intro hp|refine s_end hk ?_)<;>(clear hk a;intro a hk))|((first|refine wx3 ?_;intro w b|refine wx4 ?_;intro w|refine wx5 ?_;intro w v);clear hk hS a;intro hS a hk)|refine wx0 ?_|fail))
   exact done1 hk (h := ⟨by unfold keyS;rw [decide_eq_false (by omega)];rfl, hS.nil⟩)
theorem name_any (s : ByteArray) (hs : s.size ≤ 1000000) (w0 : World) : Calls Tryz.prog 75 #[.string s] w0 (Ret fun v w => v = .bool (nameS s) ∧ St w0 [] w) := by
 refine enter Tryz.func75 rfl Tryz.ntmps75 rfl (fun a hk => ?_);have hS := St.refl w0
 (repeat' (first|((first|refine wx1 ?_|refine wx2 ?_ ?_<;>intro hp|refine s_end hk ?_)<;>(clear hk a;intro a hk))|((first|refine wx3 ?_;intro w b|refine wx4 ?_;intro w|refine wx5 ?_;intro w v);clear hk hS a;intro hS a hk)|refine wx0 ?_|fail))
 refine sg hk (g_callO hk (hf := by kernel_rfl) (hc := key_any s hs _) (h := ?_));clear hk a;rintro _ w ⟨rfl, hS1⟩ a hk;replace hS := hS.call0 hS1;clear hS1
 cases h : keyS s with
 | false =>
  rw [h] at hk
  (repeat' (first|((first|refine wx1 ?_|refine wx2 ?_ ?_<;>intro hp|refine s_end hk ?_)<;>(clear hk a;intro a hk))|((first|refine wx3 ?_;intro w b|refine wx4 ?_;intro w|refine wx5 ?_;intro w v);clear hk hS a;intro hS a hk)|refine wx0 ?_|fail))
  exact done1 hk (h := ⟨by unfold nameS;rw [h];rfl, hS.nil⟩)
 | true =>
  rw [h] at hk
  have h0 : 0 < s.size := by unfold keyS at h;simp at h;omega
  (repeat' (first|((first|refine wx1 ?_|refine wx2 ?_ ?_<;>intro hp|refine s_end hk ?_)<;>(clear hk a;intro a hk))|((first|refine wx3 ?_;intro w b|refine wx4 ?_;intro w|refine wx5 ?_;intro w v);clear hk hS a;intro hS a hk)|refine wx0 ?_|fail))
  refine sg hk (g_callO hk (hf := by kernel_rfl) (hc := letter_any s[0] _) (h := ?_));clear hk a;rintro _ w ⟨rfl, hS1⟩ a hk;replace hS := hS.call0 hS1;clear hS1
  (repeat' (first|((first|refine wx1 ?_|refine wx2 ?_ ?_<;>intro hp|refine s_end hk ?_)<;>(clear hk a;intro a hk))|((first|refine wx3 ?_;intro w b|refine wx4 ?_;intro w|refine wx5 ?_;intro w v);clear hk hS a;intro hS a hk)|refine wx0 ?_|fail))
  exact done1 hk (h := ⟨by unfold nameS;rw [h, head_at h0];rfl, hS.nil⟩)
theorem value_any (s : ByteArray) (hs : s.size ≤ 1000000) (w0 : World) : Calls Tryz.prog 113 #[.string s] w0 (Ret fun v w => v = .bool (valS s) ∧ St w0 [] w) := by
 refine enter Tryz.func113 rfl Tryz.ntmps113 rfl (fun a hk => ?_);have hS := St.refl w0
 by_cases h2 : s.size ≤ 32
 ·(repeat' (first|((first|refine wx1 ?_|refine wx2 ?_ ?_<;>intro hp|refine s_end hk ?_)<;>(clear hk a;intro a hk))|((first|refine wx3 ?_;intro w b|refine wx4 ?_;intro w|refine wx5 ?_;intro w v);clear hk hS a;intro hS a hk)|refine wx0 ?_|fail))
  refine sg hk (g_callO hk (hf := by kernel_rfl) (hc := all_any 142 visB (by kernel_rfl) visible_any s hs _) (h := ?_));clear hk a;rintro _ w ⟨rfl, hS1⟩ a hk;replace hS := hS.call0 hS1;clear hS1
  (repeat' (first|((first|refine wx1 ?_|refine wx2 ?_ ?_<;>intro hp|refine s_end hk ?_)<;>(clear hk a;intro a hk))|((first|refine wx3 ?_;intro w b|refine wx4 ?_;intro w|refine wx5 ?_;intro w v);clear hk hS a;intro hS a hk)|refine wx0 ?_|fail))
  exact done1 hk (h := ⟨by unfold valS;rw [decide_eq_true (by omega)];rfl, hS.nil⟩)
 ·(repeat' (first|((first|refine wx1 ?_|refine wx2 ?_ ?_<;>intro hp|refine s_end hk ?_)<;>(clear hk a;intro a hk))|((first|refine wx3 ?_;intro w b|refine wx4 ?_;intro w|refine wx5 ?_;intro w v);clear hk hS a;intro hS a hk)|refine wx0 ?_|fail))
  exact done1 hk (h := ⟨by unfold valS;rw [decide_eq_false (by omega)];rfl, hS.nil⟩)
theorem text_any (s : ByteArray) (hs : s.size ≤ 1000000) (w0 : World) : Calls Tryz.prog 83 #[.string s] w0 (Ret fun v w => v = .bool (txtS s) ∧ St w0 [] w) := by
 refine enter Tryz.func83 rfl Tryz.ntmps83 rfl (fun a hk => ?_);have hS := St.refl w0
 by_cases h2 : s.size ≤ 64
 ·(repeat' (first|((first|refine wx1 ?_|refine wx2 ?_ ?_<;>intro hp|refine s_end hk ?_)<;>(clear hk a;intro a hk))|((first|refine wx3 ?_;intro w b|refine wx4 ?_;intro w|refine wx5 ?_;intro w v);clear hk hS a;intro hS a hk)|refine wx0 ?_|fail))
  refine sg hk (g_callO hk (hf := by kernel_rfl) (hc := all_any 119 priB (by kernel_rfl) printed_any s hs _) (h := ?_));clear hk a;rintro _ w ⟨rfl, hS1⟩ a hk;replace hS := hS.call0 hS1;clear hS1
  (repeat' (first|((first|refine wx1 ?_|refine wx2 ?_ ?_<;>intro hp|refine s_end hk ?_)<;>(clear hk a;intro a hk))|((first|refine wx3 ?_;intro w b|refine wx4 ?_;intro w|refine wx5 ?_;intro w v);clear hk hS a;intro hS a hk)|refine wx0 ?_|fail))
  exact done1 hk (h := ⟨by unfold txtS;rw [decide_eq_true (by omega)];rfl, hS.nil⟩)
 ·(repeat' (first|((first|refine wx1 ?_|refine wx2 ?_ ?_<;>intro hp|refine s_end hk ?_)<;>(clear hk a;intro a hk))|((first|refine wx3 ?_;intro w b|refine wx4 ?_;intro w|refine wx5 ?_;intro w v);clear hk hS a;intro hS a hk)|refine wx0 ?_|fail))
  exact done1 hk (h := ⟨by unfold txtS;rw [decide_eq_false (by omega)];rfl, hS.nil⟩)
theorem reserved_any (s : ByteArray) (w0 : World) : Calls Tryz.prog 51 #[.string s] w0 (Ret fun v w => v = .bool (rsvS s) ∧ St w0 [] w) := by
 refine enter Tryz.func51 rfl Tryz.ntmps51 rfl (fun a hk => ?_);have hS := St.refl w0
 (repeat' (first|((first|refine wx1 ?_|refine wx2 ?_ ?_<;>intro hp|refine s_end hk ?_)<;>(clear hk a;intro a hk))|((first|refine wx3 ?_;intro w b|refine wx4 ?_;intro w|refine wx5 ?_;intro w v);clear hk hS a;intro hS a hk)|refine wx0 ?_|fail))
 refine sg hk (g_callO hk (hf := by kernel_rfl) (hc := hasPrefix_any s ⟨#[116, 45]⟩ _) (h := ?_));clear hk a;rintro _ w ⟨rfl, hS1⟩ a hk;replace hS := hS.call0 hS1;clear hS1
 (repeat' (first|((first|refine wx1 ?_|refine wx2 ?_ ?_<;>intro hp|refine s_end hk ?_)<;>(clear hk a;intro a hk))|((first|refine wx3 ?_;intro w b|refine wx4 ?_;intro w|refine wx5 ?_;intro w v);clear hk hS a;intro hS a hk)|refine wx0 ?_|fail))
 exact done1 hk (h := ⟨rfl, hS.nil⟩)
end Go.Proofs.YtnjmonkehjlaoaaGreatDoor
