/- Layer 9: a tree's numbers, by the reference; a tree that is just the document's. Functions that may panic: they return, or they panic; what a call of one of them gives; the end of such a body. Panics that a text throws, interface values, a deferred closure. A region that draws its order, by hand: an operation that only gives a value may be taken first. More values that may be taken first in a region that draws its order; and cuts where orders meet. Layer 9: what nodes are, with all below them, is read as the document says. Layer 7: flat nodes, as the form reads them. Layer 9: the table of powers of ten, as the form lays it. Layer 9: StillReads from the form's reading. -/
import Derived.Test.YtgklceoodpocaaaGreatDoorQ23
import Derived.Test.YtgklceoodpocaaaGreatDoorQ22
import Derived.Test.YtgklceoodpocaaaGreatDoorQ09
import Derived.RecoverIn
import Derived.Laws.Build
import Derived.WideLaws
import Derived.Test.YtgklceoodpocaaaGreatDoorQ07
import Derived.Test.YtgklceoodpocaaaGreatDoorQ20
import Derived.Test.YtgklceoodpocaaaGreatDoorQ10
import Derived.Test.YtgklceoodpocaaaGreatDoorQ08
import Derived.Test.YtgklceoodpocaaaGreatDoorQ03
import Derived.Test.YtgklceoodpocaaaGreatDoorQ18
import Derived.Test.YtgklceoodpocaaaGreatDoorRows
import Derived.Lay
import Derived.SevenTiedAt
set_option linter.all false
namespace Go.Proofs.YtgklceoodpocaaaGreatDoor
open Go.RowKit
set_option maxRecDepth 100000
attribute [local irreducible] Go.Code.wpIn Go.wpListIn Go.Calls Gives Go.Exit.then Go.Exit.inBlock Done ObxE
def idsL (l : List STree) : List Int := (preL l).map STree.id
theorem idsT_mk (id k : Int) (tag text : ByteArray) (cl : List ByteArray) (al : List (ByteArray × ByteArray)) (sl : List (ByteArray × Int)) (kids : List STree) : idsT (.mk id k tag text cl al sl kids) = id :: idsL kids := by
 unfold idsT idsL
 rw [preT, List.map_cons]
 rfl
theorem idsL_snoc (l : List STree) (t : STree) : idsL (l ++ [t]) = idsL l ++ idsT t := by unfold idsL idsT; rw [preL_snoc, List.map_append]
theorem idsT_len (t : STree) : (idsT t).length = (preT t).length := by unfold idsT; rw [List.length_map]
theorem idsL_len (l : List STree) : (idsL l).length = (preL l).length := by unfold idsL; rw [List.length_map]
theorem preL_take (l : List STree) (i : Nat) : (preL (l.take i)).length ≤ (preL l).length := by
 have e := congrArg List.length (preL_app (l.take i) (l.drop i))
 rw [List.take_append_drop, List.length_append] at e
 omega
set_option maxHeartbeats 4000000 in
theorem rids9_any : ∀ (n : Nat) (t : STree) (h : SnH) (w0 : World), SizeOf.sizeOf t < n → SFits t → (preT t).length ≤ 10000 → SrR w0 t h → Calls Tryz.prog 34 #[snV h] w0 (Ret fun v w => St w0 [OwT 3 (idsT t) v] w)
 | 0, _, _, _, hn, _, _, _ => by omega
 | n + 1, t, h, w0, hn, hf, hc, hr => by
  have ih := rids9_any n
  obtain ⟨id, k, tag, text, cl, al, sl, kids, a1, m1, a2, m2, a3, m3, a4, m4, H, rfl, rfl, c1, c2, c3, c4, hF⟩ := hr.split
  obtain ⟨l1, l2, l3, l4, l5⟩ := hf
  have hHk : H.length = kids.length := hF.1
  rw [preT, List.length_cons] at hc
  rw [idsT_mk]
  show Calls Tryz.prog 34 #[.agg #[.int .i64 id, .int .i64 k, .string tag, .string text, .slice a1 cl.length m1, .slice a2 al.length m2, .slice a3 sl.length m3, .slice a4 H.length m4]] w0 _
  refine enter Tryz.func34 rfl Tryz.ntmps34 rfl (fun a hk => ?_);have hS := St.refl w0
  (repeat' (first|((first|refine wx1 ?_|refine wx2 ?_ ?_<;>intro hp|refine s_end hk ?_)<;>(clear hk a;intro a hk))|((first|refine wx3 ?_;intro w b|refine wx4 ?_;intro w|refine wx5 ?_;intro w v);clear hk hS a;intro hS a hk)|refine wx0 ?_|fail))
  rename Value => v8
  replace hk := Kn.kp [3, 10, 11, 12] hk
  refine wp_for H.length (fun i v => [(3, v), (12, .int .i64 (i : Int))]) (fun i v => [OwT 3 (id :: idsL (kids.take i)) v]) (fun _ _ => True) v8 hk skx (hS.sub (by (repeat (first | exact Sub.nil | exact Sub.refl | refine Sub.cons atx ?_)))) trivial ?_
  clear hk hS a
  rintro i vo a w hi hk hS -
  by_cases hil : i < H.length
  ·obtain ⟨tk, htk⟩ : ∃ t, kids[i]? = some t := ⟨_, List.getElem?_eq_getElem (by omega)⟩
   obtain ⟨hd0, hx⟩ : ∃ x, H[i]? = some x := ⟨_, List.getElem?_eq_getElem hil⟩
   have hTr := hF.2 i tk hd0 htk hx
   have hfk := l5 tk (List.mem_of_getElem? htk)
   have hlt : SizeOf.sizeOf tk < n := by have := skid_lt (id := id) (k := k) (tag := tag) (text := text) (cl := cl) (at_ := al) (st := sl) (List.mem_of_getElem? htk);omega
   have hst : id :: idsL (kids.take (i + 1)) = (id :: idsL (kids.take i)) ++ idsT tk := by rw [take_snoc htk, idsL_snoc];rfl
   have hp1 := preL_take kids (i + 1)
   rw [take_snoc htk, preL_snoc, List.length_append] at hp1
   have hp2 := idsL_len (kids.take i)
   have hp3 := idsT_len tk
   have hv1 := hS.rdT c4
   obtain ⟨id0, k0, tag0, text0, ⟨x1, x2, x3⟩, ⟨y1, y2, y3⟩, ⟨z1, z2, z3⟩, ⟨u1, u2, u3⟩⟩ := hd0
   (repeat' (first|((first|refine wx1 ?_|refine wx2 ?_ ?_<;>intro hp|refine s_end hk ?_)<;>(clear hk a;intro a hk))|((first|refine wx3 ?_;intro w b|refine wx4 ?_;intro w|refine wx5 ?_;intro w v);clear hk hS a;intro hS a hk)|refine wx0 ?_|fail))
   refine sg hk (g_callO hk (hf := by kernel_rfl) (hc := ih tk (id0, k0, tag0, text0, ⟨x1, x2, x3⟩, ⟨y1, y2, y3⟩, ⟨z1, z2, z3⟩, ⟨u1, u2, u3⟩) _ hlt hfk (by omega) (hS.rdSr hTr)) (h := ?_));clear hk a;rintro vn w hS1 a hk;replace hS := hS.call hS1;clear hS1
   have hl1 : (id :: idsL (kids.take i)).length = (idsL (kids.take i)).length + 1 := rfl
   (repeat' (first|((first|refine wx1 ?_|refine wx2 ?_ ?_<;>intro hp|refine s_end hk ?_)<;>(clear hk a;intro a hk))|((first|refine wx3 ?_;intro w b|refine wx4 ?_;intro w|refine wx5 ?_;intro w v);clear hk hS a;intro hS a hk)|refine wx0 ?_|fail))
   rw [← hst] at hS
   exact ⟨hil, _, hk.sd, hS.sb, trivial⟩
  ·have : i = kids.length := by omega
   subst this
   rw [List.take_length] at hS
   (repeat' (first|((first|refine wx1 ?_|refine wx2 ?_ ?_<;>intro hp|refine s_end hk ?_)<;>(clear hk a;intro a hk))|((first|refine wx3 ?_;intro w b|refine wx4 ?_;intro w|refine wx5 ?_;intro w v);clear hk hS a;intro hS a hk)|refine wx0 ?_|fail))
   exact done1 hk (h := hS.sb)
theorem is9_any (t u : STree) (h g : SnH) (w0 : World) (hf : SFits t) (hf' : SFits u) (hc : (preT t).length ≤ 10000) (hc' : (preT u).length ≤ 10000) (hr : SrR w0 t h) (hr' : SrR w0 u g) :
  Calls Tryz.prog 10 #[snV h, snV g] w0 (Ret fun v w => v = .bool (eqS t u && decide (idsT t = idsT u)) ∧ St w0 [] w) := by
 have hr0 := hr
 have hr0' := hr'
 obtain ⟨id, k, tag, text, cl, al, sl, kids, a1, m1, a2, m2, a3, m3, a4, m4, H, rfl, rfl, c1, c2, c3, c4, hF⟩ := hr.split
 obtain ⟨id', k', tag', text', cl', al', sl', kids', b1', n1, b2', n2, b3', n3, b4', n4, G, rfl, rfl, g1, g2, g3, g4, hG⟩ := hr'.split
 generalize hT : STree.mk id k tag text cl al sl kids = T at *
 generalize hU : STree.mk id' k' tag' text' cl' al' sl' kids' = U at *
 show Calls Tryz.prog 10 #[rtreeV id k tag text a1 cl.length m1 a2 al.length m2 a3 sl.length m3 a4 H.length m4, rtreeV id' k' tag' text' b1' cl'.length n1 b2' al'.length n2 b3' sl'.length n3 b4' G.length n4] w0 _
 refine enter Tryz.func10 rfl Tryz.ntmps10 rfl (fun a hk => ?_);have hS := St.refl w0
 (repeat' (first|((first|refine wx1 ?_|refine wx2 ?_ ?_<;>intro hp|refine s_end hk ?_)<;>(clear hk a;intro a hk))|((first|refine wx3 ?_;intro w b|refine wx4 ?_;intro w|refine wx5 ?_;intro w v);clear hk hS a;intro hS a hk)|refine wx0 ?_|fail))
 refine sg hk (g_callO hk (hf := by kernel_rfl) (hc := told9_any (SizeOf.sizeOf T + 1) T (id, k, tag, text, ⟨a1, cl.length, m1⟩, ⟨a2, al.length, m2⟩, ⟨a3, sl.length, m3⟩, ⟨a4, H.length, m4⟩) _ (by omega) hf (hS.rdSr hr0)) (h := ?_));clear hk a;rintro vn w hS1 a hk;replace hS := hS.call hS1;clear hS1
 rw [List.cons_append, List.nil_append] at hS
 obtain ⟨hd1, rfl, hS1⟩ := St.stree hS .here
 clear hS
 have hS := hS1
 clear hS1
 obtain ⟨id2, k2, tag2, text2, ⟨x12, x22, x32⟩, ⟨y12, y22, y32⟩, ⟨z12, z22, z32⟩, ⟨u12, u22, u32⟩⟩ := hd1
 (repeat' (first|((first|refine wx1 ?_|refine wx2 ?_ ?_<;>intro hp|refine s_end hk ?_)<;>(clear hk a;intro a hk))|((first|refine wx3 ?_;intro w b|refine wx4 ?_;intro w|refine wx5 ?_;intro w v);clear hk hS a;intro hS a hk)|refine wx0 ?_|fail))
 have hcall := fun w0 h1 h2 => sameR9_any (SizeOf.sizeOf T + 1) T U (id2, k2, tag2, text2, ⟨x12, x22, x32⟩, ⟨y12, y22, y32⟩, ⟨z12, z22, z32⟩, ⟨u12, u22, u32⟩) (id', k', tag', text', ⟨b1', cl'.length, n1⟩, ⟨b2', al'.length, n2⟩, ⟨b3', sl'.length, n3⟩, ⟨b4', G.length, n4⟩) w0 (by omega) hf hf' h1 h2
 cases hs : eqS T U with
 | false =>
  rw [hs] at hcall
  refine wp_drawn 10 mixed (by kernel_rfl) hk hS ?_;clear hk hS a
  (repeat' (first|(show ObxE _ _ _ _ _ _ _ _ _ (_::_) _ _ _;first|refine ox1 ?_|refine ox2 ?_ ?_<;>intro hp)|fail))
  refine' obe_val (fun us a w hk hd hS => ?_) ?_;rotate_left;focus (have hk := Kn.vw hk vwx;exact g_callO hk (hf := by kernel_rfl) (hc := hcall _ (hS.srR atx) (hS.rdSr hr0')) (h := fun _ _ h => h))
  (repeat' (first|(show ObxE _ _ _ _ _ _ _ _ _ (_::_) _ _ _;first|refine ox1 ?_|refine ox2 ?_ ?_<;>intro hp)|fail))
  refine obe_nil ⟨rfl, ?_⟩;intro us a w hk hS
  (repeat' (first|((first|refine wx1 ?_|refine wx2 ?_ ?_<;>intro hp|refine s_end hk ?_)<;>(clear hk a;intro a hk))|((first|refine wx3 ?_;intro w b|refine wx4 ?_;intro w|refine wx5 ?_;intro w v);clear hk hS a;intro hS a hk)|refine wx0 ?_|fail))
  exact done1 hk (h := ⟨rfl, hS.nil⟩)
 | true =>
  rw [hs] at hcall
  refine wp_drawn 10 mixed (by kernel_rfl) hk hS ?_;clear hk hS a
  (repeat' (first|(show ObxE _ _ _ _ _ _ _ _ _ (_::_) _ _ _;first|refine ox1 ?_|refine ox2 ?_ ?_<;>intro hp)|fail))
  refine' obe_val (fun us a w hk hd hS => ?_) ?_;rotate_left;focus (have hk := Kn.vw hk vwx;exact g_callO hk (hf := by kernel_rfl) (hc := hcall _ (hS.srR atx) (hS.rdSr hr0')) (h := fun _ _ h => h))
  (repeat' (first|(show ObxE _ _ _ _ _ _ _ _ _ (_::_) _ _ _;first|refine ox1 ?_|refine ox2 ?_ ?_<;>intro hp)|fail))
  refine' obe_res (fun us a w hk hd hS => ?_) ?_;rotate_left;focus (have hk := Kn.vw hk vwx;exact g_callO hk (hf := by kernel_rfl) (hc := rids9_any (SizeOf.sizeOf T + 1) T (id2, k2, tag2, text2, ⟨x12, x22, x32⟩, ⟨y12, y22, y32⟩, ⟨z12, z22, z32⟩, ⟨u12, u22, u32⟩) _ (by omega) hf hc (hS.srR atx)) (h := fun _ _ h => h))
  (repeat' (first|(show ObxE _ _ _ _ _ _ _ _ _ (_::_) _ _ _;first|refine ox1 ?_|refine ox2 ?_ ?_<;>intro hp)|fail))
  refine' obe_res (fun us a w hk hd hS => ?_) ?_;rotate_left;focus (have hk := Kn.vw hk vwx;exact g_callO hk (hf := by kernel_rfl) (hc := rids9_any (SizeOf.sizeOf U + 1) U (id', k', tag', text', ⟨b1', cl'.length, n1⟩, ⟨b2', al'.length, n2⟩, ⟨b3', sl'.length, n3⟩, ⟨b4', G.length, n4⟩) _ (by omega) hf' hc' (hS.rdSr hr0')) (h := fun _ _ h => h))
  refine' obe_val (fun us a w hk hd hS => ?_) ?_;rotate_left;focus (have hk := Kn.vw hk vwx;have h1 : (OwT 3 (idsT T) (us 5)).rd w := hd.1;have h2 : (OwT 3 (idsT U) (us 7)).rd w := hd.2.1;simp only [Nat.zero_add, Nat.reduceAdd] at hk;exact g_callO hk (hf := by kernel_rfl) (hc := numbers_any (idsT T) (idsT U) _ _ _ (OwT.rd h1) (OwT.rd h2)) (h := fun _ _ h => h))
  (repeat' (first|(show ObxE _ _ _ _ _ _ _ _ _ (_::_) _ _ _;first|refine ox1 ?_|refine ox2 ?_ ?_<;>intro hp)|fail))
  refine obe_nil ⟨rfl, ?_⟩;intro us a w hk hS
  (repeat' (first|((first|refine wx1 ?_|refine wx2 ?_ ?_<;>intro hp|refine s_end hk ?_)<;>(clear hk a;intro a hk))|((first|refine wx3 ?_;intro w b|refine wx4 ?_;intro w|refine wx5 ?_;intro w v);clear hk hS a;intro hS a hk)|refine wx0 ?_|fail))
  exact done1 hk (h := ⟨rfl, hS.nil⟩)
end Go.Proofs.YtgklceoodpocaaaGreatDoor
namespace Go.Proofs.YtgklceoodpocaaaGreatDoor
open Go.RowKit
def RoP (R : Value → World → Prop) (S : List PanicEntry → World → Prop) (e : Ending) (w : World) : Prop := (∃ v, e = .returned v ∧ R v w) ∨ ∃ ch, e = .panicked ch ∧ S ch w
def DoneP (P : Program) (fn : Func) (R : Value → World → Prop) (S : List PanicEntry → World → Prop) : Exit → Act → World → Prop := bodyPost P fn (RoP R S)
section
variable {P : Program} {ops : Array Oper} {Q : Exit → Act → World → Prop} {a : Act} {w w' : World} {rest : List Oper} {n : Nat} {l : List (Nat × Value)} {df : List Deferred} {rr : Option Nat}
 {d : Nat} {dst : Option Nat} {ty : TypeId} {pos : String} {af : Array Edge} {g : Option (Nat × Bool)} {R R' : Value → World → Prop} {S S' : List PanicEntry → World → Prop} {fn : Func}
def GivesP (P : Program) (o : Oper) (a : Act) (w : World) (R : Value → World → Prop) (S : List PanicEntry → World → Prop) : Prop :=
 (∀ c, o.op ≠ .defer c) ∧ match (execOp a.eval o).run P w with
 | .ok (.value v) w' => R v w'
 | .ok .skip w' => R undef w'
 | .ok (.enter f args) w' => Calls P f args w' (RoP R S)
 | .halt (.panic v) w' => S [{ v, recovered := false }] w'
 | _ => False
def DoneD (P : Program) (fn : Func) (R : Value → World → Prop) : Exit → Act → World → Prop := bodyPostDIn Fence.wide 0 P fn (Ret R)
end
end Go.Proofs.YtgklceoodpocaaaGreatDoor
namespace Go.Proofs.YtgklceoodpocaaaGreatDoor
open Go.RowKit
section
variable {P : Program} {ops : Array Oper} {Q : Exit → Act → World → Prop} {a : Act} {w w' : World} {rest : List Oper} {n : Nat} {l : List (Nat × Value)} {df : List Deferred} {rr : Option Nat}
 {d : Nat} {dst : Option Nat} {ty : TypeId} {pos : String} {af : Array Edge} {g : Option (Nat × Bool)} {R R' : Value → World → Prop} {S S' : List PanicEntry → World → Prop} {fn : Func}
section
variable {c₀ : Frame} {cs : List Frame} {QS : Exit → Act → List Frame → World → Prop} {id d1 d2 : Nat} {ts : Array TypeId} {ty1 ty2 : TypeId} {p1 p2 : String} {f1 f2 : Array Edge}
def recOps (d1 d2 : Nat) (ts : Array TypeId) (ty1 ty2 : TypeId) (p1 p2 : String) (f1 f2 : Array Edge) : Array Oper :=
 #[⟨some d1, .call { callee := .builtin .recover, args := #[], argTypes := ts }, ty1, p1, f1, none⟩, ⟨some d2, .assign (.tmp d1), ty2, p2, f2, none⟩]
theorem wanted_none {o : Oper} (h : o.guard = none) (y : Nat → Option Bool) : Region.wanted o y = true := by simp [Region.wanted, h]
end
end
section
variable {P : Program} {Q : Exit → Act → World → Prop} {a : Act} {w w' : World} {n : Nat} {l : List (Nat × Value)} {df : List Deferred} {rr : Option Nat} {ops : Array Oper} {K : Act → World → Prop}
 {d : Nat} {dst : Option Nat} {ty : TypeId} {pos : String} {af : Array Edge} {g : Option (Nat × Bool)}
abbrev Any (rr : Option Nat) (P : Program) (ops : Array Oper) (Q : Exit → Act → World → Prop) (k : Nat) (listed : Array Bool) (a : Act) (w : World) : Prop := wpAnyIn (FR rr) 0 P .any ops Q k listed a w
theorem an_end {k : Nat} {listed : Array Bool} (hr : Region.ready .any ops listed = []) (h : Q .normal a w) : Any rr P ops Q k listed a w := by
 cases k with
 | zero => exact ⟨hr, h⟩
 | succ k => exact ⟨fun _ => h, fun i hi => by rw [hr] at hi;cases hi⟩
theorem an_step {k : Nat} {listed : Array Bool} {i : Nat} {rs : List Nat} (hr : Region.ready .any ops listed = i :: rs)
  (h : ∀ j ∈ i :: rs, wpOpIn (FR rr) 0 P ops Q j (Any rr P ops Q k (listed.setIfInBounds j true)) a w) : Any rr P ops Q (k + 1) listed a w :=
 ⟨fun e => (by rw [hr] at e;cases e), fun j hj => h j (by rw [← hr];exact hj)⟩
theorem an_op {o : Op} {i : Nat} (ho : ops[i]? = some ⟨some d, o, ty, pos, af, none⟩) (hk : Kn df n a l) (h : Gives P ⟨some d, o, ty, pos, af, none⟩ a w (fun v w' => ∀ a', Kn df n a' ((d, v) :: l) → K a' w')) (hd : Nat.blt d n = true := by rfl) :
  wpOpIn (FR rr) 0 P ops Q i K a w := by
 unfold wpOpIn
 simp only [ho]
 rw [if_pos (wanted_none rfl _)]
 exact h.wp (fun v w' hv => hv _ (hk.put (d := some d) hd v))
theorem an_opu {o : Op} {i : Nat} (ho : ops[i]? = some ⟨none, o, ty, pos, af, none⟩) (hk : Kn df n a l) (h : Gives P ⟨none, o, ty, pos, af, none⟩ a w (fun _ w' => ∀ a', Kn df n a' l → K a' w')) :
  wpOpIn (FR rr) 0 P ops Q i K a w := by
 unfold wpOpIn
 simp only [ho]
 rw [if_pos (wanted_none rfl _)]
 exact h.wp (fun v w' hv => hv _ hk)
end
end Go.Proofs.YtgklceoodpocaaaGreatDoor
namespace Go.Proofs.YtgklceoodpocaaaGreatDoor
open Go.RowKit
section
variable {P : Program} {Q : Exit → Act → World → Prop} {a : Act} {w w' : World} {n : Nat} {l : List (Nat × Value)} {df : List Deferred} {rr : Option Nat} {ops : Array Oper} {K : Act → World → Prop}
 {d : Nat} {dst : Option Nat} {ty : TypeId} {pos : String} {af : Array Edge} {g : Option (Nat × Bool)} {K1 : Act → World → Prop} {S1 : List PanicEntry → World → Prop}
def QX (df : List Deferred) (K1 : Act → World → Prop) (S1 : List PanicEntry → World → Prop) (e : Exit) (a : Act) (w : World) : Prop := (e = .normal ∧ K1 a w) ∨ ∃ ch, e = .panic ch ∧ a.defers = df ∧ S1 ch w
theorem QX.normal (h : K1 a w) : QX df K1 S1 .normal a w := .inl ⟨rfl, h⟩
theorem qx_put {o : Option Nat} {v : Value} {c : List PanicEntry} (h : QX df K1 S1 (.panic c) (a.put o v) w) : QX df K1 S1 (.panic c) a w := by
 rcases h with ⟨h, _⟩ | ⟨ch, h1, h2, h3⟩
 ·cases h
 ·refine .inr ⟨ch, h1, ?_, h3⟩
  rw [← h2];cases o <;> rfl
theorem an_region {id : Nat} (K1 : Act → World → Prop) (S1 : List PanicEntry → World → Prop) (hk : Kn df n a l) (hm : P.follows .mixedOrders = true) (hn : ∀ a w, K1 a w → Q .normal a w) (hp : ∀ ch a w, a.defers = df → S1 ch w → Q (.panic ch) a w)
  (h : Any rr P ops (QX df K1 S1) ops.size (Array.replicate ops.size false) a w.drew) : (Code.region id ops true).wpIn (FR rr) 0 P Q a w := by
 refine wpIn_mono (wpIn_region_any (Q := QX df K1 S1) hm h) (fun e a w hq => ?_)
 rcases hq with ⟨rfl, h⟩ | ⟨ch, rfl, h1, h2⟩
 ·exact hn _ _ h
 ·exact hp _ _ _ h1 h2
theorem an_take {o : Op} {k i : Nat} {v : Value} {listed : Array Bool} (ho : ops[i]? = some ⟨some d, o, ty, pos, af, none⟩) (hk : Kn df n a l) (hs : Region.noSelect ops = true) (hf : Region.free .any ops listed i = true) (hr : (Region.ready .any ops listed).contains i = true)
  (hp : ∀ w, (execOp a.eval ⟨some d, o, ty, pos, af, none⟩).run P w = .ok (.value v) w) (hab : ∀ w, (⟨some d, o, ty, pos, af, none⟩ : Oper).about P w a.eval = none) (hd : Nat.blt d n = true)
  (h : ∀ a', Kn df n a' ((d, v) :: l) → Any rr P ops (QX df K1 S1) k (listed.setIfInBounds i true) a' w) (hro : rr = none) : Any rr P ops (QX df K1 S1) (k + 1) listed a w := by
 subst hro
 exact wpAnyIn_take (F := FR none) rfl ho hs hf hr (fun c a w => qx_put) ⟨.inl ⟨wanted_none rfl _, hp⟩, hab⟩ (h _ (hk.put (d := some d) hd v))
theorem an_cut {k0 : Nat} {l0 : Array Bool} (J : Act → World → Prop) (k : Nat) (listed : Array Bool) (hJ : ∀ a w, J a w → Any rr P ops Q k listed a w) (h : (∀ a w, J a w → Any rr P ops Q k listed a w) → Any rr P ops Q k0 l0 a w) : Any rr P ops Q k0 l0 a w := h hJ
theorem y_move {x : Operand} {v : Value} (hk : Kn df n a l) (hx : ev l x = some v) : ∀ w, (execOp a.eval ⟨dst, .move x, ty, pos, af, g⟩).run P w = .ok (.value v) w := fun w => by rw [← hk.eval hx]; rfl
end
end Go.Proofs.YtgklceoodpocaaaGreatDoor
namespace Go.Proofs.YtgklceoodpocaaaGreatDoor
open Go.RowKit
section
variable {P : Program} {Q : Exit → Act → World → Prop} {a : Act} {w w' : World} {n : Nat} {l : List (Nat × Value)} {df : List Deferred} {rr : Option Nat} {ops : Array Oper} {K : Act → World → Prop}
 {d : Nat} {dst : Option Nat} {ty : TypeId} {pos : String} {af : Array Edge} {g : Option (Nat × Bool)}
theorem an_at {k : Nat} {listed l' : Array Bool} (h : Any rr P ops Q k l' a w) (e : listed = l') : Any rr P ops Q k listed a w := e ▸ h
theorem y_ext {x : Operand} {i : Nat} {vs : Array Value} {v : Value} (hk : Kn df n a l) (hx : ev l x = some (.tuple vs)) (hv : vs[i]? = some v) : ∀ w, (execOp a.eval ⟨dst, .extract x i, ty, pos, af, g⟩).run P w = .ok (.value v) w := fun w => by
 simp [execOp, hk.eval hx, Instr.extract, hv]
theorem y_ixT {α : Type} [Enc α] {x y : Operand} {t : TypeId} {i : Nat} {v : Value} {xs : List α} {E : Nat} {kk : IntKind} (hk : Kn df n a l) (hs : SlT xs v w') (hi : i < xs.length) (ht : elOf P t = some E) (hE : szOf P E = some (Enc.k α + 1))
  (hx : ev l x = some v) (hy : ev l y = some (.int kk (i : Int))) : ∀ w, (execOp a.eval ⟨dst, .indexAddr t x y, ty, pos, af, g⟩).run P w = .ok (.value (.pointer (some ⟨blk v, offs v + i * (Enc.k α + 1), none⟩))) w := fun w => by
 rcases hs.2.2 with ⟨h1, h2⟩ | ⟨ad, c, rfl, _, _, hcell⟩
 ·omega
 ·have hlt : i * (Enc.k α + 1) < (enc xs).length := by
   rw [hs.1]
   exact Nat.mul_lt_mul_of_pos_right hi (by omega)
  obtain ⟨hsp, _⟩ := hcell (i * (Enc.k α + 1)) _ (List.getElem?_eq_getElem hlt)
  obtain ⟨b, o, sp⟩ := ad
  simp only at hsp
  subst hsp
  have key : (execOp a.eval ⟨dst, .indexAddr t x y, ty, pos, af, g⟩).run P w = .ok (.value (.pointer (some ⟨b, o + i * (Enc.k α + 1), none⟩))) w := by
   simp [execOp, hk.eval hx, hk.eval hy, Instr.indexAt, run_underlying (elOf_und ht), asIntOf, hi, szOf_run hE, addr_add]
  exact key
end
end Go.Proofs.YtgklceoodpocaaaGreatDoor
namespace Go.Proofs.YtgklceoodpocaaaGreatDoor
open Go.RowKit
set_option maxRecDepth 100000
attribute [local irreducible] Go.Code.wpIn Go.wpListIn Go.Calls Gives Go.Exit.then Go.Exit.inBlock Done ObxE
mutual
theorem scnt_pre5 : ∀ (t : STree), scnt t = (preT t).length
 | .mk id k tag text cl al sl kids => by rw [scnt, preT, List.length_cons, scntL_pre5 kids]
theorem scntL_pre5 : ∀ (l : List STree), scntL l = (preL l).length
 | [] => rfl
 | t :: ts => by rw [scntL, preL, List.length_append, scnt_pre5 t, scntL_pre5 ts]
end
noncomputable def runD (acts : List Ac5) : DomP := acts.foldl doP (newP 20)
theorem runD_snoc {acts : List Ac5} {i : Nat} {x : Ac5} (h : acts[i]? = some x) : runD (acts.take (i + 1)) = doP (runD (acts.take i)) x := by
 unfold runD
 rw [take_snoc h, List.foldl_append];rfl
theorem runD_ok (acts : List Ac5) : ∀ i, i ≤ acts.length → WfD (runD (acts.take i)) ∧ Bnd i (runD (acts.take i)) ∧ TxD (runD (acts.take i))
 | 0, _ => ⟨newP_wf 20, newP_bnd 20 0, newP_tx 20⟩
 | i + 1, hi => by
  obtain ⟨h1, h2, h3⟩ := runD_ok acts i (by omega)
  obtain ⟨x, hx⟩ : ∃ x, acts[i]? = some x := ⟨_, List.getElem?_eq_getElem (by omega)⟩
  rw [runD_snoc hx]
  exact ⟨doP_wf h1 x, doP_bnd h2 x, doP_tx h2 h3 x⟩
abbrev zSnC : List Value := [.int .i64 0, .int .i64 0, .string ⟨#[]⟩, .string ⟨#[]⟩, .slice none 0 0, .slice none 0 0, .slice none 0 0, .slice none 0 0]
set_option maxHeartbeats 16000000 in
theorem stillreads_any (acts : List Ac5) (va : Value) (id : Int) (w0 : World) (ha : SlT acts va w0) (ht : TabW w0) :
  Calls Tryz.prog 3 #[va, .int .i64 id] w0 (Ret fun v w => v = .bool true ∧ St w0 [] w) := by
 have hlen := ha.2.1
 refine enter Tryz.func3 rfl Tryz.ntmps3 rfl (fun a hk => ?_);have hS := St.refl w0
 (repeat' (first|((first|refine wx1 ?_|refine wx2 ?_ ?_<;>intro hp|refine s_end hk ?_)<;>(clear hk a;intro a hk))|((first|refine wx3 ?_;intro w b|refine wx4 ?_;intro w|refine wx5 ?_;intro w v);clear hk hS a;intro hS a hk)|refine wx0 ?_|fail))
 refine sg hk (g_callO hk (hf := by kernel_rfl) (hc := awake09_any _ (ht.mono hS.below)) (h := ?_));clear hk a;rintro _ w ⟨rfl, hS1⟩ a hk;replace hS := hS.call0 hS1;clear hS1
 (repeat' (first|((first|refine wx1 ?_|refine wx2 ?_ ?_<;>intro hp|refine s_end hk ?_)<;>(clear hk a;intro a hk))|((first|refine wx3 ?_;intro w b|refine wx4 ?_;intro w|refine wx5 ?_;intro w v);clear hk hS a;intro hS a hk)|refine wx0 ?_|fail))
 refine sg hk (g_callO hk (hf := by kernel_rfl) (hc := new5_any 20 _) (h := ?_));clear hk a;rintro vr w ⟨bd, rfl, hS1⟩ a hk;replace hS := hS.call hS1;clear hS1
 rw [List.cons_append, List.nil_append] at hS
 refine sg hk (g_callO hk (hf := by kernel_rfl) (hc := rnew5_any 20 _) (h := ?_));clear hk a;rintro vr w hS1 a hk;replace hS := hS.call hS1;clear hS1
 rw [List.cons_append, List.nil_append] at hS
 obtain ⟨H, ao, c, rfl, hS1⟩ := hS.refO .here
 clear hS
 have hS := hS1
 clear hS1
 (repeat' (first|((first|refine wx1 ?_|refine wx2 ?_ ?_<;>intro hp|refine s_end hk ?_)<;>(clear hk a;intro a hk))|((first|refine wx3 ?_;intro w b|refine wx4 ?_;intro w|refine wx5 ?_;intro w v);clear hk hS a;intro hS a hk)|refine wx0 ?_|fail))
 refine sg hk (g_pnE hk ?_ (by kernel_rfl));clear hk a;intro a hk
 simp only [Option.isNone_some] at hk
 (repeat' (first|((first|refine wx1 ?_|refine wx2 ?_ ?_<;>intro hp|refine s_end hk ?_)<;>(clear hk a;intro a hk))|((first|refine wx3 ?_;intro w b|refine wx4 ?_;intro w|refine wx5 ?_;intro w v);clear hk hS a;intro hS a hk)|refine wx0 ?_|fail))
 rename Nat => b6
 replace hk := Kn.kp [0, 1, 5, 6, 7] hk
 refine wp_for (min acts.length 30) (fun i _ => [(7, .int .i64 (i : Int))]) (fun i (y : List RnH × Option Addr × Nat) => domH bd (runD (acts.take i)) :: rdH (Rd5R (runD (acts.take i)) y.1 y.2.1 y.2.2) :: pts b6 [.int .i64 (runD (acts.take i)).most, .int .i64 (runD (acts.take i)).next, .slice y.2.1 y.1.length y.2.2] 28 :: []) (fun _ _ => True) (H, ao, c) hk skx (hS.sub (.cons atx (.cons atx (.cons atx sbx)))) trivial ?_
 clear hk hS a
 rintro i ⟨H, ao, c⟩ a w hi hk hS -
 simp only at hS hk
 obtain ⟨hW, hb, hx⟩ := runD_ok acts i (by omega)
 have hv1 := hS.rdT ha
 by_cases hil : i < min acts.length 30
 ·obtain ⟨⟨k, x, y, z, nm, vl⟩, hxi⟩ : ∃ x, acts[i]? = some x := ⟨_, List.getElem?_eq_getElem (by omega)⟩
  have hst := runD_snoc hxi
  have hiL : i < acts.length := by omega
  generalize runD (acts.take i) = D at *
  generalize runD (acts.take (i + 1)) = D2 at *
  subst hst
  (repeat' (first|((first|refine wx1 ?_|refine wx2 ?_ ?_<;>intro hp|refine s_end hk ?_)<;>(clear hk a;intro a hk))|((first|refine wx3 ?_;intro w b|refine wx4 ?_;intro w|refine wx5 ?_;intro w v);clear hk hS a;intro hS a hk)|refine wx0 ?_|fail))
  refine an_region (fun a w => ∃ (y' : List RnH × Option Addr × Nat), Kn [] 105 a [(0, va), (1, .int .i64 id), (5, pA bd), (6, pA b6), (7, .int .i64 (i : Int))] ∧ St w0 (domH bd (doP D (k, x, y, z, nm, vl)) :: rdH (Rd5R (doP D (k, x, y, z, nm, vl)) y'.1 y'.2.1 y'.2.2) :: pts b6 [.int .i64 (doP D (k, x, y, z, nm, vl)).most, .int .i64 (doP D (k, x, y, z, nm, vl)).next, .slice y'.2.1 y'.1.length y'.2.2] 28 :: []) w)
   (fun _ _ => False) hk (by kernel_rfl) ?_ ?_ ?_
  ·intro a w hK
   (repeat (first | refine q_then ?_ | refine q_inN ?_))
   obtain ⟨y', hk, hS⟩ := hK
   (repeat' (first|((first|refine wx1 ?_|refine wx2 ?_ ?_<;>intro hp|refine s_end hk ?_)<;>(clear hk a;intro a hk))|((first|refine wx3 ?_;intro w b|refine wx4 ?_;intro w|refine wx5 ?_;intro w v);clear hk hS a;intro hS a hk)|refine wx0 ?_|fail))
   exact ⟨hil, y', hk.sd, hS, trivial⟩
  ·intro ch a w _ h;exact h.elim
  ·replace hS := hS.drew
   generalize w.drew = w at hS
   refine an_take (i := 0) (k := 10) rfl hk (by kernel_rfl) (by kernel_rfl) (by kernel_rfl) (y_move hk rfl) (fun _ => rfl) rfl (fun a hk => ?_) rfl
   refine an_take (i := 2) (k := 9) rfl hk (by kernel_rfl) (by kernel_rfl) (by kernel_rfl) (y_move hk rfl) (fun _ => rfl) rfl (fun a hk => ?_) rfl
   refine an_take (i := 3) (k := 8) rfl hk (by kernel_rfl) (by kernel_rfl) (by kernel_rfl) (y_move hk rfl) (fun _ => rfl) rfl (fun a hk => ?_) rfl
   refine an_take (i := 4) (k := 7) rfl hk (by kernel_rfl) (by kernel_rfl) (by kernel_rfl) (y_ixT (i := i) hk hv1 hiL (eT rfl) (zT rfl) rfl rfl) (fun _ => rfl) rfl (fun a hk => ?_) rfl
   clear hv1
   refine an_cut (fun a w => Kn [] 105 a [(0, va), (1, .int .i64 id), (5, pA bd), (6, pA b6), (7, .int .i64 (i : Int)), (33, pA bd), (34, rdV D H.length ao c), (38, acV k x y z nm vl)] ∧ St w0 (domH bd D :: rdH (Rd5R D H ao c) :: pts b6 [.int .i64 D.most, .int .i64 D.next, .slice ao H.length c] 28 :: []) w) 5 #[true, true, true, true, true, true, false, false, false, false, false] (fun a w hJ => ?_) (fun hA => ?_)
   ·clear hk hS
    obtain ⟨hk, hS⟩ := hJ
    have hS1 := (refO.of (hS.sub (L' := rdH (Rd5R D H ao c) :: domH bd D :: pts b6 [.int .i64 D.most, .int .i64 D.next, .slice ao H.length c] 28 :: []) (.cons atx (.cons atx (.cons atx sbx))))).perm (.swap _ _ _)
    clear hS
    refine an_step (i := 6) (rs := []) (by kernel_rfl) ?_
    intro jx hjx
    simp only [List.mem_cons, List.not_mem_nil, or_false] at hjx
    subst hjx
    refine an_op (i := 6) rfl hk (g_callO hk (hf := by kernel_rfl) (hc := do5_any (rdV D H.length ao c) k x y z nm vl hW hb (by omega) hS1) (h := ?_)) rfl
    clear hk a
    rintro _ w ⟨r, b, rfl, hS⟩ a hk
    obtain ⟨H', ao', c', rfl, hS2⟩ := hS.refO (.there .here)
    clear hS
    refine an_take (i := 7) (k := 3) rfl hk (by kernel_rfl) (by kernel_rfl) (by kernel_rfl) (y_move hk rfl) (fun _ => rfl) rfl (fun a hk => ?_) rfl
    refine an_take (i := 8) (k := 2) rfl hk (by kernel_rfl) (by kernel_rfl) (by kernel_rfl) (y_ext hk rfl rfl) (fun _ => rfl) rfl (fun a hk => ?_) rfl
    refine an_take (i := 9) (k := 1) rfl hk (by kernel_rfl) (by kernel_rfl) (by kernel_rfl) (y_ext hk rfl rfl) (fun _ => rfl) rfl (fun a hk => ?_) rfl
    refine an_step (i := 10) (rs := []) (by kernel_rfl) ?_
    intro jx hjx
    simp only [List.mem_cons, List.not_mem_nil, or_false] at hjx
    subst hjx
    refine an_opu (i := 10) rfl hk (g_store hk hS2 (fun w hS a hk => ?_) (hsz := zT rfl))
    exact an_end (by kernel_rfl) (QX.normal ⟨(H', ao', c'), hk.sub skx, hS.sub (.cons atx (.cons atx (.cons atx sbx)))⟩)
   refine an_step (i := 1) (rs := [5]) (by kernel_rfl) ?_
   intro jx hjx
   simp only [List.mem_cons, List.not_mem_nil, or_false] at hjx
   rcases hjx with rfl | rfl
   ·refine an_op (i := 1) rfl hk (g_ownN hk hS (fun a hk => ?_) (aT rfl) (zT rfl)) rfl
    refine an_step (i := 5) (rs := []) (by kernel_rfl) ?_
    intro jx hjx
    simp only [List.mem_cons, List.not_mem_nil, or_false] at hjx
    subst hjx
    refine an_op (i := 5) rfl hk (g_ldTN (i := i) (e := (k, x, y, z, nm, vl)) hk (fun a hk => ?_) (aT rfl) rfl (hS.rdT ha) hxi rfl (zT rfl)) rfl
    exact an_at (hA a w ⟨hk.sub skx, hS⟩) (by kernel_rfl)
   ·refine an_op (i := 5) rfl hk (g_ldTN (i := i) (e := (k, x, y, z, nm, vl)) hk (fun a hk => ?_) (aT rfl) rfl (hS.rdT ha) hxi rfl (zT rfl)) rfl
    refine an_step (i := 1) (rs := []) (by kernel_rfl) ?_
    intro jx hjx
    simp only [List.mem_cons, List.not_mem_nil, or_false] at hjx
    subst hjx
    refine an_op (i := 1) rfl hk (g_ownN hk hS (fun a hk => ?_) (aT rfl) (zT rfl)) rfl
    exact an_at (hA a w ⟨hk.sub skx, hS⟩) (by kernel_rfl)
 ·have hii : i = min acts.length 30 := by omega
  generalize runD (acts.take i) = D at *
  have hb40 : Bnd 40 D := hb.up (by omega)
  have hb100 : Bnd 100 D := hb.up (by omega)
  have hHl := (hS.rdr (D := D) (H := H) (ao := ao) (c := c) atx).2.len
  have hlD := hb.len
  obtain ⟨n0, hn0, -, -⟩ := hW.wf.root
  have hm0 := trN_ssm hW hb40 hx 0
  have hc0 : scnt (trN D.f 0) ≤ 31 := by rw [trN_cnt hW hn0];have := pre_len hW 0;omega
  have hp0 := scnt_pre5 (trN D.f 0)
  obtain ⟨bm, bl, hDR⟩ := domH.get (hS.rd (A := domH bd D) atx)
  rcases (show i = acts.length ∨ (i = 30 ∧ i < acts.length) by omega) with hie | ⟨hie, hie2⟩
  ·(repeat' (first|((first|refine wx1 ?_|refine wx2 ?_ ?_<;>intro hp|refine s_end hk ?_)<;>(clear hk a;intro a hk))|((first|refine wx3 ?_;intro w b|refine wx4 ?_;intro w|refine wx5 ?_;intro w v);clear hk hS a;intro hS a hk)|refine wx0 ?_|fail))
   cases hn : D.f id with
   | none =>
    refine sg hk (g_callO hk (hf := by kernel_rfl) (hc := read5_none (bd := bd) (bm := bm) (bl := bl) (D := D) _ hDR hn) (h := ?_));clear hk a;rintro _ w ⟨rfl, hS1⟩ a hk;replace hS := hS.call0 hS1;clear hS1
    clear hDR
    (repeat' (first|((first|refine wx1 ?_|refine wx2 ?_ ?_<;>intro hp|refine s_end hk ?_)<;>(clear hk a;intro a hk))|((first|refine wx3 ?_;intro w b|refine wx4 ?_;intro w|refine wx5 ?_;intro w v);clear hk hS a;intro hS a hk)|refine wx0 ?_|fail))
    refine sg hk (g_callO hk (hf := by kernel_rfl) (hc := rread5_none _ (by omega) (hS.rdr (D := D) (H := H) (ao := ao) (c := c) atx) hn) (h := ?_));clear hk a;rintro _ w ⟨rfl, hS1⟩ a hk;replace hS := hS.call0 hS1;clear hS1
    (repeat' (first|((first|refine wx1 ?_|refine wx2 ?_ ?_<;>intro hp|refine s_end hk ?_)<;>(clear hk a;intro a hk))|((first|refine wx3 ?_;intro w b|refine wx4 ?_;intro w|refine wx5 ?_;intro w v);clear hk hS a;intro hS a hk)|refine wx0 ?_|fail))
    obtain ⟨bm2, bl2, hDR2⟩ := domH.get (hS.rd (A := domH bd D) atx)
    refine sg hk (g_callO hk (hf := by kernel_rfl) (hc := read5_any hW hb100 (by omega) 0 n0 _ hn0 hDR2) (h := ?_));clear hk a;rintro vr w ⟨⟨id3, k3, tag3, text3, ⟨x13, x23, x33⟩, ⟨y13, y23, y33⟩, ⟨z13, z23, z33⟩, ⟨u13, u23, u33⟩⟩, rfl, hS1⟩ a hk;replace hS := hS.call hS1;clear hS1
    rw [List.cons_append, List.nil_append] at hS
    clear hDR2
    (repeat' (first|((first|refine wx1 ?_|refine wx2 ?_ ?_<;>intro hp|refine s_end hk ?_)<;>(clear hk a;intro a hk))|((first|refine wx3 ?_;intro w b|refine wx4 ?_;intro w|refine wx5 ?_;intro w v);clear hk hS a;intro hS a hk)|refine wx0 ?_|fail))
    refine sg hk (g_callO hk (hf := by kernel_rfl) (hc := rread5_any hW hb100 (by omega) 0 n0 hn0 (Rd5R D H ao c) _ _ _ (Rd5R.stays _ _ _ _) (fun g h => h) (hS.sub (.cons atx sbx))) (h := ?_));clear hk hS a;rintro _ w ⟨⟨id4, k4, tag4, text4, ⟨x14, x24, x34⟩, ⟨y14, y24, y34⟩, ⟨z14, z24, z34⟩, ⟨u14, u24, u34⟩⟩, rfl, hS⟩ a hk
    (repeat' (first|((first|refine wx1 ?_|refine wx2 ?_ ?_<;>intro hp|refine s_end hk ?_)<;>(clear hk a;intro a hk))|((first|refine wx3 ?_;intro w b|refine wx4 ?_;intro w|refine wx5 ?_;intro w v);clear hk hS a;intro hS a hk)|refine wx0 ?_|fail))
    obtain ⟨g1, hxg1, hrg1, hS1⟩ := hS.freeze (A := rdH (fun g => (Rd5R D H ao c) g ∧ SrR g (trN D.f 0) (id4, k4, tag4, text4, ⟨x14, x24, x34⟩, ⟨y14, y24, y34⟩, ⟨z14, z24, z34⟩, ⟨u14, u24, u34⟩))) atx
    clear hS
    have hS := hS1
    clear hS1
    have hK1 := rdH.rd (stays_and (Rd5R.stays _ _ _ _) (SrR.stays _ _)) hrg1
    obtain ⟨g2, hxg2, hrg2, hS1⟩ := hS.freeze (A := streeR (trN D.f 0) (id3, k3, tag3, text3, ⟨x13, x23, x33⟩, ⟨y13, y23, y33⟩, ⟨z13, z23, z33⟩, ⟨u13, u23, u33⟩)) atx
    clear hS
    have hS := hS1
    clear hS1
    have hxg2 : Frz g1 g2 := hxg2.1
    have hQ0 : SrR g2 (trN D.f 0) (id4, k4, tag4, text4, ⟨x14, x24, x34⟩, ⟨y14, y24, y34⟩, ⟨z14, z24, z34⟩, ⟨u14, u24, u34⟩) := hK1.2.frz hxg2
    have hP0 : SrR g2 (trN D.f 0) (id3, k3, tag3, text3, ⟨x13, x23, x33⟩, ⟨y13, y23, y33⟩, ⟨z13, z23, z33⟩, ⟨u13, u23, u33⟩) := rdH.rd (SrR.stays _ _) hrg2
    replace hS : St ⟨g2, w0⟩ _ w := hS
    have his0 := fun w0 h1 h2 => is9_any (trN D.f 0) (trN D.f 0) (id3, k3, tag3, text3, ⟨x13, x23, x33⟩, ⟨y13, y23, y33⟩, ⟨z13, z23, z33⟩, ⟨u13, u23, u33⟩) (id4, k4, tag4, text4, ⟨x14, x24, x34⟩, ⟨y14, y24, y34⟩, ⟨z14, z24, z34⟩, ⟨u14, u24, u34⟩) w0 (trN_fits hW hb100 0) (trN_fits hW hb100 0) (by omega) (by omega) h1 h2
    rw [eqS_self, decide_eq_true rfl] at his0
    refine wp_drawn 34 mixed (by kernel_rfl) hk hS ?_;clear hk hS a
    (repeat' (first|(show ObxE _ _ _ _ _ _ _ _ _ (_::_) _ _ _;first|refine ox1 ?_|refine ox2 ?_ ?_<;>intro hp)|fail))
    refine' obe_val (fun us a w hk hd hS => ?_) ?_;rotate_left;focus (have hk := Kn.vw hk vwx;exact g_callO hk (hf := by kernel_rfl) (hc := his0 _ (hS.rdSr hP0) (hS.rdSr hQ0)) (h := fun _ _ h => h))
    (repeat' (first|(show ObxE _ _ _ _ _ _ _ _ _ (_::_) _ _ _;first|refine ox1 ?_|refine ox2 ?_ ?_<;>intro hp)|fail))
    refine' obe_val (fun us a w hk hd hS => ?_) ?_;rotate_left;focus (have hk := Kn.vw hk vwx;exact g_callO hk (hf := by kernel_rfl) (hc := show_any true (SizeOf.sizeOf (trN D.f 0) + 1) (trN D.f 0) (id3, k3, tag3, text3, ⟨x13, x23, x33⟩, ⟨y13, y23, y33⟩, ⟨z13, z23, z33⟩, ⟨u13, u23, u33⟩) _ (by omega) hm0 (by omega) (hS.rdSr hP0) (ht.mono hS.below)) (h := fun _ _ h => h))
    (repeat' (first|(show ObxE _ _ _ _ _ _ _ _ _ (_::_) _ _ _;first|refine ox1 ?_|refine ox2 ?_ ?_<;>intro hp)|fail))
    refine' obe_val (fun us a w hk hd hS => ?_) ?_;rotate_left;focus (have hk := Kn.vw hk vwx;exact g_callO hk (hf := by kernel_rfl) (hc := rshow9_any true (SizeOf.sizeOf (trN D.f 0) + 1) (trN D.f 0) (id4, k4, tag4, text4, ⟨x14, x24, x34⟩, ⟨y14, y24, y34⟩, ⟨z14, z24, z34⟩, ⟨u14, u24, u34⟩) _ (by omega) hm0 (by omega) (hS.rdSr hQ0) (ht.mono hS.below)) (h := fun _ _ h => h))
    (repeat' (first|(show ObxE _ _ _ _ _ _ _ _ _ (_::_) _ _ _;first|refine ox1 ?_|refine ox2 ?_ ?_<;>intro hp)|fail))
    all_goals first | exact absurd rfl (by assumption) | skip
    refine obe_nil ⟨rfl, ?_⟩;intro us a w hk hS
    (repeat' (first|((first|refine wx1 ?_|refine wx2 ?_ ?_<;>intro hp|refine s_end hk ?_)<;>(clear hk a;intro a hk))|((first|refine wx3 ?_;intro w b|refine wx4 ?_;intro w|refine wx5 ?_;intro w v);clear hk hS a;intro hS a hk)|refine wx0 ?_|fail))
    exact done1 hk (h := ⟨rfl, hS.flat⟩)
   | some n =>
    have hc1 : scnt (trN D.f id) ≤ 31 := by rw [trN_cnt hW hn];have := pre_len hW id;omega
    have hp1 := scnt_pre5 (trN D.f id)
    refine sg hk (g_callO hk (hf := by kernel_rfl) (hc := read5_any hW hb100 (by omega) id n _ hn hDR) (h := ?_));clear hk a;rintro vr w ⟨⟨id1, k1, tag1, text1, ⟨x11, x21, x31⟩, ⟨y11, y21, y31⟩, ⟨z11, z21, z31⟩, ⟨u11, u21, u31⟩⟩, rfl, hS1⟩ a hk;replace hS := hS.call hS1;clear hS1
    rw [List.cons_append, List.nil_append] at hS
    clear hDR
    (repeat' (first|((first|refine wx1 ?_|refine wx2 ?_ ?_<;>intro hp|refine s_end hk ?_)<;>(clear hk a;intro a hk))|((first|refine wx3 ?_;intro w b|refine wx4 ?_;intro w|refine wx5 ?_;intro w v);clear hk hS a;intro hS a hk)|refine wx0 ?_|fail))
    refine sg hk (g_callO hk (hf := by kernel_rfl) (hc := rread5_any hW hb100 (by omega) id n hn (Rd5R D H ao c) _ _ _ (Rd5R.stays _ _ _ _) (fun g h => h) (hS.sub (.cons atx sbx))) (h := ?_));clear hk hS a;rintro _ w ⟨⟨id2, k2, tag2, text2, ⟨x12, x22, x32⟩, ⟨y12, y22, y32⟩, ⟨z12, z22, z32⟩, ⟨u12, u22, u32⟩⟩, rfl, hS⟩ a hk
    (repeat' (first|((first|refine wx1 ?_|refine wx2 ?_ ?_<;>intro hp|refine s_end hk ?_)<;>(clear hk a;intro a hk))|((first|refine wx3 ?_;intro w b|refine wx4 ?_;intro w|refine wx5 ?_;intro w v);clear hk hS a;intro hS a hk)|refine wx0 ?_|fail))
    obtain ⟨bm2, bl2, hDR2⟩ := domH.get (hS.rd (A := domH bd D) atx)
    refine sg hk (g_callO hk (hf := by kernel_rfl) (hc := read5_any hW hb100 (by omega) 0 n0 _ hn0 hDR2) (h := ?_));clear hk a;rintro vr w ⟨⟨id3, k3, tag3, text3, ⟨x13, x23, x33⟩, ⟨y13, y23, y33⟩, ⟨z13, z23, z33⟩, ⟨u13, u23, u33⟩⟩, rfl, hS1⟩ a hk;replace hS := hS.call hS1;clear hS1
    rw [List.cons_append, List.nil_append] at hS
    clear hDR2
    (repeat' (first|((first|refine wx1 ?_|refine wx2 ?_ ?_<;>intro hp|refine s_end hk ?_)<;>(clear hk a;intro a hk))|((first|refine wx3 ?_;intro w b|refine wx4 ?_;intro w|refine wx5 ?_;intro w v);clear hk hS a;intro hS a hk)|refine wx0 ?_|fail))
    refine sg hk (g_callO hk (hf := by kernel_rfl) (hc := rread5_any hW hb100 (by omega) 0 n0 hn0 (fun g => Rd5R D H ao c g ∧ SrR g (trN D.f id) (id2, k2, tag2, text2, ⟨x12, x22, x32⟩, ⟨y12, y22, y32⟩, ⟨z12, z22, z32⟩, ⟨u12, u22, u32⟩)) _ _ _ (stays_and (Rd5R.stays _ _ _ _) (SrR.stays _ _)) (fun g h => h.1) (hS.sub (.cons atx sbx))) (h := ?_));clear hk hS a;rintro _ w ⟨⟨id4, k4, tag4, text4, ⟨x14, x24, x34⟩, ⟨y14, y24, y34⟩, ⟨z14, z24, z34⟩, ⟨u14, u24, u34⟩⟩, rfl, hS⟩ a hk
    (repeat' (first|((first|refine wx1 ?_|refine wx2 ?_ ?_<;>intro hp|refine s_end hk ?_)<;>(clear hk a;intro a hk))|((first|refine wx3 ?_;intro w b|refine wx4 ?_;intro w|refine wx5 ?_;intro w v);clear hk hS a;intro hS a hk)|refine wx0 ?_|fail))
    obtain ⟨g1, hxg1, hrg1, hS1⟩ := hS.freeze (A := rdH (fun g => (fun g => Rd5R D H ao c g ∧ SrR g (trN D.f id) (id2, k2, tag2, text2, ⟨x12, x22, x32⟩, ⟨y12, y22, y32⟩, ⟨z12, z22, z32⟩, ⟨u12, u22, u32⟩)) g ∧ SrR g (trN D.f 0) (id4, k4, tag4, text4, ⟨x14, x24, x34⟩, ⟨y14, y24, y34⟩, ⟨z14, z24, z34⟩, ⟨u14, u24, u34⟩))) atx
    clear hS
    have hS := hS1
    clear hS1
    have hK1 := rdH.rd (stays_and (stays_and (Rd5R.stays _ _ _ _) (SrR.stays _ _)) (SrR.stays _ _)) hrg1
    obtain ⟨g2, hxg2, hrg2, hS1⟩ := hS.freeze (A := streeR (trN D.f 0) (id3, k3, tag3, text3, ⟨x13, x23, x33⟩, ⟨y13, y23, y33⟩, ⟨z13, z23, z33⟩, ⟨u13, u23, u33⟩)) atx
    clear hS
    have hS := hS1
    clear hS1
    have hxg2 : Frz g1 g2 := hxg2.1
    have hQ0 : SrR g2 (trN D.f 0) (id4, k4, tag4, text4, ⟨x14, x24, x34⟩, ⟨y14, y24, y34⟩, ⟨z14, z24, z34⟩, ⟨u14, u24, u34⟩) := hK1.2.frz hxg2
    have hP0 : SrR g2 (trN D.f 0) (id3, k3, tag3, text3, ⟨x13, x23, x33⟩, ⟨y13, y23, y33⟩, ⟨z13, z23, z33⟩, ⟨u13, u23, u33⟩) := rdH.rd (SrR.stays _ _) hrg2
    have hQ1 : SrR g2 (trN D.f id) (id2, k2, tag2, text2, ⟨x12, x22, x32⟩, ⟨y12, y22, y32⟩, ⟨z12, z22, z32⟩, ⟨u12, u22, u32⟩) := hK1.1.2.frz hxg2
    obtain ⟨g3, hxg3, hrg3, hS1⟩ := hS.freeze (A := streeR (trN D.f id) (id1, k1, tag1, text1, ⟨x11, x21, x31⟩, ⟨y11, y21, y31⟩, ⟨z11, z21, z31⟩, ⟨u11, u21, u31⟩)) atx
    clear hS
    have hS := hS1
    clear hS1
    have hxg3 : Frz g2 g3 := hxg3.1
    have hP1 : SrR g3 (trN D.f id) (id1, k1, tag1, text1, ⟨x11, x21, x31⟩, ⟨y11, y21, y31⟩, ⟨z11, z21, z31⟩, ⟨u11, u21, u31⟩) := rdH.rd (SrR.stays _ _) hrg3
    replace hQ0 := hQ0.frz hxg3
    replace hP0 := hP0.frz hxg3
    replace hQ1 := hQ1.frz hxg3
    replace hS : St ⟨g3, w0⟩ _ w := hS
    have his1 := fun w0 h1 h2 => is9_any (trN D.f id) (trN D.f id) (id1, k1, tag1, text1, ⟨x11, x21, x31⟩, ⟨y11, y21, y31⟩, ⟨z11, z21, z31⟩, ⟨u11, u21, u31⟩) (id2, k2, tag2, text2, ⟨x12, x22, x32⟩, ⟨y12, y22, y32⟩, ⟨z12, z22, z32⟩, ⟨u12, u22, u32⟩) w0 (trN_fits hW hb100 id) (trN_fits hW hb100 id) (by omega) (by omega) h1 h2
    rw [eqS_self, decide_eq_true rfl] at his1
    have his0 := fun w0 h1 h2 => is9_any (trN D.f 0) (trN D.f 0) (id3, k3, tag3, text3, ⟨x13, x23, x33⟩, ⟨y13, y23, y33⟩, ⟨z13, z23, z33⟩, ⟨u13, u23, u33⟩) (id4, k4, tag4, text4, ⟨x14, x24, x34⟩, ⟨y14, y24, y34⟩, ⟨z14, z24, z34⟩, ⟨u14, u24, u34⟩) w0 (trN_fits hW hb100 0) (trN_fits hW hb100 0) (by omega) (by omega) h1 h2
    rw [eqS_self, decide_eq_true rfl] at his0
    refine wp_drawn 34 mixed (by kernel_rfl) hk hS ?_;clear hk hS a
    (repeat' (first|(show ObxE _ _ _ _ _ _ _ _ _ (_::_) _ _ _;first|refine ox1 ?_|refine ox2 ?_ ?_<;>intro hp)|fail))
    refine' obe_val (fun us a w hk hd hS => ?_) ?_;rotate_left;focus (have hk := Kn.vw hk vwx;exact g_callO hk (hf := by kernel_rfl) (hc := his0 _ (hS.rdSr hP0) (hS.rdSr hQ0)) (h := fun _ _ h => h))
    (repeat' (first|(show ObxE _ _ _ _ _ _ _ _ _ (_::_) _ _ _;first|refine ox1 ?_|refine ox2 ?_ ?_<;>intro hp)|fail))
    refine' obe_val (fun us a w hk hd hS => ?_) ?_;rotate_left;focus (have hk := Kn.vw hk vwx;exact g_callO hk (hf := by kernel_rfl) (hc := show_any true (SizeOf.sizeOf (trN D.f 0) + 1) (trN D.f 0) (id3, k3, tag3, text3, ⟨x13, x23, x33⟩, ⟨y13, y23, y33⟩, ⟨z13, z23, z33⟩, ⟨u13, u23, u33⟩) _ (by omega) hm0 (by omega) (hS.rdSr hP0) (ht.mono hS.below)) (h := fun _ _ h => h))
    (repeat' (first|(show ObxE _ _ _ _ _ _ _ _ _ (_::_) _ _ _;first|refine ox1 ?_|refine ox2 ?_ ?_<;>intro hp)|fail))
    refine' obe_val (fun us a w hk hd hS => ?_) ?_;rotate_left;focus (have hk := Kn.vw hk vwx;exact g_callO hk (hf := by kernel_rfl) (hc := rshow9_any true (SizeOf.sizeOf (trN D.f 0) + 1) (trN D.f 0) (id4, k4, tag4, text4, ⟨x14, x24, x34⟩, ⟨y14, y24, y34⟩, ⟨z14, z24, z34⟩, ⟨u14, u24, u34⟩) _ (by omega) hm0 (by omega) (hS.rdSr hQ0) (ht.mono hS.below)) (h := fun _ _ h => h))
    (repeat' (first|(show ObxE _ _ _ _ _ _ _ _ _ (_::_) _ _ _;first|refine ox1 ?_|refine ox2 ?_ ?_<;>intro hp)|fail))
    all_goals first | exact absurd rfl (by assumption) | skip
    refine obe_nil ⟨rfl, ?_⟩;intro us a w hk hS
    (repeat' (first|((first|refine wx1 ?_|refine wx2 ?_ ?_<;>intro hp|refine s_end hk ?_)<;>(clear hk a;intro a hk))|((first|refine wx3 ?_;intro w b|refine wx4 ?_;intro w|refine wx5 ?_;intro w v);clear hk hS a;intro hS a hk)|refine wx0 ?_|fail))
    refine sg hk (g_callO hk (hf := by kernel_rfl) (hc := his1 _ (hS.rdSr hP1) (hS.rdSr hQ1)) (h := ?_));clear hk a;rintro _ w ⟨rfl, hS1⟩ a hk;replace hS := hS.call0 hS1;clear hS1
    (repeat' (first|((first|refine wx1 ?_|refine wx2 ?_ ?_<;>intro hp|refine s_end hk ?_)<;>(clear hk a;intro a hk))|((first|refine wx3 ?_;intro w b|refine wx4 ?_;intro w|refine wx5 ?_;intro w v);clear hk hS a;intro hS a hk)|refine wx0 ?_|fail))
    exact done1 hk (h := ⟨rfl, hS.flat⟩)
  ·(repeat' (first|((first|refine wx1 ?_|refine wx2 ?_ ?_<;>intro hp|refine s_end hk ?_)<;>(clear hk a;intro a hk))|((first|refine wx3 ?_;intro w b|refine wx4 ?_;intro w|refine wx5 ?_;intro w v);clear hk hS a;intro hS a hk)|refine wx0 ?_|fail))
   cases hn : D.f id with
   | none =>
    refine sg hk (g_callO hk (hf := by kernel_rfl) (hc := read5_none (bd := bd) (bm := bm) (bl := bl) (D := D) _ hDR hn) (h := ?_));clear hk a;rintro _ w ⟨rfl, hS1⟩ a hk;replace hS := hS.call0 hS1;clear hS1
    clear hDR
    (repeat' (first|((first|refine wx1 ?_|refine wx2 ?_ ?_<;>intro hp|refine s_end hk ?_)<;>(clear hk a;intro a hk))|((first|refine wx3 ?_;intro w b|refine wx4 ?_;intro w|refine wx5 ?_;intro w v);clear hk hS a;intro hS a hk)|refine wx0 ?_|fail))
    refine sg hk (g_callO hk (hf := by kernel_rfl) (hc := rread5_none _ (by omega) (hS.rdr (D := D) (H := H) (ao := ao) (c := c) atx) hn) (h := ?_));clear hk a;rintro _ w ⟨rfl, hS1⟩ a hk;replace hS := hS.call0 hS1;clear hS1
    (repeat' (first|((first|refine wx1 ?_|refine wx2 ?_ ?_<;>intro hp|refine s_end hk ?_)<;>(clear hk a;intro a hk))|((first|refine wx3 ?_;intro w b|refine wx4 ?_;intro w|refine wx5 ?_;intro w v);clear hk hS a;intro hS a hk)|refine wx0 ?_|fail))
    obtain ⟨bm2, bl2, hDR2⟩ := domH.get (hS.rd (A := domH bd D) atx)
    refine sg hk (g_callO hk (hf := by kernel_rfl) (hc := read5_any hW hb100 (by omega) 0 n0 _ hn0 hDR2) (h := ?_));clear hk a;rintro vr w ⟨⟨id3, k3, tag3, text3, ⟨x13, x23, x33⟩, ⟨y13, y23, y33⟩, ⟨z13, z23, z33⟩, ⟨u13, u23, u33⟩⟩, rfl, hS1⟩ a hk;replace hS := hS.call hS1;clear hS1
    rw [List.cons_append, List.nil_append] at hS
    clear hDR2
    (repeat' (first|((first|refine wx1 ?_|refine wx2 ?_ ?_<;>intro hp|refine s_end hk ?_)<;>(clear hk a;intro a hk))|((first|refine wx3 ?_;intro w b|refine wx4 ?_;intro w|refine wx5 ?_;intro w v);clear hk hS a;intro hS a hk)|refine wx0 ?_|fail))
    refine sg hk (g_callO hk (hf := by kernel_rfl) (hc := rread5_any hW hb100 (by omega) 0 n0 hn0 (Rd5R D H ao c) _ _ _ (Rd5R.stays _ _ _ _) (fun g h => h) (hS.sub (.cons atx sbx))) (h := ?_));clear hk hS a;rintro _ w ⟨⟨id4, k4, tag4, text4, ⟨x14, x24, x34⟩, ⟨y14, y24, y34⟩, ⟨z14, z24, z34⟩, ⟨u14, u24, u34⟩⟩, rfl, hS⟩ a hk
    (repeat' (first|((first|refine wx1 ?_|refine wx2 ?_ ?_<;>intro hp|refine s_end hk ?_)<;>(clear hk a;intro a hk))|((first|refine wx3 ?_;intro w b|refine wx4 ?_;intro w|refine wx5 ?_;intro w v);clear hk hS a;intro hS a hk)|refine wx0 ?_|fail))
    obtain ⟨g1, hxg1, hrg1, hS1⟩ := hS.freeze (A := rdH (fun g => (Rd5R D H ao c) g ∧ SrR g (trN D.f 0) (id4, k4, tag4, text4, ⟨x14, x24, x34⟩, ⟨y14, y24, y34⟩, ⟨z14, z24, z34⟩, ⟨u14, u24, u34⟩))) atx
    clear hS
    have hS := hS1
    clear hS1
    have hK1 := rdH.rd (stays_and (Rd5R.stays _ _ _ _) (SrR.stays _ _)) hrg1
    obtain ⟨g2, hxg2, hrg2, hS1⟩ := hS.freeze (A := streeR (trN D.f 0) (id3, k3, tag3, text3, ⟨x13, x23, x33⟩, ⟨y13, y23, y33⟩, ⟨z13, z23, z33⟩, ⟨u13, u23, u33⟩)) atx
    clear hS
    have hS := hS1
    clear hS1
    have hxg2 : Frz g1 g2 := hxg2.1
    have hQ0 : SrR g2 (trN D.f 0) (id4, k4, tag4, text4, ⟨x14, x24, x34⟩, ⟨y14, y24, y34⟩, ⟨z14, z24, z34⟩, ⟨u14, u24, u34⟩) := hK1.2.frz hxg2
    have hP0 : SrR g2 (trN D.f 0) (id3, k3, tag3, text3, ⟨x13, x23, x33⟩, ⟨y13, y23, y33⟩, ⟨z13, z23, z33⟩, ⟨u13, u23, u33⟩) := rdH.rd (SrR.stays _ _) hrg2
    replace hS : St ⟨g2, w0⟩ _ w := hS
    have his0 := fun w0 h1 h2 => is9_any (trN D.f 0) (trN D.f 0) (id3, k3, tag3, text3, ⟨x13, x23, x33⟩, ⟨y13, y23, y33⟩, ⟨z13, z23, z33⟩, ⟨u13, u23, u33⟩) (id4, k4, tag4, text4, ⟨x14, x24, x34⟩, ⟨y14, y24, y34⟩, ⟨z14, z24, z34⟩, ⟨u14, u24, u34⟩) w0 (trN_fits hW hb100 0) (trN_fits hW hb100 0) (by omega) (by omega) h1 h2
    rw [eqS_self, decide_eq_true rfl] at his0
    refine wp_drawn 34 mixed (by kernel_rfl) hk hS ?_;clear hk hS a
    (repeat' (first|(show ObxE _ _ _ _ _ _ _ _ _ (_::_) _ _ _;first|refine ox1 ?_|refine ox2 ?_ ?_<;>intro hp)|fail))
    refine' obe_val (fun us a w hk hd hS => ?_) ?_;rotate_left;focus (have hk := Kn.vw hk vwx;exact g_callO hk (hf := by kernel_rfl) (hc := his0 _ (hS.rdSr hP0) (hS.rdSr hQ0)) (h := fun _ _ h => h))
    (repeat' (first|(show ObxE _ _ _ _ _ _ _ _ _ (_::_) _ _ _;first|refine ox1 ?_|refine ox2 ?_ ?_<;>intro hp)|fail))
    refine' obe_val (fun us a w hk hd hS => ?_) ?_;rotate_left;focus (have hk := Kn.vw hk vwx;exact g_callO hk (hf := by kernel_rfl) (hc := show_any true (SizeOf.sizeOf (trN D.f 0) + 1) (trN D.f 0) (id3, k3, tag3, text3, ⟨x13, x23, x33⟩, ⟨y13, y23, y33⟩, ⟨z13, z23, z33⟩, ⟨u13, u23, u33⟩) _ (by omega) hm0 (by omega) (hS.rdSr hP0) (ht.mono hS.below)) (h := fun _ _ h => h))
    (repeat' (first|(show ObxE _ _ _ _ _ _ _ _ _ (_::_) _ _ _;first|refine ox1 ?_|refine ox2 ?_ ?_<;>intro hp)|fail))
    refine' obe_val (fun us a w hk hd hS => ?_) ?_;rotate_left;focus (have hk := Kn.vw hk vwx;exact g_callO hk (hf := by kernel_rfl) (hc := rshow9_any true (SizeOf.sizeOf (trN D.f 0) + 1) (trN D.f 0) (id4, k4, tag4, text4, ⟨x14, x24, x34⟩, ⟨y14, y24, y34⟩, ⟨z14, z24, z34⟩, ⟨u14, u24, u34⟩) _ (by omega) hm0 (by omega) (hS.rdSr hQ0) (ht.mono hS.below)) (h := fun _ _ h => h))
    (repeat' (first|(show ObxE _ _ _ _ _ _ _ _ _ (_::_) _ _ _;first|refine ox1 ?_|refine ox2 ?_ ?_<;>intro hp)|fail))
    all_goals first | exact absurd rfl (by assumption) | skip
    refine obe_nil ⟨rfl, ?_⟩;intro us a w hk hS
    (repeat' (first|((first|refine wx1 ?_|refine wx2 ?_ ?_<;>intro hp|refine s_end hk ?_)<;>(clear hk a;intro a hk))|((first|refine wx3 ?_;intro w b|refine wx4 ?_;intro w|refine wx5 ?_;intro w v);clear hk hS a;intro hS a hk)|refine wx0 ?_|fail))
    exact done1 hk (h := ⟨rfl, hS.flat⟩)
   | some n =>
    have hc1 : scnt (trN D.f id) ≤ 31 := by rw [trN_cnt hW hn];have := pre_len hW id;omega
    have hp1 := scnt_pre5 (trN D.f id)
    refine sg hk (g_callO hk (hf := by kernel_rfl) (hc := read5_any hW hb100 (by omega) id n _ hn hDR) (h := ?_));clear hk a;rintro vr w ⟨⟨id1, k1, tag1, text1, ⟨x11, x21, x31⟩, ⟨y11, y21, y31⟩, ⟨z11, z21, z31⟩, ⟨u11, u21, u31⟩⟩, rfl, hS1⟩ a hk;replace hS := hS.call hS1;clear hS1
    rw [List.cons_append, List.nil_append] at hS
    clear hDR
    (repeat' (first|((first|refine wx1 ?_|refine wx2 ?_ ?_<;>intro hp|refine s_end hk ?_)<;>(clear hk a;intro a hk))|((first|refine wx3 ?_;intro w b|refine wx4 ?_;intro w|refine wx5 ?_;intro w v);clear hk hS a;intro hS a hk)|refine wx0 ?_|fail))
    refine sg hk (g_callO hk (hf := by kernel_rfl) (hc := rread5_any hW hb100 (by omega) id n hn (Rd5R D H ao c) _ _ _ (Rd5R.stays _ _ _ _) (fun g h => h) (hS.sub (.cons atx sbx))) (h := ?_));clear hk hS a;rintro _ w ⟨⟨id2, k2, tag2, text2, ⟨x12, x22, x32⟩, ⟨y12, y22, y32⟩, ⟨z12, z22, z32⟩, ⟨u12, u22, u32⟩⟩, rfl, hS⟩ a hk
    (repeat' (first|((first|refine wx1 ?_|refine wx2 ?_ ?_<;>intro hp|refine s_end hk ?_)<;>(clear hk a;intro a hk))|((first|refine wx3 ?_;intro w b|refine wx4 ?_;intro w|refine wx5 ?_;intro w v);clear hk hS a;intro hS a hk)|refine wx0 ?_|fail))
    obtain ⟨bm2, bl2, hDR2⟩ := domH.get (hS.rd (A := domH bd D) atx)
    refine sg hk (g_callO hk (hf := by kernel_rfl) (hc := read5_any hW hb100 (by omega) 0 n0 _ hn0 hDR2) (h := ?_));clear hk a;rintro vr w ⟨⟨id3, k3, tag3, text3, ⟨x13, x23, x33⟩, ⟨y13, y23, y33⟩, ⟨z13, z23, z33⟩, ⟨u13, u23, u33⟩⟩, rfl, hS1⟩ a hk;replace hS := hS.call hS1;clear hS1
    rw [List.cons_append, List.nil_append] at hS
    clear hDR2
    (repeat' (first|((first|refine wx1 ?_|refine wx2 ?_ ?_<;>intro hp|refine s_end hk ?_)<;>(clear hk a;intro a hk))|((first|refine wx3 ?_;intro w b|refine wx4 ?_;intro w|refine wx5 ?_;intro w v);clear hk hS a;intro hS a hk)|refine wx0 ?_|fail))
    refine sg hk (g_callO hk (hf := by kernel_rfl) (hc := rread5_any hW hb100 (by omega) 0 n0 hn0 (fun g => Rd5R D H ao c g ∧ SrR g (trN D.f id) (id2, k2, tag2, text2, ⟨x12, x22, x32⟩, ⟨y12, y22, y32⟩, ⟨z12, z22, z32⟩, ⟨u12, u22, u32⟩)) _ _ _ (stays_and (Rd5R.stays _ _ _ _) (SrR.stays _ _)) (fun g h => h.1) (hS.sub (.cons atx sbx))) (h := ?_));clear hk hS a;rintro _ w ⟨⟨id4, k4, tag4, text4, ⟨x14, x24, x34⟩, ⟨y14, y24, y34⟩, ⟨z14, z24, z34⟩, ⟨u14, u24, u34⟩⟩, rfl, hS⟩ a hk
    (repeat' (first|((first|refine wx1 ?_|refine wx2 ?_ ?_<;>intro hp|refine s_end hk ?_)<;>(clear hk a;intro a hk))|((first|refine wx3 ?_;intro w b|refine wx4 ?_;intro w|refine wx5 ?_;intro w v);clear hk hS a;intro hS a hk)|refine wx0 ?_|fail))
    obtain ⟨g1, hxg1, hrg1, hS1⟩ := hS.freeze (A := rdH (fun g => (fun g => Rd5R D H ao c g ∧ SrR g (trN D.f id) (id2, k2, tag2, text2, ⟨x12, x22, x32⟩, ⟨y12, y22, y32⟩, ⟨z12, z22, z32⟩, ⟨u12, u22, u32⟩)) g ∧ SrR g (trN D.f 0) (id4, k4, tag4, text4, ⟨x14, x24, x34⟩, ⟨y14, y24, y34⟩, ⟨z14, z24, z34⟩, ⟨u14, u24, u34⟩))) atx
    clear hS
    have hS := hS1
    clear hS1
    have hK1 := rdH.rd (stays_and (stays_and (Rd5R.stays _ _ _ _) (SrR.stays _ _)) (SrR.stays _ _)) hrg1
    obtain ⟨g2, hxg2, hrg2, hS1⟩ := hS.freeze (A := streeR (trN D.f 0) (id3, k3, tag3, text3, ⟨x13, x23, x33⟩, ⟨y13, y23, y33⟩, ⟨z13, z23, z33⟩, ⟨u13, u23, u33⟩)) atx
    clear hS
    have hS := hS1
    clear hS1
    have hxg2 : Frz g1 g2 := hxg2.1
    have hQ0 : SrR g2 (trN D.f 0) (id4, k4, tag4, text4, ⟨x14, x24, x34⟩, ⟨y14, y24, y34⟩, ⟨z14, z24, z34⟩, ⟨u14, u24, u34⟩) := hK1.2.frz hxg2
    have hP0 : SrR g2 (trN D.f 0) (id3, k3, tag3, text3, ⟨x13, x23, x33⟩, ⟨y13, y23, y33⟩, ⟨z13, z23, z33⟩, ⟨u13, u23, u33⟩) := rdH.rd (SrR.stays _ _) hrg2
    have hQ1 : SrR g2 (trN D.f id) (id2, k2, tag2, text2, ⟨x12, x22, x32⟩, ⟨y12, y22, y32⟩, ⟨z12, z22, z32⟩, ⟨u12, u22, u32⟩) := hK1.1.2.frz hxg2
    obtain ⟨g3, hxg3, hrg3, hS1⟩ := hS.freeze (A := streeR (trN D.f id) (id1, k1, tag1, text1, ⟨x11, x21, x31⟩, ⟨y11, y21, y31⟩, ⟨z11, z21, z31⟩, ⟨u11, u21, u31⟩)) atx
    clear hS
    have hS := hS1
    clear hS1
    have hxg3 : Frz g2 g3 := hxg3.1
    have hP1 : SrR g3 (trN D.f id) (id1, k1, tag1, text1, ⟨x11, x21, x31⟩, ⟨y11, y21, y31⟩, ⟨z11, z21, z31⟩, ⟨u11, u21, u31⟩) := rdH.rd (SrR.stays _ _) hrg3
    replace hQ0 := hQ0.frz hxg3
    replace hP0 := hP0.frz hxg3
    replace hQ1 := hQ1.frz hxg3
    replace hS : St ⟨g3, w0⟩ _ w := hS
    have his1 := fun w0 h1 h2 => is9_any (trN D.f id) (trN D.f id) (id1, k1, tag1, text1, ⟨x11, x21, x31⟩, ⟨y11, y21, y31⟩, ⟨z11, z21, z31⟩, ⟨u11, u21, u31⟩) (id2, k2, tag2, text2, ⟨x12, x22, x32⟩, ⟨y12, y22, y32⟩, ⟨z12, z22, z32⟩, ⟨u12, u22, u32⟩) w0 (trN_fits hW hb100 id) (trN_fits hW hb100 id) (by omega) (by omega) h1 h2
    rw [eqS_self, decide_eq_true rfl] at his1
    have his0 := fun w0 h1 h2 => is9_any (trN D.f 0) (trN D.f 0) (id3, k3, tag3, text3, ⟨x13, x23, x33⟩, ⟨y13, y23, y33⟩, ⟨z13, z23, z33⟩, ⟨u13, u23, u33⟩) (id4, k4, tag4, text4, ⟨x14, x24, x34⟩, ⟨y14, y24, y34⟩, ⟨z14, z24, z34⟩, ⟨u14, u24, u34⟩) w0 (trN_fits hW hb100 0) (trN_fits hW hb100 0) (by omega) (by omega) h1 h2
    rw [eqS_self, decide_eq_true rfl] at his0
    refine wp_drawn 34 mixed (by kernel_rfl) hk hS ?_;clear hk hS a
    (repeat' (first|(show ObxE _ _ _ _ _ _ _ _ _ (_::_) _ _ _;first|refine ox1 ?_|refine ox2 ?_ ?_<;>intro hp)|fail))
    refine' obe_val (fun us a w hk hd hS => ?_) ?_;rotate_left;focus (have hk := Kn.vw hk vwx;exact g_callO hk (hf := by kernel_rfl) (hc := his0 _ (hS.rdSr hP0) (hS.rdSr hQ0)) (h := fun _ _ h => h))
    (repeat' (first|(show ObxE _ _ _ _ _ _ _ _ _ (_::_) _ _ _;first|refine ox1 ?_|refine ox2 ?_ ?_<;>intro hp)|fail))
    refine' obe_val (fun us a w hk hd hS => ?_) ?_;rotate_left;focus (have hk := Kn.vw hk vwx;exact g_callO hk (hf := by kernel_rfl) (hc := show_any true (SizeOf.sizeOf (trN D.f 0) + 1) (trN D.f 0) (id3, k3, tag3, text3, ⟨x13, x23, x33⟩, ⟨y13, y23, y33⟩, ⟨z13, z23, z33⟩, ⟨u13, u23, u33⟩) _ (by omega) hm0 (by omega) (hS.rdSr hP0) (ht.mono hS.below)) (h := fun _ _ h => h))
    (repeat' (first|(show ObxE _ _ _ _ _ _ _ _ _ (_::_) _ _ _;first|refine ox1 ?_|refine ox2 ?_ ?_<;>intro hp)|fail))
    refine' obe_val (fun us a w hk hd hS => ?_) ?_;rotate_left;focus (have hk := Kn.vw hk vwx;exact g_callO hk (hf := by kernel_rfl) (hc := rshow9_any true (SizeOf.sizeOf (trN D.f 0) + 1) (trN D.f 0) (id4, k4, tag4, text4, ⟨x14, x24, x34⟩, ⟨y14, y24, y34⟩, ⟨z14, z24, z34⟩, ⟨u14, u24, u34⟩) _ (by omega) hm0 (by omega) (hS.rdSr hQ0) (ht.mono hS.below)) (h := fun _ _ h => h))
    (repeat' (first|(show ObxE _ _ _ _ _ _ _ _ _ (_::_) _ _ _;first|refine ox1 ?_|refine ox2 ?_ ?_<;>intro hp)|fail))
    all_goals first | exact absurd rfl (by assumption) | skip
    refine obe_nil ⟨rfl, ?_⟩;intro us a w hk hS
    (repeat' (first|((first|refine wx1 ?_|refine wx2 ?_ ?_<;>intro hp|refine s_end hk ?_)<;>(clear hk a;intro a hk))|((first|refine wx3 ?_;intro w b|refine wx4 ?_;intro w|refine wx5 ?_;intro w v);clear hk hS a;intro hS a hk)|refine wx0 ?_|fail))
    refine sg hk (g_callO hk (hf := by kernel_rfl) (hc := his1 _ (hS.rdSr hP1) (hS.rdSr hQ1)) (h := ?_));clear hk a;rintro _ w ⟨rfl, hS1⟩ a hk;replace hS := hS.call0 hS1;clear hS1
    (repeat' (first|((first|refine wx1 ?_|refine wx2 ?_ ?_<;>intro hp|refine s_end hk ?_)<;>(clear hk a;intro a hk))|((first|refine wx3 ?_;intro w b|refine wx4 ?_;intro w|refine wx5 ?_;intro w v);clear hk hS a;intro hS a hk)|refine wx0 ?_|fail))
    exact done1 hk (h := ⟨rfl, hS.flat⟩)
end Go.Proofs.YtgklceoodpocaaaGreatDoor
namespace Go.Proofs.YtgklceoodpocaaaGreatDoor
open Go.RowKit
set_option maxRecDepth 100000
attribute [local irreducible] Go.Code.wpIn Go.wpListIn Go.Calls Gives Go.Exit.then Go.Exit.inBlock Done ObxE
end Go.Proofs.YtgklceoodpocaaaGreatDoor
namespace Go.Proofs.YtgklceoodpocaaaGreatDoor
open Go.RowKit
set_option maxRecDepth 100000
attribute [local irreducible] Go.Code.wpIn Go.wpListIn Go.Calls Gives Go.Exit.then Go.Exit.inBlock Done ObxE
theorem laid9 {W : World} {x y z : String × DataW Unit} (hz : z = ("internal/strconv.uint64pow10", Rows.laid_internal_strconv_uint64pow10)) (h : laidMet Tryz.prog [x, y, z] W) : TabW W := by
 subst hz
 have h2 := laid_tail (laid_tail h)
 exact Lib.tabIs_of_head (g := 1) (t := 200) (by kernel_rfl) (by kernel_rfl) Tryz.underlying200 Tryz.underlying183 (by kernel_rfl) (by kernel_rfl) h2
end Go.Proofs.YtgklceoodpocaaaGreatDoor
namespace Go.Proofs.YtgklceoodpocaaaGreatDoor
open Go.RowKit
set_option maxRecDepth 100000
attribute [local irreducible] Go.Code.wpIn Go.wpListIn Go.Calls Gives Go.Exit.then Go.Exit.inBlock Done ObxE
theorem laid_StillReads {W : World} (hL : laidMetH Tryz.prog Rows.stillReadsRow.laid W) : TabW W := by
 rw [MakeChecks.laidMetH_plain _ _ _ (by kernel_rfl)] at hL
 exact laid9 rfl hL
theorem walk_StillReads (W : World) (vs : List Value) (hL : laidMetH Tryz.prog Rows.stillReadsRow.laid W) (h : Args Tryz.prog W [22, 3] vs) : Calls Tryz.prog 3 vs.toArray W (Ret fun v w => v = .bool true ∧ St W [] w) := by
 obtain ⟨v, u, rfl, ha, hb⟩ := args2 h
 obtain ⟨acts, hv⟩ := ha.sl (α := Ac5) (eT rfl) (aT rfl) (zT rfl) (kT rfl)
 obtain ⟨d, rfl, _⟩ := hb.int (iT rfl) (aT rfl)
 exact stillreads_any acts v d W hv (laid_StillReads hL)
end Go.Proofs.YtgklceoodpocaaaGreatDoor
