/- Layer 9, plain: a tree's text. Layer 9: trees that are the same, in plain words. Layer 9, plain: what nodes are, with all below them, as a tree. Layers 5 and 9: a Dom is made; what nodes are, with all below them, is read. -/
import Derived.Test.YtgklceoodpocaaaGreatDoorQ10
import Derived.Test.YtgklceoodpocaaaGreatDoorQ18
import Derived.Lib.ItoaLen
import Derived.Test.YtgklceoodpocaaaGreatDoorQ08
import Derived.Test.YtgklceoodpocaaaGreatDoorQ09
import Derived.Test.YtgklceoodpocaaaGreatDoorQ14
set_option linter.all false
namespace Go.Proofs.YtgklceoodpocaaaGreatDoor
open Go.RowKit
theorem wp_join {df : Option Nat} {n : Nat} {P : Program} {c : Code} {K : Act → World → Prop} {Q : Exit → Act → World → Prop} {a : Act} {w : World} (R' : Act → World → Prop) (h2 : ∀ a w, R' a w → K a w) (h1 : c.wpIn (FR df) n P (Exit.then R' Q) a w) : c.wpIn (FR df) n P (Exit.then K Q) a w :=
 wpIn_mono h1 (fun e a w h => by cases e <;> first | exact h2 _ _ h | exact h)
def lblS (ids : Bool) (id : Int) : ByteArray := if ids then itoS id ++ ⟨#[58]⟩ else ⟨#[]⟩
def dotS (c : ByteArray) : ByteArray := ⟨#[46]⟩ ++ c
def attS (x : ByteArray × ByteArray) : ByteArray := ⟨#[64]⟩ ++ x.1 ++ ⟨#[61]⟩ ++ x.2
def styS (x : ByteArray × Int) : ByteArray := x.1 ++ ⟨#[61]⟩ ++ itoS x.2
def hdL (ids : Bool) (id : Int) (tag : ByteArray) (cl : List ByteArray) (al : List (ByteArray × ByteArray)) (sl : List (ByteArray × Int)) : List ByteArray :=
 (lblS ids id ++ tag) :: (cl.map dotS ++ al.map attS ++ sl.map styS)
mutual
def showT (ids : Bool) : STree → ByteArray
 | .mk id k tag text cl al sl kids => if k = 1 then lblS ids id ++ ⟨#[39]⟩ ++ text ++ ⟨#[39]⟩ else ⟨#[40]⟩ ++ ⟨(joinL (hdL ids id tag cl al sl ++ showL ids kids)).toArray⟩ ++ ⟨#[41]⟩
def showL (ids : Bool) : List STree → List ByteArray
 | [] => []
 | t :: ts => showT ids t :: showL ids ts
end
theorem showL_map (ids : Bool) : ∀ l, showL ids l = l.map (showT ids)
 | [] => rfl
 | t :: ts => by rw [showL, showL_map ids ts];rfl
mutual
def scnt : STree → Nat
 | .mk _ _ _ _ _ _ _ kids => scntL kids + 1
def scntL : List STree → Nat
 | [] => 0
 | t :: ts => scnt t + scntL ts
end
theorem scntL_mem : ∀ {ts : List STree} {t : STree}, t ∈ ts → scnt t ≤ scntL ts
 | t :: ts, u, h => by
  rcases List.mem_cons.1 h with rfl | h
  ·simp only [scntL];omega
  ·have := scntL_mem h;simp only [scntL];omega
theorem scnt_pos (t : STree) : 1 ≤ scnt t := by cases t; simp only [scnt]; omega
theorem scntL_len : ∀ ts : List STree, ts.length ≤ scntL ts
 | [] => by simp
 | t :: ts => by have := scntL_len ts;have := scnt_pos t;simp only [List.length_cons, scntL];omega
def i64P (x : Int) : Prop := -9223372036854775808 ≤ x ∧ x ≤ 9223372036854775807
inductive SSm : STree → Prop
 | mk {id k : Int} {tag text : ByteArray} {cl : List ByteArray} {al : List (ByteArray × ByteArray)} {sl : List (ByteArray × Int)} {kids : List STree}
  (h0 : i64P id) (h1 : tag.size ≤ 20) (h2 : text.size ≤ 3000) (h3 : cl.length ≤ 40) (h4 : ∀ c ∈ cl, c.size ≤ 20) (h5 : al.length ≤ 40) (h6 : ∀ x ∈ al, x.1.size ≤ 20 ∧ x.2.size ≤ 40) (h7 : sl.length ≤ 40) (h8 : ∀ x ∈ sl, x.1.size ≤ 20 ∧ i64P x.2) (h9 : ∀ t ∈ kids, SSm t) : SSm (.mk id k tag text cl al sl kids)
theorem itoP_size {n : Int} (h : i64P n) : (itoS n).size ≤ 21 := by
 have := Lib.itoa_length_le n h.1 h.2
 have e : (itoS n).size = (Lib.itoa n).length := by unfold itoS;simp [ByteArray.size]
 omega
theorem lbl_size {ids : Bool} {id : Int} (h : i64P id) : (lblS ids id).size ≤ 22 := by
 unfold lblS
 split
 ·have := itoP_size h
  have e : ByteArray.size ⟨#[58]⟩ = 1 := rfl
  rw [ByteArray.size_append];omega
 ·exact Nat.zero_le _
def lenL (l : List ByteArray) : Nat := (l.map ByteArray.size).sum
theorem joinT_size : ∀ l : List ByteArray, (joinT l).length = lenL l + l.length
 | [] => by simp [joinT, lenL]
 | x :: l => by
  have ih := joinT_size l
  have e : x.data.toList.length = x.size := Array.length_toList
  unfold joinT lenL at *
  simp only [List.flatMap_cons, List.length_append, List.length_cons, List.map_cons, List.sum_cons]
  omega
theorem joinL_size (x : ByteArray) (l : List ByteArray) : (joinL (x :: l)).length = x.size + lenL l + l.length := by
 have e : x.data.toList.length = x.size := Array.length_toList
 rw [joinL, List.length_append, joinT_size];omega
theorem lenL_app (a b : List ByteArray) : lenL (a ++ b) = lenL a + lenL b := by simp [lenL]
theorem lenL_le {l : List ByteArray} {X : Nat} (h : ∀ s ∈ l, s.size ≤ X) : lenL l ≤ X * l.length := by
 induction l with
 | nil => simp [lenL]
 | cons x l ih =>
  have h1 := h x (by simp)
  have h2 := ih fun s hs => h s (by simp [hs])
  unfold lenL at *
  rw [List.map_cons, List.sum_cons, List.length_cons, Nat.mul_add];omega
theorem hd_sizes {ids : Bool} {id : Int} {tag : ByteArray} {cl : List ByteArray} {al : List (ByteArray × ByteArray)} {sl : List (ByteArray × Int)} (h0 : i64P id) (h1 : tag.size ≤ 20) (h4 : ∀ c ∈ cl, c.size ≤ 20) (h6 : ∀ x ∈ al, x.1.size ≤ 20 ∧ x.2.size ≤ 40) (h8 : ∀ x ∈ sl, x.1.size ≤ 20 ∧ i64P x.2) :
  ∀ s ∈ hdL ids id tag cl al sl, s.size ≤ 62 := by
 intro s hs
 have hl := lbl_size (ids := ids) h0
 have e1 : ByteArray.size ⟨#[46]⟩ = 1 := rfl
 have e2 : ByteArray.size ⟨#[64]⟩ = 1 := rfl
 have e3 : ByteArray.size ⟨#[61]⟩ = 1 := rfl
 unfold hdL at hs
 rcases List.mem_cons.1 hs with rfl | hs
 ·rw [ByteArray.size_append];omega
 ·rcases List.mem_append.1 hs with hs | hs
  ·rcases List.mem_append.1 hs with hs | hs
   ·obtain ⟨c, hc, rfl⟩ := List.mem_map.1 hs
    have := h4 c hc
    rw [dotS, ByteArray.size_append];omega
   ·obtain ⟨x, hx, rfl⟩ := List.mem_map.1 hs
    have := h6 x hx
    rw [attS];simp only [ByteArray.size_append];omega
  ·obtain ⟨x, hx, rfl⟩ := List.mem_map.1 hs
   have := h8 x hx
   have := itoP_size this.2
   rw [styS];simp only [ByteArray.size_append];omega
theorem STree.ind {P : STree → Prop} (h : ∀ (id k : Int) (tag text : ByteArray) (cl : List ByteArray) (al : List (ByteArray × ByteArray)) (sl : List (ByteArray × Int)) (kids : List STree), (∀ t ∈ kids, P t) → P (.mk id k tag text cl al sl kids)) (t : STree) : P t := by
 have : ∀ (n : Nat) (t : STree), SizeOf.sizeOf t < n → P t := by
  intro n
  induction n with
  | zero => intro t h;omega
  | succ n ih =>
   intro t ht
   obtain ⟨id, k, tag, text, cl, al, sl, kids⟩ := t
   exact h _ _ _ _ _ _ _ _ fun u hu => ih u (by have := skid_lt (id := id) (k := k) (tag := tag) (text := text) (cl := cl) (at_ := al) (st := sl) hu;omega)
 exact this _ t (Nat.lt_succ_self _)
theorem show_size (ids : Bool) (t : STree) : SSm t → (showT ids t).size + 1 ≤ 12000 * scnt t := by
 induction t using STree.ind with
 | h id k tag text cl al sl kids ih =>
  intro hs
  cases hs with
  | mk h0 h1 h2 h3 h4 h5 h6 h7 h8 h9 =>
   have hl := lbl_size (ids := ids) h0
   have e1 : ByteArray.size ⟨#[39]⟩ = 1 := rfl
   have e2 : ByteArray.size ⟨#[40]⟩ = 1 := rfl
   have e3 : ByteArray.size ⟨#[41]⟩ = 1 := rfl
   simp only [showT, scnt]
   split
   ·simp only [ByteArray.size_append];omega
   ·have hH := hd_sizes (ids := ids) h0 h1 h4 h6 h8
    have hk : ∀ ts : List STree, (∀ t ∈ ts, t ∈ kids) → lenL (showL ids ts) + ts.length ≤ 12000 * scntL ts := by
     intro ts
     induction ts with
     | nil => intro _;simp [showL, lenL, scntL]
     | cons u us ihs =>
      intro hm
      have a1 := ih u (hm u (by simp)) (h9 u (hm u (by simp)))
      have a2 := ihs fun t ht => hm t (by simp [ht])
      have a3 := scnt_pos u
      unfold lenL at *
      simp only [showL, List.map_cons, List.sum_cons, List.length_cons, scntL]
      omega
    have hk0 := hk kids fun _ h => h
    have hsl : (showL ids kids).length = kids.length := by rw [showL_map, List.length_map]
    have hj : (ByteArray.mk (joinL (hdL ids id tag cl al sl ++ showL ids kids)).toArray).size = (joinL (hdL ids id tag cl al sl ++ showL ids kids)).length := by simp [ByteArray.size]
    have h10 : (lblS ids id ++ tag).size ≤ 62 := hH _ (by unfold hdL;simp)
    have h11 := lenL_le (l := cl.map dotS ++ al.map attS ++ sl.map styS) (X := 62) (fun s hs => hH s (by unfold hdL;exact List.mem_cons_of_mem _ hs))
    have h12 : (cl.map dotS ++ al.map attS ++ sl.map styS).length ≤ 120 := by simp only [List.length_append, List.length_map];omega
    simp only [ByteArray.size_append, hj]
    unfold hdL
    rw [List.cons_append, joinL_size, lenL_app, List.length_append, hsl]
    omega
end Go.Proofs.YtgklceoodpocaaaGreatDoor
namespace Go.Proofs.YtgklceoodpocaaaGreatDoor
open Go.RowKit
noncomputable section
open Classical in
mutual
def samS : STree → STree → Bool
 | .mk _ k tag text cl al sl kids, .mk _ k' tag' text' cl' al' sl' kids' =>
  decide (k = k' ∧ tag = tag' ∧ text = text' ∧ cl = cl' ∧ snapF nmS al = snapF nmS al' ∧ snapF nmI sl = snapF nmI sl') && samSL kids kids'
def samSL : List STree → List STree → Bool
 | [], [] => true
 | t :: ts, u :: us => samS t u && samSL ts us
 | [], _ :: _ => false
 | _ :: _, [] => false
end
open Classical in
mutual
def eqS : STree → STree → Bool
 | .mk _ k tag text cl al sl kids, .mk _ k' tag' text' cl' al' sl' kids' =>
  decide (k = k' ∧ tag = tag' ∧ text = text' ∧ cl = cl' ∧ al = al' ∧ sl = sl') && eqSL kids kids'
def eqSL : List STree → List STree → Bool
 | [], [] => true
 | t :: ts, u :: us => eqS t u && eqSL ts us
 | [], _ :: _ => false
 | _ :: _, [] => false
end
end
theorem samSL_iff : ∀ (ts us : List STree), samSL ts us = true ↔ ts.length = us.length ∧ ∀ (i : Nat) (t u : STree), ts[i]? = some t → us[i]? = some u → samS t u = true
 | [], [] => by simp [samSL]
 | [], _ :: _ => by simp [samSL]
 | _ :: _, [] => by simp [samSL]
 | t :: ts, u :: us => by
  rw [samSL, Bool.and_eq_true, samSL_iff ts us]
  constructor
  ·rintro ⟨h1, h2, h3⟩
   refine ⟨by simp [h2], fun i a b ha hb => ?_⟩
   cases i with
   | zero => simp at ha hb;subst ha hb;exact h1
   | succ i => simp at ha hb;exact h3 i a b ha hb
  ·rintro ⟨h1, h2⟩
   exact ⟨h2 0 t u rfl rfl, by simpa using h1, fun i a b ha hb => h2 (i + 1) a b (by simpa using ha) (by simpa using hb)⟩
theorem eqSL_iff : ∀ (ts us : List STree), eqSL ts us = true ↔ ts.length = us.length ∧ ∀ (i : Nat) (t u : STree), ts[i]? = some t → us[i]? = some u → eqS t u = true
 | [], [] => by simp [eqSL]
 | [], _ :: _ => by simp [eqSL]
 | _ :: _, [] => by simp [eqSL]
 | t :: ts, u :: us => by
  rw [eqSL, Bool.and_eq_true, eqSL_iff ts us]
  constructor
  ·rintro ⟨h1, h2, h3⟩
   refine ⟨by simp [h2], fun i a b ha hb => ?_⟩
   cases i with
   | zero => simp at ha hb;subst ha hb;exact h1
   | succ i => simp at ha hb;exact h3 i a b ha hb
  ·rintro ⟨h1, h2⟩
   exact ⟨h2 0 t u rfl rfl, by simpa using h1, fun i a b ha hb => h2 (i + 1) a b (by simpa using ha) (by simpa using hb)⟩
theorem samS_iff {id id' k k' : Int} {tag text tag' text' : ByteArray} {cl cl' : List ByteArray} {al al' : List (ByteArray × ByteArray)} {sl sl' : List (ByteArray × Int)} {kids kids' : List STree} :
  samS (.mk id k tag text cl al sl kids) (.mk id' k' tag' text' cl' al' sl' kids') = true ↔
   (k = k' ∧ tag = tag' ∧ text = text' ∧ cl = cl' ∧ snapF nmS al = snapF nmS al' ∧ snapF nmI sl = snapF nmI sl') ∧ samSL kids kids' = true := by
 rw [samS, Bool.and_eq_true, decide_eq_true_iff]
theorem eqS_iff {id id' k k' : Int} {tag text tag' text' : ByteArray} {cl cl' : List ByteArray} {al al' : List (ByteArray × ByteArray)} {sl sl' : List (ByteArray × Int)} {kids kids' : List STree} :
  eqS (.mk id k tag text cl al sl kids) (.mk id' k' tag' text' cl' al' sl' kids') = true ↔
   (k = k' ∧ tag = tag' ∧ text = text' ∧ cl = cl' ∧ al = al' ∧ sl = sl') ∧ eqSL kids kids' = true := by
 rw [eqS, Bool.and_eq_true, decide_eq_true_iff]
theorem samS_refl : ∀ (n : Nat) (t : STree), SizeOf.sizeOf t < n → samS t t = true
 | 0, _, h => by omega
 | n + 1, .mk id k tag text cl al sl kids, h => by
  rw [samS_iff]
  refine ⟨⟨rfl, rfl, rfl, rfl, rfl, rfl⟩, (samSL_iff _ _).2 ⟨rfl, fun i t u ht hu => ?_⟩⟩
  rw [ht] at hu
  cases hu
  exact samS_refl n t (by have := skid_lt (id := id) (k := k) (tag := tag) (text := text) (cl := cl) (at_ := al) (st := sl) (List.mem_of_getElem? ht);omega)
theorem eqS_refl : ∀ (n : Nat) (t : STree), SizeOf.sizeOf t < n → eqS t t = true
 | 0, _, h => by omega
 | n + 1, .mk id k tag text cl al sl kids, h => by
  rw [eqS_iff]
  refine ⟨⟨rfl, rfl, rfl, rfl, rfl, rfl⟩, (eqSL_iff _ _).2 ⟨rfl, fun i t u ht hu => ?_⟩⟩
  rw [ht] at hu
  cases hu
  exact eqS_refl n t (by have := skid_lt (id := id) (k := k) (tag := tag) (text := text) (cl := cl) (at_ := al) (st := sl) (List.mem_of_getElem? ht);omega)
theorem samS_self (t : STree) : samS t t = true := samS_refl _ t (Nat.lt_succ_self _)
theorem eqS_self (t : STree) : eqS t t = true := eqS_refl _ t (Nat.lt_succ_self _)
theorem samS_false {t u : STree} (h : ¬ samS t u = true) : samS t u = false := by simpa using h
theorem eqS_false {t u : STree} (h : ¬ eqS t u = true) : eqS t u = false := by simpa using h
end Go.Proofs.YtgklceoodpocaaaGreatDoor
namespace Go.Proofs.YtgklceoodpocaaaGreatDoor
abbrev zS : STree := .mk 0 0 ⟨#[]⟩ ⟨#[]⟩ [] [] [] []
noncomputable def trN (f : Nds) : Int → STree := foldD (fun n r => .mk n.id n.kind n.tag n.text n.cls n.att n.sty r) zS f
theorem trN_some {f : Nds} (hw : ∀ id, _root_.Acc (kidOf f) id) {id : Int} {n : NodeP} (h : f id = some n) : trN f id = .mk n.id n.kind n.tag n.text n.cls n.att n.sty (n.kids.map (trN f)) := fold_some hw h
theorem trN_none {f : Nds} {id : Int} (h : f id = none) : trN f id = zS := fold_none h
theorem trN_fits {D : DomP} (h : WfD D) (hb : Bnd 100 D) (id : Int) : SFits (trN D.f id) := by
 induction h.wf.accD id with
 | intro id _ ih =>
  cases hn : D.f id with
  | none => rw [trN_none hn];exact .mk (by simp) (by simp) (by simp) (by simp) (by simp)
  | some n =>
   rw [trN_some h.wf.accD hn]
   have b := hb.get hn
   refine .mk b.cls b.att b.sty (by rw [List.length_map];have := b.kids;omega) fun t ht => ?_
   obtain ⟨k, hk, rfl⟩ := List.mem_map.1 ht
   exact ih k ⟨n, hn, hk⟩
structure NdX (n : NodeP) : Prop where
 tag : n.tag.size ≤ 20
 text : n.text.size ≤ 40
 cls : ∀ c ∈ n.cls, c.size ≤ 20
 att : ∀ x ∈ n.att, x.1.size ≤ 20 ∧ x.2.size ≤ 40
 sty : ∀ x ∈ n.sty, x.1.size ≤ 20 ∧ i64P x.2
def TxD (D : DomP) : Prop := ∀ n ∈ D.l, NdX n
theorem trN_ssm {D : DomP} (h : WfD D) (hb : Bnd 40 D) (hx : TxD D) (id : Int) : SSm (trN D.f id) := by
 induction h.wf.accD id with
 | intro id _ ih =>
  cases hn : D.f id with
  | none => rw [trN_none hn];exact .mk (by unfold i64P;omega) (by decide) (by decide) (by simp) (by simp) (by simp) (by simp) (by simp) (by simp) (by simp)
  | some n =>
   rw [trN_some h.wf.accD hn]
   have b := hb.get hn
   have x := hx n (fnd_mem hn)
   have hi := h.wf.idn id n hn
   have hnx := hb.nx
   refine .mk (by unfold i64P;omega) x.tag (by have := x.text;omega) b.cls x.cls b.att x.att b.sty x.sty fun t ht => ?_
   obtain ⟨k, hk, rfl⟩ := List.mem_map.1 ht
   exact ih k ⟨n, hn, hk⟩
theorem scntL_map (ks : List Int) (f : Nds) (h : ∀ k ∈ ks, scnt (trN f k) = (preN f k).length) : scntL (ks.map (trN f)) = ((ks.map (preN f)).flatten).length := by
 induction ks with
 | nil => rfl
 | cons k ks ih =>
  rw [List.map_cons, scntL, List.map_cons, List.flatten_cons, List.length_append, h k (by simp), ih fun j hj => h j (by simp [hj])]
theorem trN_cnt {D : DomP} (h : WfD D) {id : Int} {n : NodeP} (hn : D.f id = some n) : scnt (trN D.f id) = (preN D.f id).length := by
 have : ∀ id, (∃ n, D.f id = some n) → scnt (trN D.f id) = (preN D.f id).length := fun id => by
  induction h.wf.accD id with
  | intro id _ ih =>
   rintro ⟨n, hn⟩
   rw [trN_some h.wf.accD hn, pre_some h.wf.accD hn, scnt, List.length_cons, scntL_map _ _ fun k hk => ?_]
   obtain ⟨c, hc, -⟩ := h.wf.down id n hn k hk
   exact ih k ⟨n, hn, hk⟩ ⟨c, hc⟩
 exact this id ⟨n, hn⟩
theorem newP_tx (most : Int) : TxD (newP most) := fun n hn => by
 simp only [newP, List.mem_singleton] at hn
 subst hn
 exact ⟨by decide, by decide, by simp [rootP], by simp [rootP], by simp [rootP]⟩
theorem addP_tx {D : DomP} (h : TxD D) {kind : Int} {tag text : ByteArray} (h1 : tag.size ≤ 20) (h2 : text.size ≤ 40) : TxD (addP D kind tag text).1 := by
 unfold addP
 split
 ·exact h
 ·intro n hn
  rcases List.mem_append.1 hn with hn | hn
  ·exact h n hn
  ·rw [List.mem_singleton] at hn
   subst hn
   exact ⟨h1, h2, by simp, by simp, by simp⟩
theorem elemP_tx {D : DomP} (h : TxD D) {tag : ByteArray} (h1 : tag.size ≤ 20) : TxD (elemP D tag).1 := by
 unfold elemP
 split
 ·exact addP_tx h h1 (by decide)
 ·exact h
theorem textP_tx {D : DomP} (h : TxD D) {s : ByteArray} (h1 : s.size ≤ 40) : TxD (textP D s).1 := addP_tx h (by decide) h1
theorem put_tx {D : DomP} (h : TxD D) {n : NodeP} (hn : NdX n) : TxD { D with l := putP D.l n } := fun x hx => (put_mem0 hx).elim (fun e => e ▸ hn) (h x)
theorem insP_tx {D : DomP} (h : TxD D) (parent at_ id : Int) : TxD (insP D parent at_ id).1 := by
 unfold insP
 split
 ·rename_i p n hp hn
  split
  ·exact h
  ·split
   ·exact h
   ·have x1 := h p (fnd_mem hp)
    have x2 := h n (fnd_mem hn)
    exact put_tx (D := { D with l := putP D.l { p with kids := insF p.kids at_.toNat id } }) (put_tx h (n := { p with kids := insF p.kids at_.toNat id }) ⟨x1.tag, x1.text, x1.cls, x1.att, x1.sty⟩) (n := { n with par := parent }) ⟨x2.tag, x2.text, x2.cls, x2.att, x2.sty⟩
 ·exact h
theorem movP_tx {D : DomP} (h : TxD D) (id at_ : Int) : TxD (movDP D id at_).1 := by
 unfold movDP
 split
 ·exact h
 ·split
  ·exact h
  ·rename_i p hp
   split
   ·exact h
   ·have x1 := h p (fnd_mem hp)
    exact put_tx h ⟨x1.tag, x1.text, x1.cls, x1.att, x1.sty⟩
theorem remP_tx {D : DomP} (h : TxD D) (id : Int) : TxD (remP D id).1 := by
 unfold remP
 split
 ·exact h
 ·rename_i n hn
  split
  ·exact h
  ·have hb : TxD { D with l := leaP D.l n } := by
    unfold leaP
    split
    ·exact h
    ·rename_i p hp
     have x1 := h p (fnd_mem hp)
     exact put_tx h ⟨x1.tag, x1.text, x1.cls, x1.att, x1.sty⟩
   exact fun x hx => hb x (List.mem_filter.1 hx).1
theorem put_memF {α κ : Type} [Lin κ] (key : α → κ) {s : List α} (hr : Rises key s) {e x : α} (hx : x ∈ putF key s e) : x = e ∨ x ∈ s := ((put_mem key hr).1 hx).imp id And.left
theorem chg_tx {K : Nat} {kind num : Int} {n n' : NodeP} {name v : ByteArray} (b : NdB K n) (x : NdX n) (h1 : name.size ≤ 20) (h2 : v.size ≤ 40) (h : chgP kind n name v num = some n') : NdX n' := by
  obtain ⟨x1, x2, x3, x4, x5⟩ := x
  have hs := satF_bd num
  unfold chgP at h
  repeat' split at h
  all_goals first
    | cases h; done
    | (cases h
       refine ⟨by first | exact x1 | exact h1, by first | exact x2 | exact h2, ?_, ?_, ?_⟩
       · first
           | exact x3
           | (intro c hc; rcases List.mem_append.1 hc with hc | hc; (exact x3 c hc); (rw [List.mem_singleton] at hc; subst hc; exact h1))
           | (intro c hc; exact x3 c (List.mem_filter.1 hc).1)
       · first
           | exact x4
           | (intro c hc; rcases put_memF nmS b.ra hc with rfl | hc; (exact ⟨h1, h2⟩); exact x4 c hc)
           | (intro c hc; exact x4 c (List.mem_filter.1 hc).1)
       · first
           | exact x5
           | (intro c hc; rcases put_memF nmI b.rs hc with rfl | hc; (exact ⟨h1, by unfold i64P; simp only; omega⟩); exact x5 c hc)
           | (intro c hc; exact x5 c (List.mem_filter.1 hc).1))
theorem setP_tx {K : Nat} {D : DomP} (hb : Bnd K D) (h : TxD D) {kind id : Int} {name v : ByteArray} {num : Int} (h1 : name.size ≤ 20) (h2 : v.size ≤ 40) : TxD (setP D kind id name v num).1 := by
 unfold setP
 split
 ·exact h
 ·rename_i n hn
  split
  ·exact h
  ·split
   ·exact h
   ·rename_i n' hc
    exact put_tx h (chg_tx (hb.get hn) (h n (fnd_mem hn)) h1 h2 hc)
end Go.Proofs.YtgklceoodpocaaaGreatDoor
namespace Go.Proofs.YtgklceoodpocaaaGreatDoor
open Go.RowKit
set_option maxRecDepth 100000
attribute [local irreducible] Go.Code.wpIn Go.wpListIn Go.Calls Gives Go.Exit.then Go.Exit.inBlock Done ObxE
theorem clip5_any (x lo hi : Int) (w0 : World) : Calls Tryz.prog 16 #[.int .i64 x, .int .i64 lo, .int .i64 hi] w0 (Ret fun v w => v = .int .i64 (max lo (min x hi)) ∧ St w0 [] w) := by
 refine enter Tryz.func16 rfl Tryz.ntmps16 rfl (fun a hk => ?_);have hS := St.refl w0
 (repeat' (first|((first|refine wx1 ?_|refine wx2 ?_ ?_<;>intro hp|refine s_end hk ?_)<;>(clear hk a;intro a hk))|((first|refine wx3 ?_;intro w b|refine wx4 ?_;intro w|refine wx5 ?_;intro w v);clear hk hS a;intro hS a hk)|refine wx0 ?_|fail))
 exact done1 hk (h := ⟨rfl, hS.nil⟩)
theorem new5_any (most : Int) (w0 : World) : Calls Tryz.prog 5 #[.int .i64 most] w0 (Ret fun v w => ∃ bd, v = pA bd ∧ St w0 [domH bd (newP most)] w) := by
 refine enter Tryz.func5 rfl Tryz.ntmps5 rfl (fun a hk => ?_);have hS := St.refl w0
 (repeat' (first|((first|refine wx1 ?_|refine wx2 ?_ ?_<;>intro hp|refine s_end hk ?_)<;>(clear hk a;intro a hk))|((first|refine wx3 ?_;intro w b|refine wx4 ?_;intro w|refine wx5 ?_;intro w v);clear hk hS a;intro hS a hk)|refine wx0 ?_|fail))
 refine sg hk (g_callO hk (hf := by kernel_rfl) (hc := clip5_any most 1 65536 _) (h := ?_));clear hk a;rintro _ w ⟨rfl, hS1⟩ a hk;replace hS := hS.call0 hS1;clear hS1
 (repeat' (first|((first|refine wx1 ?_|refine wx2 ?_ ?_<;>intro hp|refine s_end hk ?_)<;>(clear hk a;intro a hk))|((first|refine wx3 ?_;intro w b|refine wx4 ?_;intro w|refine wx5 ?_;intro w v);clear hk hS a;intro hS a hk)|refine wx0 ?_|fail))
 refine sg hk (g_makeMap encI hS ?_);clear hk hS a;intro w mv hS a hk
 obtain ⟨bm, rfl⟩ := mapH.shape (hS.rd (A := mapH encI mv ([] : List (Int × Value))) atx)
 (repeat' (first|((first|refine wx1 ?_|refine wx2 ?_ ?_<;>intro hp|refine s_end hk ?_)<;>(clear hk a;intro a hk))|((first|refine wx3 ?_;intro w b|refine wx4 ?_;intro w|refine wx5 ?_;intro w v);clear hk hS a;intro hS a hk)|refine wx0 ?_|fail))
 rename Nat => br
 refine su hk (g_mapUpdate (k := (0 : Int)) hk hS ?_ (mT rfl) keyI);clear hk hS a;intro w hS a hk
 (repeat' (first|((first|refine wx1 ?_|refine wx2 ?_ ?_<;>intro hp|refine s_end hk ?_)<;>(clear hk a;intro a hk))|((first|refine wx3 ?_;intro w b|refine wx4 ?_;intro w|refine wx5 ?_;intro w v);clear hk hS a;intro hS a hk)|refine wx0 ?_|fail))
 refine done1 hk (h := ⟨_, rfl, domH.of (bm := bm) (bl := fun _ => br) (L := []) ?_⟩)
 have hS1 := (((hS.nilT 3 Int).nilT 100 PrI).nilT 98 PrS).nilT 9 ByteArray
 clear hS
 have hS : St w0 (nodeL br rootP ((none, 0), (none, 0), (none, 0), (none, 0)) ++ (mapH encI (.map (some bm)) (setL ([] : List (Int × Value)) (0 : Int) (pA br)) :: pts b [.int .i64 (max 1 (min most 65536)), .int .i64 1, .map (some bm)] 67 :: [])) w := by
  refine hS1.sub ?_
  simp only [nodeL, nodC, rootP, List.length_nil, List.cons_append, List.nil_append]
  exact (.cons atx (.cons atx (.cons atx (.cons atx (.cons atx (.cons atx (.cons atx sbx)))))))
 clear hS1
 have hS1 : St w0 (ndsH (fun _ => br) [rootP] :: (mapH encI (.map (some bm)) (setL ([] : List (Int × Value)) (0 : Int) (pA br)) :: pts b [.int .i64 (max 1 (min most 65536)), .int .i64 1, .map (some bm)] 67 :: [])) w := ndsH.of (nodH.of hS)
 exact hS1.sub (.cons atx (.cons atx (.cons atx sbx)))
theorem read5_none {bd bm : Nat} {bl : Int → Nat} {D : DomP} {id : Int} (w0 : World) (hDR : DomR bd D bm bl w0) (hn : D.f id = none) :
  Calls Tryz.prog 8 #[pA bd, .int .i64 id] w0 (Ret fun v w => v = .tuple #[snV (0, 0, ⟨#[]⟩, ⟨#[]⟩, ⟨none, 0, 0⟩, ⟨none, 0, 0⟩, ⟨none, 0, 0⟩, ⟨none, 0, 0⟩), .int .i64 11] ∧ St w0 [] w) := by
 refine enter Tryz.func8 rfl Tryz.ntmps8 rfl (fun a hk => ?_);have hS := St.refl w0
 (repeat' (first|((first|refine wx1 ?_|refine wx2 ?_ ?_<;>intro hp|refine s_end hk ?_)<;>(clear hk a;intro a hk))|((first|refine wx3 ?_;intro w b|refine wx4 ?_;intro w|refine wx5 ?_;intro w v);clear hk hS a;intro hS a hk)|refine wx0 ?_|fail))
 refine sg hk (g_callO hk (hf := by kernel_rfl) (hc := get5_none (bd := bd) (bm := bm) (bl := bl) (D := D) _ (hDR.mono hS.below) hn) (h := ?_));clear hk a;rintro _ w ⟨rfl, hS1⟩ a hk;replace hS := hS.call0 hS1;clear hS1
 (repeat' (first|((first|refine wx1 ?_|refine wx2 ?_ ?_<;>intro hp|refine s_end hk ?_)<;>(clear hk a;intro a hk))|((first|refine wx3 ?_;intro w b|refine wx4 ?_;intro w|refine wx5 ?_;intro w v);clear hk hS a;intro hS a hk)|refine wx0 ?_|fail))
 exact done2R hk rfl (.str hS (hT := aT rfl) (hs := zT rfl)) (.tmp rfl) (h := ⟨rfl, hS.nil⟩)
set_option maxHeartbeats 8000000 in
theorem read5_any {bd bm : Nat} {bl : Int → Nat} {D : DomP} (hW : WfD D) {K : Nat} (hb : Bnd K D) (hK : K ≤ 900) : ∀ (id : Int) (n : NodeP) (w0 : World), D.f id = some n → DomR bd D bm bl w0 →
  Calls Tryz.prog 8 #[pA bd, .int .i64 id] w0 (Ret fun v w => ∃ h, v = .tuple #[snV h, .int .i64 0] ∧ St w0 [streeR (trN D.f id) h] w) := by
 intro id
 induction hW.wf.accD id with
 | intro id _ ih =>
  intro n w0 hn hDR
  have hnb := hb.get hn
  have b4 := hnb.kids
  have htr := trN_some hW.wf.accD hn
  have hdown := hW.wf.down id n hn
  have hkd : ∀ k ∈ n.kids, kidOf D.f k id := fun k hk => ⟨n, hn, hk⟩
  have en : n.id = id := fnd_id hn
  rw [htr]
  clear htr hnb
  refine enter Tryz.func8 rfl Tryz.ntmps8 rfl (fun a hk => ?_);have hS := St.refl w0
  (repeat' (first|((first|refine wx1 ?_|refine wx2 ?_ ?_<;>intro hp|refine s_end hk ?_)<;>(clear hk a;intro a hk))|((first|refine wx3 ?_;intro w b|refine wx4 ?_;intro w|refine wx5 ?_;intro w v);clear hk hS a;intro hS a hk)|refine wx0 ?_|fail))
  rename Nat => b4r
  refine sg hk (g_callO hk (hf := by kernel_rfl) (hc := get5_some (bd := bd) (bm := bm) (bl := bl) (D := D) (n := n) _ (hDR.mono hS.below) hn hb hK) (h := ?_));clear hk a;rintro vr w ⟨⟨⟨a1, c1⟩, ⟨a2, c2⟩, ⟨a3, c3⟩, ⟨a4, c4⟩⟩, rfl, hS1⟩ a hk;replace hS := hS.call hS1;clear hS1
  simp only [ndO, List.cons_append, List.nil_append] at hS
  obtain ⟨nid, kind, tag, text, cls, att, sty, par, kids⟩ := n
  simp only at b4 hdown hkd en hS hk
  subst en
  simp only [nodC] at hk
  (repeat' (first|((first|refine wx1 ?_|refine wx2 ?_ ?_<;>intro hp|refine s_end hk ?_)<;>(clear hk a;intro a hk))|((first|refine wx3 ?_;intro w b|refine wx4 ?_;intro w|refine wx5 ?_;intro w v);clear hk hS a;intro hS a hk)|refine wx0 ?_|fail))
  rename Nat => b8
  replace hS := sforR.nil (hS.nilT 41 SnH)
  replace hk := Kn.kp [0, 4, 8, 37, 38, 39] hk
  have hS1 := hS.sub (L' := sforR [] [] :: OwT 41 ([] : List SnH) (.slice none 0 0) :: pts b8 [.int .i64 nid, .int .i64 kind, .string tag, .string text, .slice a1 cls.length c1, .slice a2 att.length c2, .slice a3 sty.length c3, .slice none 0 0] 41 :: OwT 9 cls (.slice a1 cls.length c1) :: OwT 98 att (.slice a2 att.length c2) :: OwT 100 sty (.slice a3 sty.length c3) :: OwT 3 kids (.slice a4 kids.length c4) :: pts b4r [.int .i64 0, .int .i64 0, .string ⟨#[]⟩, .string ⟨#[]⟩, .slice none 0 0, .slice none 0 0, .slice none 0 0, .slice none 0 0] 41 :: []) (.cons atx (.cons atx (.cons atx (.cons atx (.cons atx (.cons atx (.cons atx (.cons atx sbx))))))))
  clear hS
  have hS := hS1
  clear hS1
  refine wp_for kids.length (fun i _ => [(39, .int .i64 (i : Int))]) (fun i v => [sforR ((kids.take i).map (trN D.f)) (v.2 : List SnH), OwT 41 v.2 (.slice v.1.1 i v.1.2), pts b8 [.int .i64 nid, .int .i64 kind, .string tag, .string text, .slice a1 cls.length c1, .slice a2 att.length c2, .slice a3 sty.length c3, .slice v.1.1 i v.1.2] 41, OwT 9 cls (.slice a1 cls.length c1), OwT 98 att (.slice a2 att.length c2), OwT 100 sty (.slice a3 sty.length c3), OwT 3 kids (.slice a4 kids.length c4), pts b4r [.int .i64 0, .int .i64 0, .string ⟨#[]⟩, .string ⟨#[]⟩, .slice none 0 0, .slice none 0 0, .slice none 0 0, .slice none 0 0] 41]) (fun _ _ => True) (((none, 0), []) : (Option Addr × Nat) × List SnH) hk skx hS trivial ?_
  clear hk hS a
  rintro j ⟨⟨ak, ck⟩, H'⟩ a w hj hk hS -
  simp only at hS hk
  have hHl : H'.length = j := by
   have hFH := hS.soR .here
   rw [hFH.1, List.length_map, List.length_take];omega
  by_cases hjl : j < kids.length
  ·obtain ⟨k, hx⟩ : ∃ k, kids[j]? = some k := ⟨_, List.getElem?_eq_getElem hjl⟩
   have hmk := List.mem_of_getElem? hx
   obtain ⟨c, hc, -⟩ := hdown k hmk
   have hst : (kids.take (j + 1)).map (trN D.f) = (kids.take j).map (trN D.f) ++ [trN D.f k] := by rw [take_snoc hx, List.map_append];rfl
   (repeat' (first|((first|refine wx1 ?_|refine wx2 ?_ ?_<;>intro hp|refine s_end hk ?_)<;>(clear hk a;intro a hk))|((first|refine wx3 ?_;intro w b|refine wx4 ?_;intro w|refine wx5 ?_;intro w v);clear hk hS a;intro hS a hk)|refine wx0 ?_|fail))
   refine sg hk (g_callO hk (hf := by kernel_rfl) (hc := ih k (hkd k hmk) c _ hc (hDR.mono hS.below)) (h := ?_));clear hk a;rintro vr w ⟨⟨id2, k2, tag2, text2, ⟨x12, x22, x32⟩, ⟨y12, y22, y32⟩, ⟨z12, z22, z32⟩, ⟨u12, u22, u32⟩⟩, rfl, hS1⟩ a hk;replace hS := hS.call hS1;clear hS1
   rw [List.cons_append, List.nil_append] at hS
   (repeat' (first|((first|refine wx1 ?_|refine wx2 ?_ ?_<;>intro hp|refine s_end hk ?_)<;>(clear hk a;intro a hk))|((first|refine wx3 ?_;intro w b|refine wx4 ?_;intro w|refine wx5 ?_;intro w v);clear hk hS a;intro hS a hk)|refine wx0 ?_|fail))
   rename Nat => b11
   refine sg hk (g_bsT (xs := [((id2, k2, tag2, text2, ⟨x12, x22, x32⟩, ⟨y12, y22, y32⟩, ⟨z12, z22, z32⟩, ⟨u12, u22, u32⟩) : SnH)]) (m := 0) hk hS ?_ (hT := eT rfl) (hE := zT rfl) (hz := oT rfl));clear hk hS a;intro w v52 hS a hk
   (repeat' (first|((first|refine wx1 ?_|refine wx2 ?_ ?_<;>intro hp|refine s_end hk ?_)<;>(clear hk a;intro a hk))|((first|refine wx3 ?_;intro w b|refine wx4 ?_;intro w|refine wx5 ?_;intro w v);clear hk hS a;intro hS a hk)|refine wx0 ?_|fail))
   rename Value => vn
   obtain ⟨aovn, cvn, hshp, _⟩ := (OwT.rd (hS.rd (A := OwT 41 _ vn) atx)).shape;subst hshp
   have hl1 : (H' ++ [((id2, k2, tag2, text2, ⟨x12, x22, x32⟩, ⟨y12, y22, y32⟩, ⟨z12, z22, z32⟩, ⟨u12, u22, u32⟩) : SnH)]).length = j + 1 := by rw [List.length_append, hHl];rfl
   rw [hl1] at hS hk
   (repeat' (first|((first|refine wx1 ?_|refine wx2 ?_ ?_<;>intro hp|refine s_end hk ?_)<;>(clear hk a;intro a hk))|((first|refine wx3 ?_;intro w b|refine wx4 ?_;intro w|refine wx5 ?_;intro w v);clear hk hS a;intro hS a hk)|refine wx0 ?_|fail))
   have hS1 := sforR.snoc (L := [OwT 41 (H' ++ [((id2, k2, tag2, text2, ⟨x12, x22, x32⟩, ⟨y12, y22, y32⟩, ⟨z12, z22, z32⟩, ⟨u12, u22, u32⟩) : SnH)]) (.slice aovn (j + 1) cvn), pts b8 [.int .i64 nid, .int .i64 kind, .string tag, .string text, .slice a1 cls.length c1, .slice a2 att.length c2, .slice a3 sty.length c3, .slice aovn (j + 1) cvn] 41, OwT 9 cls (.slice a1 cls.length c1), OwT 98 att (.slice a2 att.length c2), OwT 100 sty (.slice a3 sty.length c3), OwT 3 kids (.slice a4 kids.length c4), pts b4r [.int .i64 0, .int .i64 0, .string ⟨#[]⟩, .string ⟨#[]⟩, .slice none 0 0, .slice none 0 0, .slice none 0 0, .slice none 0 0] 41]) (ts := (kids.take j).map (trN D.f)) (H := H') (t := trN D.f k) (h := (id2, k2, tag2, text2, ⟨x12, x22, x32⟩, ⟨y12, y22, y32⟩, ⟨z12, z22, z32⟩, ⟨u12, u22, u32⟩)) (hS.sub (.cons atx (.cons atx (.cons atx (.cons atx (.cons atx (.cons atx (.cons atx (.cons atx (.cons atx sbx))))))))))
   rw [← hst] at hS1
   exact ⟨hjl, ((aovn, cvn), H' ++ [(id2, k2, tag2, text2, ⟨x12, x22, x32⟩, ⟨y12, y22, y32⟩, ⟨z12, z22, z32⟩, ⟨u12, u22, u32⟩)]), hk.sd, hS1, trivial⟩
  ·have hjj : j = kids.length := by omega
   subst hjj
   rw [List.take_length] at hS
   (repeat' (first|((first|refine wx1 ?_|refine wx2 ?_ ?_<;>intro hp|refine s_end hk ?_)<;>(clear hk a;intro a hk))|((first|refine wx3 ?_;intro w b|refine wx4 ?_;intro w|refine wx5 ?_;intro w v);clear hk hS a;intro hS a hk)|refine wx0 ?_|fail))
   refine done2R hk rfl (.str hS (hT := aT rfl) (hs := zT rfl)) (.tmp rfl) (h := ⟨(nid, kind, tag, text, ⟨a1, cls.length, c1⟩, ⟨a2, att.length, c2⟩, ⟨a3, sty.length, c3⟩, ⟨ak, kids.length, ck⟩), rfl, ?_⟩)
   exact streeR.of (A1 := OwT 9 cls (.slice a1 cls.length c1)) (A2 := OwT 98 att (.slice a2 att.length c2)) (A3 := OwT 100 sty (.slice a3 sty.length c3)) (A4 := OwT 41 H' (.slice ak kids.length ck)) (hS.sub (.cons atx (.cons atx (.cons atx (.cons atx (.cons atx sbx))))))
end Go.Proofs.YtgklceoodpocaaaGreatDoor
