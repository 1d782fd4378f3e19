/- Layer 5: nodes are changed. Layer 5: a node, and all below it, are told, and removed. Layer 5: a node is removed. Nodes with nodes within, as they lie in memory. What is shown, as a tree, as it lies in memory. Layer 9, plain: what nodes are, with all below them, as a tree. Layers 5 and 9: a Dom is made; what nodes are, with all below them, is read. Layer 6: what was done with nodes. Layer 22: the kids of a node come to be as they are wanted. -/
import Derived.Test.YtbpkddpkcnlmhaaGreatF12
import Derived.Test.YtbpkddpkcnlmhaaGreatF13
import Derived.Test.YtbpkddpkcnlmhaaGreatF08
import Derived.Test.YtbpkddpkcnlmhaaGreatF10
import Derived.Test.YtbpkddpkcnlmhaaGreatF11
set_option linter.all false
namespace Go.Proofs.YtbpkddpkcnlmhaaGreat
open Go.RowKit
set_option maxRecDepth 100000
attribute [local irreducible] Go.Code.wpIn Go.wpListIn Go.Calls Gives Go.Exit.then Go.Exit.inBlock Done ObxE
def getS (l : List PrS) (k : ByteArray) : ByteArray := ((lastF nmS l k).getD (k, (⟨#[]⟩ : ByteArray))).2
def getI (l : List PrI) (k : ByteArray) : Int := ((lastF nmI l k).getD (k, (0 : Int))).2
theorem getI_any (l : List PrI) (k : ByteArray) (v : Value) (w0 : World) (hv : SlT l v w0) (hl : l.length ≤ 1000) :
  Calls Tryz.prog 111 #[v, .string k] w0 (Ret fun v w => v = .tuple #[.int .i64 (getI l k), .bool (lastF nmI l k).isSome] ∧ St w0 [] w) := by
 have hsl := snap_len nmI l
 have hsr := snap_rises nmI l
 unfold getI
 rw [← snap_last_eq nmI l k]
 refine enter Tryz.func111 rfl Tryz.ntmps111 rfl (fun a hk => ?_);have hS := St.refl w0
 (repeat' (first|((first|refine wx1 ?_|refine wx2 ?_ ?_<;>intro hp|refine s_end hk ?_)<;>(clear hk a;intro a hk))|((first|refine wx3 ?_;intro w b|refine wx4 ?_;intro w|refine wx5 ?_;intro w v);clear hk hS a;intro hS a hk)|refine wx0 ?_|fail))
 refine sg hk (g_callO hk (hf := by kernel_rfl) (hc := ofI_any l v _ (hS.rdT hv) hl) (h := ?_));clear hk a;rintro vs w hS1 a hk;replace hS := hS.call hS1;clear hS1
 generalize snapF nmI l = S at *
 (repeat' (first|((first|refine wx1 ?_|refine wx2 ?_ ?_<;>intro hp|refine s_end hk ?_)<;>(clear hk a;intro a hk))|((first|refine wx3 ?_;intro w b|refine wx4 ?_;intro w|refine wx5 ?_;intro w v);clear hk hS a;intro hS a hk)|refine wx0 ?_|fail))
 refine sg hk (g_callO hk (hf := by kernel_rfl) (hc := whereI_any S k vs _ (by first | exact St.rdT hS (by assumption) | exact OwT.rd (hS.rd (A := OwT _ _ _) atx) | assumption) (by omega) hsr) (h := ?_));clear hk a;rintro vr w ⟨n, f, rfl, hF, hS1⟩ a hk;replace hS := hS.call hS1;clear hS1
 have hlast := found_last nmI hsr hF
 cases f with
 | true =>
  obtain ⟨hn, _⟩ := hF.2.2.2.1 rfl
  rw [if_pos rfl, List.getElem?_eq_getElem hn] at hlast
  rw [hlast]
  (repeat' (first|((first|refine wx1 ?_|refine wx2 ?_ ?_<;>intro hp|refine s_end hk ?_)<;>(clear hk a;intro a hk))|((first|refine wx3 ?_;intro w b|refine wx4 ?_;intro w|refine wx5 ?_;intro w v);clear hk hS a;intro hS a hk)|refine wx0 ?_|fail))
  exact done2 hk (h := ⟨rfl, hS.nil⟩)
 | false =>
  rw [if_neg (by decide)] at hlast
  rw [hlast]
  (repeat' (first|((first|refine wx1 ?_|refine wx2 ?_ ?_<;>intro hp|refine s_end hk ?_)<;>(clear hk a;intro a hk))|((first|refine wx3 ?_;intro w b|refine wx4 ?_;intro w|refine wx5 ?_;intro w v);clear hk hS a;intro hS a hk)|refine wx0 ?_|fail))
  exact done2 hk (h := ⟨rfl, hS.nil⟩)
def dropS (l : List PrS) (k : ByteArray) : List PrS := (snapF nmS l).filter (fun x => !decide (x.1 = k))
def dropI (l : List PrI) (k : ByteArray) : List PrI := (snapF nmI l).filter (fun x => !decide (x.1 = k))
section
variable {D : DomP} {kind id num : Int} {name v : ByteArray} {n n' : NodeP}
theorem setP_some (hn : D.f id = some n) (h : ownP D id (kndC kind) name = 0) (hc : chgP kind n name v num = some n') : setP D kind id name v num = ({ D with l := putP D.l n' }, 0) := by
 rw [setP_is hn h, hc]
end
section
variable {B : Bs} {w : World} {L : List HP} {bd : Nat} {D : DomP} {K : Nat}
set_option maxHeartbeats 4000000 in
theorem setStyle_any (id : Int) (name v : ByteArray) (num : Int) (hW : WfD D) (hb : Bnd K D) (hK : K ≤ 800) (hl : name.size ≤ 1000000) (hS : St B (domH bd D :: L) w) :
  Calls Tryz.prog 24 #[pA bd, .int .i64 id, .string name, .int .i64 num] w (Ret fun r w' => r = .int .i64 (setP D 4 id name v num).2 ∧ St B (domH bd (setP D 4 id name v num).1 :: L) w') := by
 obtain ⟨bm, bl, hS1⟩ := hS.dom (bd := bd) (D := D) .here
 clear hS
 have hS := hS1
 clear hS1
 refine enter Tryz.func24 rfl Tryz.ntmps24 rfl (fun a hk => ?_)
 (repeat' (first|((first|refine wx1 ?_|refine wx2 ?_ ?_<;>intro hp|refine s_end hk ?_)<;>(clear hk a;intro a hk))|((first|refine wx3 ?_;intro w b|refine wx4 ?_;intro w|refine wx5 ?_;intro w v);clear hk hS a;intro hS a hk)|refine wx0 ?_|fail))
 refine sg hk (g_callO hk (hf := by kernel_rfl) (hc := own5_any (bd := bd) (bm := bm) (bl := bl) (D := D) id 2 name hl _ ⟨hS.rd .here, hS.rd (.there .here), hS.rd (.there (.there .here))⟩) (h := ?_));clear hk a;rintro _ w ⟨rfl, hS1⟩ a hk;replace hS := hS.call0 hS1;clear hS1
 by_cases h0 : ownP D id 2 name = 0
 ·obtain ⟨n, hn, -⟩ := own_zero h0
  rw [h0, if_pos rfl] at hk
  have hnb := hb.get hn
  have b1 := hnb.cls
  have b2 := hnb.att
  have b3 := hnb.sty
  have r2 := hnb.ra
  have r3 := hnb.rs
  clear hnb
  have hS1 := hS.outD hW.uni hn
  clear hS
  obtain ⟨a1, c1, a2, c2, a3, c3, a4, c4, hS⟩ := hS1.nod (b := bl id) (n := n) .here
  clear hS1
  simp only [nodeL, nodC, domO, domC5, List.cons_append, List.nil_append] at hS
  (repeat' (first|((first|refine wx1 ?_|refine wx2 ?_ ?_<;>intro hp|refine s_end hk ?_)<;>(clear hk a;intro a hk))|((first|refine wx3 ?_;intro w b|refine wx4 ?_;intro w|refine wx5 ?_;intro w v);clear hk hS a;intro hS a hk)|refine wx0 ?_|fail))
  refine wp_drawn 9 mixed (by kernel_rfl) hk hS ?_;clear hk hS a
  (repeat' (first|(show ObxE _ _ _ _ _ _ _ _ _ (_::_) _ _ _;first|refine ox1 ?_|refine ox2 ?_ ?_<;>intro hp)|fail))
  refine' obe_val (fun us a w hk hd hS => ?_) ?_;rotate_left;focus (have hk := Kn.vw hk vwx;exact g_callO hk (hf := by kernel_rfl) (hc := sat_any num _) (h := fun _ _ h => h))
  refine' obe_res (fun us a w hk hd hS => ?_) ?_;rotate_left;focus (have hk := Kn.vw hk vwx;exact g_callO hk (hf := by kernel_rfl) (hc := setI_any n.sty name (satF num) _ _ (by first | exact St.rdT hS (by assumption) | exact OwT.rd (hS.rd (A := OwT _ _ _) atx) | assumption) (by omega)) (h := fun _ _ h => h))
  refine obe_nil ⟨rfl, ?_⟩;intro us a w hk hS
  simp only [resE, List.cons_append, List.nil_append, Nat.zero_add, Nat.reduceAdd] at hS
  replace hk := Kn.kp [10, 20, 28] hk
  simp only [HV.of, Nat.zero_add, Nat.reduceAdd] at hk
  generalize us 8 = vn at hS hk
  rw [snap_of_rises nmI r3] at hS
  obtain ⟨aovn, cvn, hshp, _⟩ := (OwT.rd (hS.rd (A := OwT 124 _ vn) atx)).shape;subst hshp
  (repeat' (first|((first|refine wx1 ?_|refine wx2 ?_ ?_<;>intro hp|refine s_end hk ?_)<;>(clear hk a;intro a hk))|((first|refine wx3 ?_;intro w b|refine wx4 ?_;intro w|refine wx5 ?_;intro w v);clear hk hS a;intro hS a hk)|refine wx0 ?_|fail))
  rw [setP_some (kind := 4) (n' := { n with sty := putF nmI n.sty (name, satF num) }) hn h0 (by simp [chgP])]
  refine done1 hk (h := ⟨rfl, ?_⟩)
  refine domH.put' (bm := bm) (bl := bl) (n' := { n with sty := putF nmI n.sty (name, satF num) }) hW.uni hn (show n.id = id from fnd_id hn) (nodH.of (y := ((a1, c1), (a2, c2), (aovn, cvn), (a4, c4))) (L := domO bd D bm bl id ++ L) ?_)
  simp only [nodeL, nodC, domO, domC5, List.cons_append, List.nil_append]
  exact hS.sub (.cons atx (.cons atx (.cons atx (.cons atx (.cons atx (.cons atx (.cons atx (.cons atx (by repeat (first | exact Sub.refl | apply Sub.under))))))))))
 ·rw [setP_no (kind := 4) h0]
  rw [if_neg h0] at hk
  (repeat' (first|((first|refine wx1 ?_|refine wx2 ?_ ?_<;>intro hp|refine s_end hk ?_)<;>(clear hk a;intro a hk))|((first|refine wx3 ?_;intro w b|refine wx4 ?_;intro w|refine wx5 ?_;intro w v);clear hk hS a;intro hS a hk)|refine wx0 ?_|fail))
  exact done1 hk (h := ⟨rfl, domH.of hS⟩)
end
end Go.Proofs.YtbpkddpkcnlmhaaGreat
namespace Go.Proofs.YtbpkddpkcnlmhaaGreat
open Go.RowKit
set_option maxRecDepth 100000
attribute [local irreducible] Go.Code.wpIn Go.wpListIn Go.Calls Gives Go.Exit.then Go.Exit.inBlock Done ObxE
def nodX (b : Nat) (n : NodeP) (y : NoA) : HP := bagH (fun _ : Unit => nodeL b n y) (fun _ => True)
def ndsY (bl : Int → Nat) (yy : Int → NoA) (l : List NodeP) : HP := bagH (fun _ : Unit => l.map (fun n => nodX (bl n.id) n (yy n.id))) (fun _ => True)
section
variable {B : Bs} {w : World} {L : List HP} {bl : Int → Nat} {l : List NodeP}
end
abbrev outL (bo : Nat) (acc : List Int) (y : Option Addr × Nat) : List HP := [pts bo [.slice y.1 acc.length y.2] 22, OwT 3 acc (.slice y.1 acc.length y.2)]
def outH (bo : Nat) (acc : List Int) : HP := bagH (fun y : Option Addr × Nat => outL bo acc y) (fun _ => True)
section
variable {B : Bs} {w : World} {L L' : List HP}
end
structure DomY (bd : Nat) (D : DomP) (bm : Nat) (bl : Int → Nat) (yy : Int → NoA) (w : World) : Prop where
 d : (pts bd (domC5 D bm) 55).rd w
 m : (mapH encI (.map (some bm)) (mapL bl D.l)).rd w
 n : (ndsY bl yy D.l).rd w
end Go.Proofs.YtbpkddpkcnlmhaaGreat
namespace Go.Proofs.YtbpkddpkcnlmhaaGreat
open Go.RowKit
set_option maxRecDepth 100000
attribute [local irreducible] Go.Code.wpIn Go.wpListIn Go.Calls Gives Go.Exit.then Go.Exit.inBlock Done ObxE
section
variable {B : Bs} {w : World} {L : List HP} {bd : Nat} {D : DomP} {K : Nat}
end
end Go.Proofs.YtbpkddpkcnlmhaaGreat
namespace Go.Proofs.YtbpkddpkcnlmhaaGreat
open Go.RowKit
abbrev Opt := Int × Int × Int × Int × Bool × Bool
inductive Tree where
 | mk (k : Int) (tag key text : ByteArray) (cl : List ByteArray) (at_ : List (ByteArray × ByteArray)) (st : List (ByteArray × Int)) (o : Opt) (kids : List Tree)
abbrev NdH := Int × ByteArray × ByteArray × ByteArray × Hd × Hd × Hd × Opt × Hd
abbrev ndV (h : NdH) : Value := .agg (Enc.f h).toArray
inductive TrR (w : World) : Tree → NdH → Prop
 | mk {k : Int} {tag key text : ByteArray} {cl : List ByteArray} {at_ : List (ByteArray × ByteArray)} {st : List (ByteArray × Int)} {o : Opt} {kids : List Tree} {hc ha hs hk : Hd} {H : List NdH}
  (h1 : SlT cl hc.v w) (h2 : SlT at_ ha.v w) (h3 : SlT st hs.v w) (h4 : SlT H hk.v w) (hl : H.length = kids.length)
  (hr : ∀ (i : Nat) (t : Tree) (h : NdH), kids[i]? = some t → H[i]? = some h → TrR w t h) : TrR w (.mk k tag key text cl at_ st o kids) (k, tag, key, text, hc, ha, hs, o, hk)
def FoR (w : World) (ts : List Tree) (H : List NdH) : Prop := H.length = ts.length ∧ ∀ (i : Nat) (t : Tree) (h : NdH), ts[i]? = some t → H[i]? = some h → TrR w t h
def appH {α : Type} [Enc α] (E : TypeId) (ys : List α) : Value → HP := match ys with
 | [] => emp0
 | y :: r => OwT E (y :: r)
theorem appH.rd {α : Type} [Enc α] {E : TypeId} {ys : List α} {v : Value} {w : World} (h : (appH E ys v).rd w) : SlT ys v w := by
 cases ys with
 | cons y r => exact OwT.rd h
 | nil =>
  obtain ⟨ao, rfl⟩ := emp0.get h
  refine ⟨by simp [enc], by simp [maxLen], ?_⟩
  cases ao with
  | none => exact .inl ⟨rfl, rfl⟩
  | some a => exact .inr ⟨a, 0, rfl, by simp, by simp [maxLen], fun j u hj => by simp [enc] at hj⟩
section
variable {df : List Deferred} {P : Program} {a : Act} {w : World} {n : Nat} {l : List (Nat × Value)} {dst : Option Nat} {ty : TypeId} {pos : String} {af : Array Edge} {g : Option (Nat × Bool)} {α : Type} [Enc α]
theorem v_appR {x y : Operand} {t tx : TypeId} {E E' : Nat} {v y0 z : Value} {ys : List α} (hk : Kn df n a l) (hv : (emp0 v).rd w)
  (hT : elOf P t = some E) (hTx : elOf P tx = some E') (hE : szOf P E = some (Enc.k α + 1)) (hz : zeroOf P E = some z) (hzs : z.cells.size = Enc.k α + 1) (hs : SlT ys y0 w) {by_ : Nat} (hby : ((P.info? E).map (·.bytes)).getD 0 = by_) (hbytes : ys.length * by_ ≤ 140737488355328) (h63 : ys.length ≤ maxLen)
  (hx : ev l x = some v := by rfl) (hy : ev l y = some y0 := by rfl) :
  Gives P ⟨dst, .call { callee := .builtin .append, args := #[x, y], argTypes := #[t, tx] }, ty, pos, af, g⟩ a w (fun v' w' => St w [appH E ys v'] w') := by
 cases ys with
 | cons u r => exact v_app0 (ys := u :: r) hk hv (by simp) hT hTx hE hz hzs hs hby hbytes h63 hx hy
 | nil =>
  have hv' : SlT ([] : List α) v w := appH.rd (E := E) hv
  refine (v_appN (α := α) hk hv' hT hTx hE hz hs hx hy).mono ?_
  rintro v' w' ⟨rfl, hS⟩
  obtain ⟨ao, rfl⟩ := emp0.get hv
  obtain ⟨F, hF, _⟩ := hS.own
  exact ⟨hS.below, hS.frz, F, hF, fun _ => False, F, fun _ h => h.elim, fun _ h => h, fun _ h _ => h, ⟨fun _ h => h, ao, rfl⟩, trivial⟩
theorem v_app2 {w0 : Bs} {X : List HP} {x y : Operand} {t tx : TypeId} {E E' : Nat} {v y0 z : Value} {xs ys : List α} (hk : Kn df n a l) (hS : St w0 (appH E xs v :: X) w)
  (hT : elOf P t = some E) (hTx : elOf P tx = some E') (hE : szOf P E = some (Enc.k α + 1)) (hz : zeroOf P E = some z) (hzs : z.cells.size = Enc.k α + 1) (hs : SlT ys y0 w) {by_ : Nat} (hby : ((P.info? E).map (·.bytes)).getD 0 = by_) (hbytes : (xs.length + ys.length) * by_ ≤ 140737488355328) (h63 : xs.length + ys.length ≤ maxLen)
  (hx : ev l x = some v := by rfl) (hy : ev l y = some y0 := by rfl) :
  Gives P ⟨dst, .call { callee := .builtin .append, args := #[x, y], argTypes := #[t, tx] }, ty, pos, af, g⟩ a w (fun v' w' => St w0 (appH E (xs ++ ys) v' :: X) w') := by
 cases xs with
 | cons u r => exact v_app hk hS hx hy hT hTx hs hE hz hzs hby hbytes h63
 | nil =>
  rw [List.length_nil, Nat.zero_add] at hbytes h63
  refine (v_appR (ys := ys) hk (hS.rd .here) hT hTx hE hz hzs hs hby hbytes h63 hx hy).mono ?_
  intro v' w' hS'
  exact (hS.call hS').sub (.cons .here .cons_drop)
end
abbrev treeR (t : Tree) (h : NdH) : HP := rdH (fun w => TrR w t h)
abbrev forR (ts : List Tree) (H : List NdH) : HP := rdH (fun w => FoR w ts H)
def treeH (t : Tree) (v : Value) : HP := bagH (fun h : NdH => [treeR t h]) (fun h => v = ndV h)
section
variable {B : Bs} {w : World} {L L' : List HP}
abbrev forR2 (ts us : List Tree) (H K : List NdH) : HP := rdH (fun w => FoR w ts H ∧ FoR w us K)
end
instance : Inhabited Hd := ⟨⟨none, 0, 0⟩⟩
open Classical in
noncomputable def ndOf (v : Value) : NdH := if h : ∃ x, v = ndV x then Classical.choose h else default
theorem hdv_inj {a b : Hd} (h : a.v = b.v) : a = b := by
 cases a;cases b
 simp only [Hd.v, Value.slice.injEq] at h
 obtain ⟨rfl, rfl, rfl⟩ := h
 rfl
theorem SlT.hd {α : Type} [Enc α] {xs : List α} {h : Hd} {w : World} (hs : SlT xs h.v w) : ∃ a m, h = ⟨a, xs.length, m⟩ := by
 obtain ⟨a, m, e, _⟩ := hs.shape
 exact ⟨a, m, hdv_inj e⟩
def Tree.kids : Tree → List Tree
 | .mk _ _ _ _ _ _ _ _ ks => ks
inductive Fits : Tree → Prop
 | mk {k : Int} {tag key text : ByteArray} {cl : List ByteArray} {at_ : List (ByteArray × ByteArray)} {st : List (ByteArray × Int)} {o : Opt} {kids : List Tree}
  (h1 : cl.length ≤ 100) (h2 : at_.length ≤ 100) (h3 : st.length ≤ 100) (h4 : kids.length ≤ 1000) (h5 : ∀ t ∈ kids, Fits t) : Fits (.mk k tag key text cl at_ st o kids)
end Go.Proofs.YtbpkddpkcnlmhaaGreat
namespace Go.Proofs.YtbpkddpkcnlmhaaGreat
open Go.RowKit
inductive STree where
 | mk (id k : Int) (tag text : ByteArray) (cl : List ByteArray) (at_ : List (ByteArray × ByteArray)) (st : List (ByteArray × Int)) (kids : List STree)
abbrev SnH := Int × Int × ByteArray × ByteArray × Hd × Hd × Hd × Hd
abbrev snV (h : SnH) : Value := .agg (Enc.f h).toArray
inductive SrR (w : World) : STree → SnH → Prop
 | mk {id k : Int} {tag text : ByteArray} {cl : List ByteArray} {at_ : List (ByteArray × ByteArray)} {st : List (ByteArray × Int)} {kids : List STree} {hc ha hs hk : Hd} {H : List SnH}
  (h1 : SlT cl hc.v w) (h2 : SlT at_ ha.v w) (h3 : SlT st hs.v w) (h4 : SlT H hk.v w) (hl : H.length = kids.length)
  (hr : ∀ (i : Nat) (t : STree) (h : SnH), kids[i]? = some t → H[i]? = some h → SrR w t h) : SrR w (.mk id k tag text cl at_ st kids) (id, k, tag, text, hc, ha, hs, hk)
theorem SrR.frz {w w' : World} {t : STree} {h : SnH} (hr : SrR w t h) (hf : Frz w w') : SrR w' t h := by
 induction hr with
 | mk h1 h2 h3 h4 hl _ ih => exact .mk (h1.frz hf) (h2.frz hf) (h3.frz hf) (h4.frz hf) hl ih
theorem SrR.stays (t : STree) (h : SnH) : Stays (fun w => SrR w t h) := fun _ _ hf hr => hr.frz hf
def SoR (w : World) (ts : List STree) (H : List SnH) : Prop := H.length = ts.length ∧ ∀ (i : Nat) (t : STree) (h : SnH), ts[i]? = some t → H[i]? = some h → SrR w t h
theorem SoR.frz {w w' : World} {ts : List STree} {H : List SnH} (hr : SoR w ts H) (hf : Frz w w') : SoR w' ts H := ⟨hr.1, fun i t h h1 h2 => (hr.2 i t h h1 h2).frz hf⟩
theorem SoR.stays (ts : List STree) (H : List SnH) : Stays (fun w => SoR w ts H) := fun _ _ hf hr => hr.frz hf
theorem SoR.nil (w : World) : SoR w [] [] := ⟨rfl, fun i t h h1 _ => by simp at h1⟩
theorem SoR.snoc {w : World} {ts : List STree} {H : List SnH} {t : STree} {h : SnH} (hF : SoR w ts H) (hT : SrR w t h) : SoR w (ts ++ [t]) (H ++ [h]) := by
 refine ⟨by simp [hF.1], fun i t' h' h1 h2 => ?_⟩
 rcases Nat.lt_or_ge i ts.length with hi | hi
 ·rw [List.getElem?_append_left hi] at h1
  rw [List.getElem?_append_left (by rw [hF.1];exact hi)] at h2
  exact hF.2 i t' h' h1 h2
 ·rw [List.getElem?_append_right hi] at h1
  rw [List.getElem?_append_right (by rw [hF.1];exact hi), hF.1] at h2
  cases hj : i - ts.length with
  | zero =>
   rw [hj] at h1 h2
   simp at h1 h2
   subst h1 h2
   exact hT
  | succ j => rw [hj] at h1;simp at h1
abbrev streeR (t : STree) (h : SnH) : HP := rdH (fun w => SrR w t h)
abbrev sforR (ts : List STree) (H : List SnH) : HP := rdH (fun w => SoR w ts H)
def streeH (t : STree) (v : Value) : HP := bagH (fun h : SnH => [streeR t h]) (fun h => v = snV h)
section
variable {B : Bs} {w : World} {L L' : List HP}
theorem streeR.of {id k : Int} {tag text : ByteArray} {cl : List ByteArray} {at_ : List (ByteArray × ByteArray)} {st : List (ByteArray × Int)} {kids : List STree} {hc ha hs hk : Hd} {H : List SnH} {A1 A2 A3 A4 : HP}
  (h : St B (A1 :: A2 :: A3 :: A4 :: sforR kids H :: L) w) (h1 : ∀ g, A1.rd g → SlT cl hc.v g := by exact fun g h => by first | exact OwT.rd h | exact appH.rd h) (h2 : ∀ g, A2.rd g → SlT at_ ha.v g := by exact fun g h => OwT.rd h)
  (h3 : ∀ g, A3.rd g → SlT st hs.v g := by exact fun g h => OwT.rd h) (h4 : ∀ g, A4.rd g → SlT H hk.v g := by exact fun g h => OwT.rd h) : St B (streeR (.mk id k tag text cl at_ st kids) (id, k, tag, text, hc, ha, hs, hk) :: L) w := by
 refine rdH.of (L1 := [A1, A2, A3, A4, sforR kids H]) h fun g hg => ?_
 have hF : SoR g kids H := rdH.rd (SoR.stays kids H) (hg _ (by simp))
 exact .mk (h1 g (hg A1 (by simp))) (h2 g (hg A2 (by simp))) (h3 g (hg A3 (by simp))) (h4 g (hg A4 (by simp))) hF.1 hF.2
theorem St.srR {t : STree} {h : SnH} (hS : St B L w) (hat : At (streeR t h) L L') : SrR w t h := rdH.rd (SrR.stays t h) (hS.rd hat)
theorem St.soR {ts : List STree} {H : List SnH} (hS : St B L w) (hat : At (sforR ts H) L L') : SoR w ts H := rdH.rd (SoR.stays ts H) (hS.rd hat)
theorem sforR.nil (hS : St B L w) : St B (sforR [] [] :: L) w := rdH.of (L1 := []) hS fun g _ => SoR.nil g
theorem sforR.snoc {ts : List STree} {H : List SnH} {t : STree} {h : SnH} (hS : St B (streeR t h :: sforR ts H :: L) w) : St B (sforR (ts ++ [t]) (H ++ [h]) :: L) w :=
 rdH.of (L1 := [streeR t h, sforR ts H]) hS fun g hg => (rdH.rd (SoR.stays ts H) (hg _ (by simp))).snoc (rdH.rd (SrR.stays t h) (hg _ (by simp)))
abbrev sforR2 (ts us : List STree) (H K : List SnH) : HP := rdH (fun w => SoR w ts H ∧ SoR w us K)
theorem St.rdSr {t : STree} {h : SnH} (hS : St B L w) (hr : SrR B.g t h) : SrR w t h := hr.frz hS.frz
end
open Classical in
noncomputable def snOf (v : Value) : SnH := if h : ∃ x, v = snV x then Classical.choose h else default
theorem SrR.split {w : World} {t : STree} {h : SnH} (hr : SrR w t h) : ∃ id k tag text cl al sl kids a1 m1 a2 m2 a3 m3 a4 m4, ∃ H : List SnH, t = .mk id k tag text cl al sl kids ∧
  h = (id, k, tag, text, ⟨a1, cl.length, m1⟩, ⟨a2, al.length, m2⟩, ⟨a3, sl.length, m3⟩, ⟨a4, H.length, m4⟩) ∧
  SlT cl (.slice a1 cl.length m1) w ∧ SlT al (.slice a2 al.length m2) w ∧ SlT sl (.slice a3 sl.length m3) w ∧ SlT H (.slice a4 H.length m4) w ∧ SoR w kids H := by
 obtain ⟨c1, c2, c3, c4, hl, hkr⟩ := hr
 rename_i id k tag text cl al sl kids hc ha hs hk0 H
 obtain ⟨a1, m1, rfl⟩ := c1.hd
 obtain ⟨a2, m2, rfl⟩ := c2.hd
 obtain ⟨a3, m3, rfl⟩ := c3.hd
 obtain ⟨a4, m4, rfl⟩ := c4.hd
 exact ⟨id, k, tag, text, cl, al, sl, kids, a1, m1, a2, m2, a3, m3, a4, m4, H, rfl, rfl, c1, c2, c3, c4, hl, hkr⟩
def STree.kids : STree → List STree
 | .mk _ _ _ _ _ _ _ ks => ks
theorem skid_lt {id k : Int} {tag text : ByteArray} {cl : List ByteArray} {at_ : List (ByteArray × ByteArray)} {st : List (ByteArray × Int)} {kids : List STree} {t : STree} (h : t ∈ kids) : SizeOf.sizeOf t < SizeOf.sizeOf (STree.mk id k tag text cl at_ st kids) := by
 have := List.sizeOf_lt_of_mem h
 simp only [STree.mk.sizeOf_spec]
 omega
inductive SFits : STree → Prop
 | mk {id k : Int} {tag text : ByteArray} {cl : List ByteArray} {at_ : List (ByteArray × ByteArray)} {st : List (ByteArray × Int)} {kids : List STree}
  (h1 : cl.length ≤ 100) (h2 : at_.length ≤ 100) (h3 : st.length ≤ 100) (h4 : kids.length ≤ 1000) (h5 : ∀ t ∈ kids, SFits t) : SFits (.mk id k tag text cl at_ st kids)
end Go.Proofs.YtbpkddpkcnlmhaaGreat
namespace Go.Proofs.YtbpkddpkcnlmhaaGreat
abbrev zS : STree := .mk 0 0 ⟨#[]⟩ ⟨#[]⟩ [] [] [] []
noncomputable def trN (f : Nds) : Int → STree := foldD (fun n r => .mk n.id n.kind n.tag n.text n.cls n.att n.sty r) zS f
theorem trN_some {f : Nds} (hw : ∀ id, _root_.Acc (kidOf f) id) {id : Int} {n : NodeP} (h : f id = some n) : trN f id = .mk n.id n.kind n.tag n.text n.cls n.att n.sty (n.kids.map (trN f)) := fold_some hw h
theorem trN_none {f : Nds} {id : Int} (h : f id = none) : trN f id = zS := fold_none h
theorem trN_fits {D : DomP} (h : WfD D) (hb : Bnd 100 D) (id : Int) : SFits (trN D.f id) := by
 induction h.wf.accD id with
 | intro id _ ih =>
  cases hn : D.f id with
  | none => rw [trN_none hn];exact .mk (by simp) (by simp) (by simp) (by simp) (by simp)
  | some n =>
   rw [trN_some h.wf.accD hn]
   have b := hb.get hn
   refine .mk b.cls b.att b.sty (by rw [List.length_map];have := b.kids;omega) fun t ht => ?_
   obtain ⟨k, hk, rfl⟩ := List.mem_map.1 ht
   exact ih k ⟨n, hn, hk⟩
end Go.Proofs.YtbpkddpkcnlmhaaGreat
namespace Go.Proofs.YtbpkddpkcnlmhaaGreat
open Go.RowKit
set_option maxRecDepth 100000
attribute [local irreducible] Go.Code.wpIn Go.wpListIn Go.Calls Gives Go.Exit.then Go.Exit.inBlock Done ObxE
theorem clip5_any (x lo hi : Int) (w0 : World) : Calls Tryz.prog 19 #[.int .i64 x, .int .i64 lo, .int .i64 hi] w0 (Ret fun v w => v = .int .i64 (max lo (min x hi)) ∧ St w0 [] w) := by
 refine enter Tryz.func19 rfl Tryz.ntmps19 rfl (fun a hk => ?_);have hS := St.refl w0
 (repeat' (first|((first|refine wx1 ?_|refine wx2 ?_ ?_<;>intro hp|refine s_end hk ?_)<;>(clear hk a;intro a hk))|((first|refine wx3 ?_;intro w b|refine wx4 ?_;intro w|refine wx5 ?_;intro w v);clear hk hS a;intro hS a hk)|refine wx0 ?_|fail))
 exact done1 hk (h := ⟨rfl, hS.nil⟩)
theorem new5_any (most : Int) (w0 : World) : Calls Tryz.prog 5 #[.int .i64 most] w0 (Ret fun v w => ∃ bd, v = pA bd ∧ St w0 [domH bd (newP most)] w) := by
 refine enter Tryz.func5 rfl Tryz.ntmps5 rfl (fun a hk => ?_);have hS := St.refl w0
 (repeat' (first|((first|refine wx1 ?_|refine wx2 ?_ ?_<;>intro hp|refine s_end hk ?_)<;>(clear hk a;intro a hk))|((first|refine wx3 ?_;intro w b|refine wx4 ?_;intro w|refine wx5 ?_;intro w v);clear hk hS a;intro hS a hk)|refine wx0 ?_|fail))
 refine sg hk (g_callO hk (hf := by kernel_rfl) (hc := clip5_any most 1 65536 _) (h := ?_));clear hk a;rintro _ w ⟨rfl, hS1⟩ a hk;replace hS := hS.call0 hS1;clear hS1
 (repeat' (first|((first|refine wx1 ?_|refine wx2 ?_ ?_<;>intro hp|refine s_end hk ?_)<;>(clear hk a;intro a hk))|((first|refine wx3 ?_;intro w b|refine wx4 ?_;intro w|refine wx5 ?_;intro w v);clear hk hS a;intro hS a hk)|refine wx0 ?_|fail))
 refine sg hk (g_makeMap encI hS ?_);clear hk hS a;intro w mv hS a hk
 obtain ⟨bm, rfl⟩ := mapH.shape (hS.rd (A := mapH encI mv ([] : List (Int × Value))) atx)
 (repeat' (first|((first|refine wx1 ?_|refine wx2 ?_ ?_<;>intro hp|refine s_end hk ?_)<;>(clear hk a;intro a hk))|((first|refine wx3 ?_;intro w b|refine wx4 ?_;intro w|refine wx5 ?_;intro w v);clear hk hS a;intro hS a hk)|refine wx0 ?_|fail))
 rename Nat => br
 refine su hk (g_mapUpdate (k := (0 : Int)) hk hS ?_ (mT rfl) keyI);clear hk hS a;intro w hS a hk
 (repeat' (first|((first|refine wx1 ?_|refine wx2 ?_ ?_<;>intro hp|refine s_end hk ?_)<;>(clear hk a;intro a hk))|((first|refine wx3 ?_;intro w b|refine wx4 ?_;intro w|refine wx5 ?_;intro w v);clear hk hS a;intro hS a hk)|refine wx0 ?_|fail))
 refine done1 hk (h := ⟨_, rfl, domH.of (bm := bm) (bl := fun _ => br) (L := []) ?_⟩)
 have hS1 := (((hS.nilT 3 Int).nilT 124 PrI).nilT 128 PrS).nilT 9 ByteArray
 clear hS
 have hS : St w0 (nodeL br rootP ((none, 0), (none, 0), (none, 0), (none, 0)) ++ (mapH encI (.map (some bm)) (setL ([] : List (Int × Value)) (0 : Int) (pA br)) :: pts b [.int .i64 (max 1 (min most 65536)), .int .i64 1, .map (some bm)] 55 :: [])) w := by
  refine hS1.sub ?_
  simp only [nodeL, nodC, rootP, List.length_nil, List.cons_append, List.nil_append]
  exact (.cons atx (.cons atx (.cons atx (.cons atx (.cons atx (.cons atx (.cons atx sbx)))))))
 clear hS1
 have hS1 : St w0 (ndsH (fun _ => br) [rootP] :: (mapH encI (.map (some bm)) (setL ([] : List (Int × Value)) (0 : Int) (pA br)) :: pts b [.int .i64 (max 1 (min most 65536)), .int .i64 1, .map (some bm)] 55 :: [])) w := ndsH.of (nodH.of hS)
 exact hS1.sub (.cons atx (.cons atx (.cons atx sbx)))
set_option maxHeartbeats 8000000 in
theorem read5_any {bd bm : Nat} {bl : Int → Nat} {D : DomP} (hW : WfD D) {K : Nat} (hb : Bnd K D) (hK : K ≤ 900) : ∀ (id : Int) (n : NodeP) (w0 : World), D.f id = some n → DomR bd D bm bl w0 →
  Calls Tryz.prog 29 #[pA bd, .int .i64 id] w0 (Ret fun v w => ∃ h, v = .tuple #[snV h, .int .i64 0] ∧ St w0 [streeR (trN D.f id) h] w) := by
 intro id
 induction hW.wf.accD id with
 | intro id _ ih =>
  intro n w0 hn hDR
  have hnb := hb.get hn
  have b4 := hnb.kids
  have htr := trN_some hW.wf.accD hn
  have hdown := hW.wf.down id n hn
  have hkd : ∀ k ∈ n.kids, kidOf D.f k id := fun k hk => ⟨n, hn, hk⟩
  have en : n.id = id := fnd_id hn
  rw [htr]
  clear htr hnb
  refine enter Tryz.func29 rfl Tryz.ntmps29 rfl (fun a hk => ?_);have hS := St.refl w0
  (repeat' (first|((first|refine wx1 ?_|refine wx2 ?_ ?_<;>intro hp|refine s_end hk ?_)<;>(clear hk a;intro a hk))|((first|refine wx3 ?_;intro w b|refine wx4 ?_;intro w|refine wx5 ?_;intro w v);clear hk hS a;intro hS a hk)|refine wx0 ?_|fail))
  rename Nat => b4r
  refine sg hk (g_callO hk (hf := by kernel_rfl) (hc := get5_some (bd := bd) (bm := bm) (bl := bl) (D := D) (n := n) _ (hDR.mono hS.below) hn hb hK) (h := ?_));clear hk a;rintro vr w ⟨⟨⟨a1, c1⟩, ⟨a2, c2⟩, ⟨a3, c3⟩, ⟨a4, c4⟩⟩, rfl, hS1⟩ a hk;replace hS := hS.call hS1;clear hS1
  simp only [ndO, List.cons_append, List.nil_append] at hS
  obtain ⟨nid, kind, tag, text, cls, att, sty, par, kids⟩ := n
  simp only at b4 hdown hkd en hS hk
  subst en
  simp only [nodC] at hk
  (repeat' (first|((first|refine wx1 ?_|refine wx2 ?_ ?_<;>intro hp|refine s_end hk ?_)<;>(clear hk a;intro a hk))|((first|refine wx3 ?_;intro w b|refine wx4 ?_;intro w|refine wx5 ?_;intro w v);clear hk hS a;intro hS a hk)|refine wx0 ?_|fail))
  rename Nat => b8
  replace hS := sforR.nil (hS.nilT 77 SnH)
  replace hk := Kn.kp [0, 4, 8, 37, 38, 39] hk
  have hS1 := hS.sub (L' := sforR [] [] :: OwT 77 ([] : List SnH) (.slice none 0 0) :: pts b8 [.int .i64 nid, .int .i64 kind, .string tag, .string text, .slice a1 cls.length c1, .slice a2 att.length c2, .slice a3 sty.length c3, .slice none 0 0] 77 :: OwT 9 cls (.slice a1 cls.length c1) :: OwT 128 att (.slice a2 att.length c2) :: OwT 124 sty (.slice a3 sty.length c3) :: OwT 3 kids (.slice a4 kids.length c4) :: pts b4r [.int .i64 0, .int .i64 0, .string ⟨#[]⟩, .string ⟨#[]⟩, .slice none 0 0, .slice none 0 0, .slice none 0 0, .slice none 0 0] 77 :: []) (.cons atx (.cons atx (.cons atx (.cons atx (.cons atx (.cons atx (.cons atx (.cons atx sbx))))))))
  clear hS
  have hS := hS1
  clear hS1
  refine wp_for kids.length (fun i _ => [(39, .int .i64 (i : Int))]) (fun i v => [sforR ((kids.take i).map (trN D.f)) (v.2 : List SnH), OwT 77 v.2 (.slice v.1.1 i v.1.2), pts b8 [.int .i64 nid, .int .i64 kind, .string tag, .string text, .slice a1 cls.length c1, .slice a2 att.length c2, .slice a3 sty.length c3, .slice v.1.1 i v.1.2] 77, OwT 9 cls (.slice a1 cls.length c1), OwT 128 att (.slice a2 att.length c2), OwT 124 sty (.slice a3 sty.length c3), OwT 3 kids (.slice a4 kids.length c4), pts b4r [.int .i64 0, .int .i64 0, .string ⟨#[]⟩, .string ⟨#[]⟩, .slice none 0 0, .slice none 0 0, .slice none 0 0, .slice none 0 0] 77]) (fun _ _ => True) (((none, 0), []) : (Option Addr × Nat) × List SnH) hk skx hS trivial ?_
  clear hk hS a
  rintro j ⟨⟨ak, ck⟩, H'⟩ a w hj hk hS -
  simp only at hS hk
  have hHl : H'.length = j := by
   have hFH := hS.soR .here
   rw [hFH.1, List.length_map, List.length_take];omega
  by_cases hjl : j < kids.length
  ·obtain ⟨k, hx⟩ : ∃ k, kids[j]? = some k := ⟨_, List.getElem?_eq_getElem hjl⟩
   have hmk := List.mem_of_getElem? hx
   obtain ⟨c, hc, -⟩ := hdown k hmk
   have hst : (kids.take (j + 1)).map (trN D.f) = (kids.take j).map (trN D.f) ++ [trN D.f k] := by rw [take_snoc hx, List.map_append];rfl
   (repeat' (first|((first|refine wx1 ?_|refine wx2 ?_ ?_<;>intro hp|refine s_end hk ?_)<;>(clear hk a;intro a hk))|((first|refine wx3 ?_;intro w b|refine wx4 ?_;intro w|refine wx5 ?_;intro w v);clear hk hS a;intro hS a hk)|refine wx0 ?_|fail))
   refine sg hk (g_callO hk (hf := by kernel_rfl) (hc := ih k (hkd k hmk) c _ hc (hDR.mono hS.below)) (h := ?_));clear hk a;rintro vr w ⟨⟨id2, k2, tag2, text2, ⟨x12, x22, x32⟩, ⟨y12, y22, y32⟩, ⟨z12, z22, z32⟩, ⟨u12, u22, u32⟩⟩, rfl, hS1⟩ a hk;replace hS := hS.call hS1;clear hS1
   rw [List.cons_append, List.nil_append] at hS
   (repeat' (first|((first|refine wx1 ?_|refine wx2 ?_ ?_<;>intro hp|refine s_end hk ?_)<;>(clear hk a;intro a hk))|((first|refine wx3 ?_;intro w b|refine wx4 ?_;intro w|refine wx5 ?_;intro w v);clear hk hS a;intro hS a hk)|refine wx0 ?_|fail))
   rename Nat => b11
   refine sg hk (g_bsT (xs := [((id2, k2, tag2, text2, ⟨x12, x22, x32⟩, ⟨y12, y22, y32⟩, ⟨z12, z22, z32⟩, ⟨u12, u22, u32⟩) : SnH)]) (m := 0) hk hS ?_ (hT := eT rfl) (hE := zT rfl) (hz := oT rfl));clear hk hS a;intro w v52 hS a hk
   (repeat' (first|((first|refine wx1 ?_|refine wx2 ?_ ?_<;>intro hp|refine s_end hk ?_)<;>(clear hk a;intro a hk))|((first|refine wx3 ?_;intro w b|refine wx4 ?_;intro w|refine wx5 ?_;intro w v);clear hk hS a;intro hS a hk)|refine wx0 ?_|fail))
   rename Value => vn
   obtain ⟨aovn, cvn, hshp, _⟩ := (OwT.rd (hS.rd (A := OwT 77 _ vn) atx)).shape;subst hshp
   have hl1 : (H' ++ [((id2, k2, tag2, text2, ⟨x12, x22, x32⟩, ⟨y12, y22, y32⟩, ⟨z12, z22, z32⟩, ⟨u12, u22, u32⟩) : SnH)]).length = j + 1 := by rw [List.length_append, hHl];rfl
   rw [hl1] at hS hk
   (repeat' (first|((first|refine wx1 ?_|refine wx2 ?_ ?_<;>intro hp|refine s_end hk ?_)<;>(clear hk a;intro a hk))|((first|refine wx3 ?_;intro w b|refine wx4 ?_;intro w|refine wx5 ?_;intro w v);clear hk hS a;intro hS a hk)|refine wx0 ?_|fail))
   have hS1 := sforR.snoc (L := [OwT 77 (H' ++ [((id2, k2, tag2, text2, ⟨x12, x22, x32⟩, ⟨y12, y22, y32⟩, ⟨z12, z22, z32⟩, ⟨u12, u22, u32⟩) : SnH)]) (.slice aovn (j + 1) cvn), pts b8 [.int .i64 nid, .int .i64 kind, .string tag, .string text, .slice a1 cls.length c1, .slice a2 att.length c2, .slice a3 sty.length c3, .slice aovn (j + 1) cvn] 77, OwT 9 cls (.slice a1 cls.length c1), OwT 128 att (.slice a2 att.length c2), OwT 124 sty (.slice a3 sty.length c3), OwT 3 kids (.slice a4 kids.length c4), pts b4r [.int .i64 0, .int .i64 0, .string ⟨#[]⟩, .string ⟨#[]⟩, .slice none 0 0, .slice none 0 0, .slice none 0 0, .slice none 0 0] 77]) (ts := (kids.take j).map (trN D.f)) (H := H') (t := trN D.f k) (h := (id2, k2, tag2, text2, ⟨x12, x22, x32⟩, ⟨y12, y22, y32⟩, ⟨z12, z22, z32⟩, ⟨u12, u22, u32⟩)) (hS.sub (.cons atx (.cons atx (.cons atx (.cons atx (.cons atx (.cons atx (.cons atx (.cons atx (.cons atx sbx))))))))))
   rw [← hst] at hS1
   exact ⟨hjl, ((aovn, cvn), H' ++ [(id2, k2, tag2, text2, ⟨x12, x22, x32⟩, ⟨y12, y22, y32⟩, ⟨z12, z22, z32⟩, ⟨u12, u22, u32⟩)]), hk.sd, hS1, trivial⟩
  ·have hjj : j = kids.length := by omega
   subst hjj
   rw [List.take_length] at hS
   (repeat' (first|((first|refine wx1 ?_|refine wx2 ?_ ?_<;>intro hp|refine s_end hk ?_)<;>(clear hk a;intro a hk))|((first|refine wx3 ?_;intro w b|refine wx4 ?_;intro w|refine wx5 ?_;intro w v);clear hk hS a;intro hS a hk)|refine wx0 ?_|fail))
   refine done2R hk rfl (.str hS (hT := aT rfl) (hs := zT rfl)) (.tmp rfl) (h := ⟨(nid, kind, tag, text, ⟨a1, cls.length, c1⟩, ⟨a2, att.length, c2⟩, ⟨a3, sty.length, c3⟩, ⟨ak, kids.length, ck⟩), rfl, ?_⟩)
   exact streeR.of (A1 := OwT 9 cls (.slice a1 cls.length c1)) (A2 := OwT 128 att (.slice a2 att.length c2)) (A3 := OwT 124 sty (.slice a3 sty.length c3)) (A4 := OwT 77 H' (.slice ak kids.length ck)) (hS.sub (.cons atx (.cons atx (.cons atx (.cons atx (.cons atx sbx))))))
end Go.Proofs.YtbpkddpkcnlmhaaGreat
namespace Go.Proofs.YtbpkddpkcnlmhaaGreat
open Go.RowKit
set_option maxRecDepth 100000
attribute [local irreducible] Go.Code.wpIn Go.wpListIn Go.Calls Gives Go.Exit.then Go.Exit.inBlock Done ObxE
abbrev OpP := Int × Int × Int × Int × ByteArray × ByteArray
abbrev opC (o : OpP) : List Value := [.int .i64 o.1, .int .i64 o.2.1, .int .i64 o.2.2.1, .int .i64 o.2.2.2.1, .string o.2.2.2.2.1, .string o.2.2.2.2.2]
abbrev trailL (bl bd : Nat) (ops : List OpP) (y : Option Addr × Nat) : List HP := [pts bl [pA bd, .slice y.1 ops.length y.2] 29, OwT 66 ops (.slice y.1 ops.length y.2)]
def trailH (bl bd : Nat) (ops : List OpP) : HP := bagH (fun y : Option Addr × Nat => trailL bl bd ops y) (fun _ => True)
section
variable {B : Bs} {w : World} {L L' : List HP}
theorem St.trail {bl bd : Nat} {ops : List OpP} (hS : St B L w) (hat : At (trailH bl bd ops) L L') : ∃ a c, St B (trailL bl bd ops (a, c) ++ L') w := by
 obtain ⟨⟨a, c⟩, -, h⟩ := St.bag hS hat
 exact ⟨a, c, h⟩
theorem trailH.of {bl bd : Nat} {ops : List OpP} {y : Option Addr × Nat} (hS : St B (trailL bl bd ops y ++ L) w) : St B (trailH bl bd ops :: L) w := bagH.of (A := fun y : Option Addr × Nat => trailL bl bd ops y) (x := y) hS trivial
end
def noteP (e : Int) (ops : List OpP) (o : OpP) : List OpP := if e = 0 then ops ++ [o] else ops
theorem noteP_len (e : Int) (ops : List OpP) (o : OpP) : (noteP e ops o).length ≤ ops.length + 1 := by
 unfold noteP
 split
 ·rw [List.length_append];simp
 ·omega
theorem on6_any (bd : Nat) (w0 : World) : Calls Tryz.prog 4 #[pA bd] w0 (Ret fun v w => ∃ bl, v = pA bl ∧ St w0 [trailH bl bd []] w) := by
 refine enter Tryz.func4 rfl Tryz.ntmps4 rfl (fun a hk => ?_);have hS := St.refl w0
 (repeat' (first|((first|refine wx1 ?_|refine wx2 ?_ ?_<;>intro hp|refine s_end hk ?_)<;>(clear hk a;intro a hk))|((first|refine wx3 ?_;intro w b|refine wx4 ?_;intro w|refine wx5 ?_;intro w v);clear hk hS a;intro hS a hk)|refine wx0 ?_|fail))
 exact done1 hk (h := ⟨_, rfl, trailH.of (y := (none, 0)) (L := []) ((hS.nilT 66 OpP).sub (.cons atx (.cons atx sbx)))⟩)
section
variable {B : Bs} {w : World} {L : List HP} {bl bd : Nat} {D : DomP} {K : Nat} {ops : List OpP}
set_option maxHeartbeats 4000000 in
theorem note6_any (e : Int) (k x y z : Int) (nm vl : ByteArray) (hl : ops.length ≤ 100000) (hS : St B (trailH bl bd ops :: L) w) :
  Calls Tryz.prog 22 #[pA bl, .int .i64 e, .agg #[.int .i64 k, .int .i64 x, .int .i64 y, .int .i64 z, .string nm, .string vl]] w (Ret fun v w' => v = .int .i64 e ∧ St B (trailH bl bd (noteP e ops (k, x, y, z, nm, vl)) :: L) w') := by
 obtain ⟨ao, c, hS1⟩ := hS.trail (bl := bl) (bd := bd) (ops := ops) .here
 clear hS
 have hS := hS1
 clear hS1
 simp only [trailL, List.cons_append, List.nil_append] at hS
 unfold noteP
 refine enter Tryz.func22 rfl Tryz.ntmps22 rfl (fun a hk => ?_)
 refine wpIn_seq ?_;refine wpIn_region_lit ?_
 refine st_box hk hS ?_;clear hk hS a;intro w b5 hS a hk
 by_cases he : e = 0
 ·subst he
  rw [if_pos rfl]
  (repeat' (first|((first|refine wx1 ?_|refine wx2 ?_ ?_<;>intro hp|refine s_end hk ?_)<;>(clear hk a;intro a hk))|((first|refine wx3 ?_;intro w b|refine wx4 ?_;intro w|refine wx5 ?_;intro w v);clear hk hS a;intro hS a hk)|refine wx0 ?_|fail))
  have hS1 := hS.sub (L' := OwT 66 ops (.slice ao ops.length c) :: pts bl [pA bd, .slice ao ops.length c] 29 :: pts b5 [.int .i64 k, .int .i64 x, .int .i64 y, .int .i64 z, .string nm, .string vl] 66 :: L) (.cons atx (.cons atx (.cons atx sbx)))
  clear hS
  have hS := hS1
  clear hS1
  refine wp_drawnU1 8 mixed (by kernel_rfl) hk hS ?_;clear hk hS a
  (repeat' (first|(show ObxE _ _ _ _ _ _ _ _ _ (_::_) _ _ _;first|refine ox1 ?_|refine ox2 ?_ ?_<;>intro hp)|fail))
  refine' obe_res (fun us a w hk hd hS => ?_) ?_;rotate_left;focus (have hk := Kn.vw hk vwx;exact v_bsT (xs := [((k, x, y, z, nm, vl) : OpP)]) (m := 0) hk (hT := eT rfl) (hE := zT rfl) (hz := oT rfl))
  refine' obe_upd (OwT 66 ops (.slice ao ops.length c)) (fun us a w X hk hd hS hL => ?_) ?_;rotate_left;focus (have hk := Kn.vw hk vwx;exact v_app hk hS (hT := eT rfl) (hTx := eT rfl) (hs := OwT.rd hd.2.1) (hE := zT rfl) (hz := oT rfl) (hzs := rfl) (hby := bT rfl) (hbytes := by simp only [List.length_cons, List.length_nil];omega) (h63 := by simp only [List.length_cons, List.length_nil, maxLen];omega))
  refine obe_nil ⟨rfl, ?_⟩;intro us a w hk hS
  simp only [resE, List.cons_append, List.nil_append, Nat.zero_add, Nat.reduceAdd] at hS
  replace hk := Kn.kp [0, 1, 9, 16] hk
  simp only [HV.of, Nat.zero_add, Nat.reduceAdd] at hk
  generalize us 7 = v16 at hS hk
  obtain ⟨aov16, cv16, hshp, _⟩ := (OwT.rd (hS.rd (A := OwT 66 _ v16) atx)).shape;subst hshp
  (repeat' (first|((first|refine wx1 ?_|refine wx2 ?_ ?_<;>intro hp|refine s_end hk ?_)<;>(clear hk a;intro a hk))|((first|refine wx3 ?_;intro w b|refine wx4 ?_;intro w|refine wx5 ?_;intro w v);clear hk hS a;intro hS a hk)|refine wx0 ?_|fail))
  exact done1 hk (h := ⟨rfl, trailH.of (y := (aov16, cv16)) (hS.sub (.cons atx (.cons atx sbx)))⟩)
 ·rw [if_neg he]
  (repeat' (first|((first|refine wx1 ?_|refine wx2 ?_ ?_<;>intro hp|refine s_end hk ?_)<;>(clear hk a;intro a hk))|((first|refine wx3 ?_;intro w b|refine wx4 ?_;intro w|refine wx5 ?_;intro w v);clear hk hS a;intro hS a hk)|refine wx0 ?_|fail))
  exact done1 hk (h := ⟨rfl, trailH.of (y := (ao, c)) (hS.sub (.cons atx (.cons atx sbx)))⟩)
set_option maxHeartbeats 4000000 in
theorem lelem6_any (tag : ByteArray) (ht : tag.size ≤ 1000000) (hW : WfD D) (hb : Bnd K D) (hK : K ≤ 800) (hl : ops.length ≤ 100000) (hS : St B (domH bd D :: trailH bl bd ops :: L) w) :
  Calls Tryz.prog 7 #[pA bl, .string tag] w (Ret fun v w' => v = .tuple #[.int .i64 (elemP D tag).2.1, .int .i64 (elemP D tag).2.2] ∧ St B (domH bd (elemP D tag).1 :: trailH bl bd (noteP (elemP D tag).2.2 ops (1, (elemP D tag).2.1, 0, 0, tag, ⟨#[]⟩)) :: L) w') := by
 obtain ⟨ao, c, hS1⟩ := hS.trail (bl := bl) (bd := bd) (ops := ops) (.there .here)
 clear hS
 have hS := hS1
 clear hS1
 simp only [trailL, List.cons_append, List.nil_append] at hS
 refine enter Tryz.func7 rfl Tryz.ntmps7 rfl (fun a hk => ?_)
 (repeat' (first|((first|refine wx1 ?_|refine wx2 ?_ ?_<;>intro hp|refine s_end hk ?_)<;>(clear hk a;intro a hk))|((first|refine wx3 ?_;intro w b|refine wx4 ?_;intro w|refine wx5 ?_;intro w v);clear hk hS a;intro hS a hk)|refine wx0 ?_|fail))
 refine sg hk (g_callO hk (hf := by kernel_rfl) (hc := elem5_any tag ht hW hb (by omega) (hS.sub (L' := domH bd D :: pts bl [pA bd, .slice ao ops.length c] 29 :: OwT 66 ops (.slice ao ops.length c) :: L) (.cons atx (.cons atx (.cons atx sbx))))) (h := ?_));clear hk hS a;rintro _ w ⟨rfl, hS⟩ a hk
 (repeat' (first|((first|refine wx1 ?_|refine wx2 ?_ ?_<;>intro hp|refine s_end hk ?_)<;>(clear hk a;intro a hk))|((first|refine wx3 ?_;intro w b|refine wx4 ?_;intro w|refine wx5 ?_;intro w v);clear hk hS a;intro hS a hk)|refine wx0 ?_|fail))
 have hS1 := trailH.of (bl := bl) (bd := bd) (ops := ops) (y := (ao, c)) (hS.sub (L' := trailL bl bd ops (ao, c) ++ (domH bd (elemP D tag).1 :: L)) (.cons atx (.cons atx (.cons atx sbx))))
 clear hS
 refine sg hk (g_callO hk (hf := by kernel_rfl) (hc := note6_any (elemP D tag).2.2 (1) ((elemP D tag).2.1) (0) (0) (tag) (⟨#[]⟩) hl hS1) (h := ?_));clear hk hS1 a;rintro _ w ⟨rfl, hS⟩ a hk
 (repeat' (first|((first|refine wx1 ?_|refine wx2 ?_ ?_<;>intro hp|refine s_end hk ?_)<;>(clear hk a;intro a hk))|((first|refine wx3 ?_;intro w b|refine wx4 ?_;intro w|refine wx5 ?_;intro w v);clear hk hS a;intro hS a hk)|refine wx0 ?_|fail))
 exact done2 hk (h := ⟨rfl, hS.perm (.swap _ _ _)⟩)
set_option maxHeartbeats 4000000 in
theorem lins6_any (parent at_ id : Int) (hW : WfD D) (hb : Bnd K D) (hK : K ≤ 800) (hl : ops.length ≤ 100000) (hS : St B (domH bd D :: trailH bl bd ops :: L) w) :
  Calls Tryz.prog 8 #[pA bl, .int .i64 parent, .int .i64 at_, .int .i64 id] w (Ret fun v w' => v = .int .i64 (insP D parent at_ id).2 ∧ St B (domH bd (insP D parent at_ id).1 :: trailH bl bd (noteP (insP D parent at_ id).2 ops (3, parent, at_, id, ⟨#[]⟩, ⟨#[]⟩)) :: L) w') := by
 obtain ⟨ao, c, hS1⟩ := hS.trail (bl := bl) (bd := bd) (ops := ops) (.there .here)
 clear hS
 have hS := hS1
 clear hS1
 simp only [trailL, List.cons_append, List.nil_append] at hS
 refine enter Tryz.func8 rfl Tryz.ntmps8 rfl (fun a hk => ?_)
 (repeat' (first|((first|refine wx1 ?_|refine wx2 ?_ ?_<;>intro hp|refine s_end hk ?_)<;>(clear hk a;intro a hk))|((first|refine wx3 ?_;intro w b|refine wx4 ?_;intro w|refine wx5 ?_;intro w v);clear hk hS a;intro hS a hk)|refine wx0 ?_|fail))
 refine sg hk (g_callO hk (hf := by kernel_rfl) (hc := ins5_any parent at_ id hW hb hK (hS.sub (L' := domH bd D :: pts bl [pA bd, .slice ao ops.length c] 29 :: OwT 66 ops (.slice ao ops.length c) :: L) (.cons atx (.cons atx (.cons atx sbx))))) (h := ?_));clear hk hS a;rintro _ w ⟨rfl, hS⟩ a hk
 (repeat' (first|((first|refine wx1 ?_|refine wx2 ?_ ?_<;>intro hp|refine s_end hk ?_)<;>(clear hk a;intro a hk))|((first|refine wx3 ?_;intro w b|refine wx4 ?_;intro w|refine wx5 ?_;intro w v);clear hk hS a;intro hS a hk)|refine wx0 ?_|fail))
 have hS1 := trailH.of (bl := bl) (bd := bd) (ops := ops) (y := (ao, c)) (hS.sub (L' := trailL bl bd ops (ao, c) ++ (domH bd (insP D parent at_ id).1 :: L)) (.cons atx (.cons atx (.cons atx sbx))))
 clear hS
 refine sg hk (g_callO hk (hf := by kernel_rfl) (hc := note6_any (insP D parent at_ id).2 (3) (parent) (at_) (id) (⟨#[]⟩) (⟨#[]⟩) hl hS1) (h := ?_));clear hk hS1 a;rintro _ w ⟨rfl, hS⟩ a hk
 (repeat' (first|((first|refine wx1 ?_|refine wx2 ?_ ?_<;>intro hp|refine s_end hk ?_)<;>(clear hk a;intro a hk))|((first|refine wx3 ?_;intro w b|refine wx4 ?_;intro w|refine wx5 ?_;intro w v);clear hk hS a;intro hS a hk)|refine wx0 ?_|fail))
 exact done1 hk (h := ⟨rfl, hS.perm (.swap _ _ _)⟩)
set_option maxHeartbeats 4000000 in
theorem lmov6_any (id at_ : Int) (hW : WfD D) (hb : Bnd K D) (hK : K ≤ 800) (hl : ops.length ≤ 100000) (hS : St B (domH bd D :: trailH bl bd ops :: L) w) :
  Calls Tryz.prog 28 #[pA bl, .int .i64 id, .int .i64 at_] w (Ret fun v w' => v = .int .i64 (movDP D id at_).2 ∧ St B (domH bd (movDP D id at_).1 :: trailH bl bd (noteP (movDP D id at_).2 ops (4, id, at_, 0, ⟨#[]⟩, ⟨#[]⟩)) :: L) w') := by
 obtain ⟨ao, c, hS1⟩ := hS.trail (bl := bl) (bd := bd) (ops := ops) (.there .here)
 clear hS
 have hS := hS1
 clear hS1
 simp only [trailL, List.cons_append, List.nil_append] at hS
 refine enter Tryz.func28 rfl Tryz.ntmps28 rfl (fun a hk => ?_)
 (repeat' (first|((first|refine wx1 ?_|refine wx2 ?_ ?_<;>intro hp|refine s_end hk ?_)<;>(clear hk a;intro a hk))|((first|refine wx3 ?_;intro w b|refine wx4 ?_;intro w|refine wx5 ?_;intro w v);clear hk hS a;intro hS a hk)|refine wx0 ?_|fail))
 refine sg hk (g_callO hk (hf := by kernel_rfl) (hc := move5_any id at_ hW hb hK (hS.sub (L' := domH bd D :: pts bl [pA bd, .slice ao ops.length c] 29 :: OwT 66 ops (.slice ao ops.length c) :: L) (.cons atx (.cons atx (.cons atx sbx))))) (h := ?_));clear hk hS a;rintro _ w ⟨rfl, hS⟩ a hk
 (repeat' (first|((first|refine wx1 ?_|refine wx2 ?_ ?_<;>intro hp|refine s_end hk ?_)<;>(clear hk a;intro a hk))|((first|refine wx3 ?_;intro w b|refine wx4 ?_;intro w|refine wx5 ?_;intro w v);clear hk hS a;intro hS a hk)|refine wx0 ?_|fail))
 have hS1 := trailH.of (bl := bl) (bd := bd) (ops := ops) (y := (ao, c)) (hS.sub (L' := trailL bl bd ops (ao, c) ++ (domH bd (movDP D id at_).1 :: L)) (.cons atx (.cons atx (.cons atx sbx))))
 clear hS
 refine sg hk (g_callO hk (hf := by kernel_rfl) (hc := note6_any (movDP D id at_).2 (4) (id) (at_) (0) (⟨#[]⟩) (⟨#[]⟩) hl hS1) (h := ?_));clear hk hS1 a;rintro _ w ⟨rfl, hS⟩ a hk
 (repeat' (first|((first|refine wx1 ?_|refine wx2 ?_ ?_<;>intro hp|refine s_end hk ?_)<;>(clear hk a;intro a hk))|((first|refine wx3 ?_;intro w b|refine wx4 ?_;intro w|refine wx5 ?_;intro w v);clear hk hS a;intro hS a hk)|refine wx0 ?_|fail))
 exact done1 hk (h := ⟨rfl, hS.perm (.swap _ _ _)⟩)
set_option maxHeartbeats 4000000 in
theorem lsty6_any (id : Int) (name : ByteArray) (num : Int) (hn : name.size ≤ 1000000) (hW : WfD D) (hb : Bnd K D) (hK : K ≤ 800) (hl : ops.length ≤ 100000) (hS : St B (domH bd D :: trailH bl bd ops :: L) w) :
  Calls Tryz.prog 9 #[pA bl, .int .i64 id, .string name, .int .i64 num] w (Ret fun v w' => v = .int .i64 (setP D 4 id name ⟨#[]⟩ num).2 ∧ St B (domH bd (setP D 4 id name ⟨#[]⟩ num).1 :: trailH bl bd (noteP (setP D 4 id name ⟨#[]⟩ num).2 ops (10, id, 0, num, name, ⟨#[]⟩)) :: L) w') := by
 obtain ⟨ao, c, hS1⟩ := hS.trail (bl := bl) (bd := bd) (ops := ops) (.there .here)
 clear hS
 have hS := hS1
 clear hS1
 simp only [trailL, List.cons_append, List.nil_append] at hS
 refine enter Tryz.func9 rfl Tryz.ntmps9 rfl (fun a hk => ?_)
 (repeat' (first|((first|refine wx1 ?_|refine wx2 ?_ ?_<;>intro hp|refine s_end hk ?_)<;>(clear hk a;intro a hk))|((first|refine wx3 ?_;intro w b|refine wx4 ?_;intro w|refine wx5 ?_;intro w v);clear hk hS a;intro hS a hk)|refine wx0 ?_|fail))
 refine sg hk (g_callO hk (hf := by kernel_rfl) (hc := setStyle_any id name ⟨#[]⟩ num hW hb hK hn (hS.sub (L' := domH bd D :: pts bl [pA bd, .slice ao ops.length c] 29 :: OwT 66 ops (.slice ao ops.length c) :: L) (.cons atx (.cons atx (.cons atx sbx))))) (h := ?_));clear hk hS a;rintro _ w ⟨rfl, hS⟩ a hk
 (repeat' (first|((first|refine wx1 ?_|refine wx2 ?_ ?_<;>intro hp|refine s_end hk ?_)<;>(clear hk a;intro a hk))|((first|refine wx3 ?_;intro w b|refine wx4 ?_;intro w|refine wx5 ?_;intro w v);clear hk hS a;intro hS a hk)|refine wx0 ?_|fail))
 have hS1 := trailH.of (bl := bl) (bd := bd) (ops := ops) (y := (ao, c)) (hS.sub (L' := trailL bl bd ops (ao, c) ++ (domH bd (setP D 4 id name ⟨#[]⟩ num).1 :: L)) (.cons atx (.cons atx (.cons atx sbx))))
 clear hS
 refine sg hk (g_callO hk (hf := by kernel_rfl) (hc := note6_any (setP D 4 id name ⟨#[]⟩ num).2 (10) (id) (0) (num) (name) (⟨#[]⟩) hl hS1) (h := ?_));clear hk hS1 a;rintro _ w ⟨rfl, hS⟩ a hk
 (repeat' (first|((first|refine wx1 ?_|refine wx2 ?_ ?_<;>intro hp|refine s_end hk ?_)<;>(clear hk a;intro a hk))|((first|refine wx3 ?_;intro w b|refine wx4 ?_;intro w|refine wx5 ?_;intro w v);clear hk hS a;intro hS a hk)|refine wx0 ?_|fail))
 exact done1 hk (h := ⟨rfl, hS.perm (.swap _ _ _)⟩)
theorem clear6_any (hS : St B (trailH bl bd ops :: L) w) : Calls Tryz.prog 12 #[pA bl] w (Ret fun _ w' => St B (trailH bl bd [] :: L) w') := by
 obtain ⟨ao, c, hS1⟩ := hS.trail (bl := bl) (bd := bd) (ops := ops) .here
 clear hS
 have hS := hS1
 clear hS1
 simp only [trailL, List.cons_append, List.nil_append] at hS
 refine enter Tryz.func12 rfl Tryz.ntmps12 rfl (fun a hk => ?_)
 (repeat' (first|((first|refine wx1 ?_|refine wx2 ?_ ?_<;>intro hp|refine s_end hk ?_)<;>(clear hk a;intro a hk))|((first|refine wx3 ?_;intro w b|refine wx4 ?_;intro w|refine wx5 ?_;intro w v);clear hk hS a;intro hS a hk)|refine wx0 ?_|fail))
 exact done0n hk (h := trailH.of (y := (none, 0)) ((hS.nilT 66 OpP).sub (.cons atx (.cons atx sbx))))
end
theorem trailH.get {bl bd : Nat} {ops : List OpP} {w : World} (h : (trailH bl bd ops).rd w) : ∃ a c, (pts bl [pA bd, .slice a ops.length c] 29).rd w ∧ SlT ops (.slice a ops.length c) w := by
 obtain ⟨⟨a, c⟩, -, F, h⟩ := bagH.rd h
 exact ⟨a, c, h.rd .here, OwT.rd (h.rd (.there .here))⟩
theorem cloneO6_any (l : List OpP) (v : Value) (w0 : World) (hv : SlT l v w0) (hl : l.length ≤ 100000) : Calls Tryz.prog 31 #[v] w0 (Ret fun v w => St w0 [OwT 66 l v] w) := by
 obtain ⟨ao, c, rfl, hao, _⟩ := hv.shape
 refine enter Tryz.func31 rfl Tryz.ntmps31 rfl (fun a hk => ?_);have hS := St.refl w0
 (repeat' (first|((first|refine wx1 ?_|refine wx2 ?_ ?_<;>intro hp|refine s_end hk ?_)<;>(clear hk a;intro a hk))|((first|refine wx3 ?_;intro w b|refine wx4 ?_;intro w|refine wx5 ?_;intro w v);clear hk hS a;intro hS a hk)|refine wx0 ?_|fail))
 refine sg hk (g_eqN hk ?_ (hT := eT rfl));clear hk a;intro a hk
 cases ao with
 | none =>
  obtain ⟨h1, _⟩ := hao rfl
  subst h1
  (repeat' (first|((first|refine wx1 ?_|refine wx2 ?_ ?_<;>intro hp|refine s_end hk ?_)<;>(clear hk a;intro a hk))|((first|refine wx3 ?_;intro w b|refine wx4 ?_;intro w|refine wx5 ?_;intro w v);clear hk hS a;intro hS a hk)|refine wx0 ?_|fail))
  exact done1 hk (h := hS.nilT 66 OpP)
 | some ad =>
  (repeat' (first|((first|refine wx1 ?_|refine wx2 ?_ ?_<;>intro hp|refine s_end hk ?_)<;>(clear hk a;intro a hk))|((first|refine wx3 ?_;intro w b|refine wx4 ?_;intro w|refine wx5 ?_;intro w v);clear hk hS a;intro hS a hk)|refine wx0 ?_|fail))
  refine sg hk (g_bs0 OpP hS ?_ (hT := eT rfl) (hE := zT rfl));clear hk hS a;intro w v0 hS a hk
  refine sg hk (g_move hk ?_);clear hk a;intro a hk
  refine sg hk (g_appT (xs := ([] : List OpP)) (ys := l) hk hS ?_ (hT := eT rfl) (hTx := eT rfl) (hE := zT rfl) (hz := oT rfl) (hzs := rfl) (hs := hS.rdT hv) (hby := bT rfl) (hbytes := by simp only [List.length_nil];omega) (h63 := by simp only [maxLen, List.length_nil];omega));clear hk hS a;intro w v1 hS a hk
  rw [List.nil_append] at hS
  (repeat' (first|((first|refine wx1 ?_|refine wx2 ?_ ?_<;>intro hp|refine s_end hk ?_)<;>(clear hk a;intro a hk))|((first|refine wx3 ?_;intro w b|refine wx4 ?_;intro w|refine wx5 ?_;intro w v);clear hk hS a;intro hS a hk)|refine wx0 ?_|fail))
  exact done1 hk (h := hS)
theorem ops6_any {bl bd : Nat} {ops : List OpP} (w0 : World) (hl : ops.length ≤ 100000) (h : (trailH bl bd ops).rd w0) : Calls Tryz.prog 14 #[pA bl] w0 (Ret fun v w => St w0 [OwT 66 ops v] w) := by
 obtain ⟨ao, c, h1, h2⟩ := trailH.get h
 refine enter Tryz.func14 rfl Tryz.ntmps14 rfl (fun a hk => ?_);have hS := St.refl w0
 (repeat' (first|((first|refine wx1 ?_|refine wx2 ?_ ?_<;>intro hp|refine s_end hk ?_)<;>(clear hk a;intro a hk))|((first|refine wx3 ?_;intro w b|refine wx4 ?_;intro w|refine wx5 ?_;intro w v);clear hk hS a;intro hS a hk)|refine wx0 ?_|fail))
 refine sg hk (g_callO hk (hf := by kernel_rfl) (hc := cloneO6_any ops _ _ (hS.rdT h2) hl) (h := ?_));clear hk a;rintro vo w hS1 a hk;replace hS := hS.call hS1;clear hS1
 (repeat' (first|((first|refine wx1 ?_|refine wx2 ?_ ?_<;>intro hp|refine s_end hk ?_)<;>(clear hk a;intro a hk))|((first|refine wx3 ?_;intro w b|refine wx4 ?_;intro w|refine wx5 ?_;intro w v);clear hk hS a;intro hS a hk)|refine wx0 ?_|fail))
 exact done1 hk (h := hS.sb)
def cntO (ops : List OpP) (k : Int) : Nat := (ops.filter (fun o => decide (o.1 = k))).length
theorem count6_any (ops : List OpP) (k : Int) (v : Value) (w0 : World) (hv : SlT ops v w0) (hl : ops.length ≤ 100000) : Calls Tryz.prog 13 #[v, .int .i64 k] w0 (Ret fun v w => v = .int .i64 (cntO ops k) ∧ St w0 [] w) := by
 refine enter Tryz.func13 rfl Tryz.ntmps13 rfl (fun a hk => ?_);have hS := St.refl w0
 (repeat' (first|((first|refine wx1 ?_|refine wx2 ?_ ?_<;>intro hp|refine s_end hk ?_)<;>(clear hk a;intro a hk))|((first|refine wx3 ?_;intro w b|refine wx4 ?_;intro w|refine wx5 ?_;intro w v);clear hk hS a;intro hS a hk)|refine wx0 ?_|fail))
 replace hk := Kn.kp [1, 5, 8, 9, 10] hk
 refine wp_for ops.length (fun i _ => [(5, .int .i64 (cntO (ops.take i) k : Nat)), (10, .int .i64 (i : Int))]) (fun _ _ => []) (fun _ _ => True) () hk skx hS.sb trivial ?_
 clear hk hS a
 rintro i - a w hi hk hS -
 have hcl : cntO (ops.take i) k ≤ i := Nat.le_trans (List.length_filter_le _ _) (by rw [List.length_take];omega)
 by_cases hil : i < ops.length
 ·obtain ⟨⟨o1, o2, o3, o4, o5, o6⟩, hx⟩ : ∃ x, ops[i]? = some x := ⟨_, List.getElem?_eq_getElem hil⟩
  have hv1 := hS.rdT hv
  have hst : cntO (ops.take (i + 1)) k = cntO (ops.take i) k + if o1 = k then 1 else 0 := by
   unfold cntO
   rw [take_snoc hx, List.filter_append, List.length_append]
   by_cases e : o1 = k <;> simp [e]
  by_cases he : o1 = k
  ·rw [if_pos he] at hst
   (repeat' (first|((first|refine wx1 ?_|refine wx2 ?_ ?_<;>intro hp|refine s_end hk ?_)<;>(clear hk a;intro a hk))|((first|refine wx3 ?_;intro w b|refine wx4 ?_;intro w|refine wx5 ?_;intro w v);clear hk hS a;intro hS a hk)|refine wx0 ?_|fail))
   exact ⟨hil, (), by rw [hst];exact hk.sd, hS.sb, trivial⟩
  ·rw [if_neg he, Nat.add_zero] at hst
   (repeat' (first|((first|refine wx1 ?_|refine wx2 ?_ ?_<;>intro hp|refine s_end hk ?_)<;>(clear hk a;intro a hk))|((first|refine wx3 ?_;intro w b|refine wx4 ?_;intro w|refine wx5 ?_;intro w v);clear hk hS a;intro hS a hk)|refine wx0 ?_|fail))
   exact ⟨hil, (), by rw [hst];exact hk.sd, hS.sb, trivial⟩
 ·have hii : i = ops.length := by omega
  subst hii
  rw [List.take_length] at hk
  (repeat' (first|((first|refine wx1 ?_|refine wx2 ?_ ?_<;>intro hp|refine s_end hk ?_)<;>(clear hk a;intro a hk))|((first|refine wx3 ?_;intro w b|refine wx4 ?_;intro w|refine wx5 ?_;intro w v);clear hk hS a;intro hS a hk)|refine wx0 ?_|fail))
  exact done1 hk (h := ⟨rfl, hS.nil⟩)
end Go.Proofs.YtbpkddpkcnlmhaaGreat
namespace Go.Proofs.YtbpkddpkcnlmhaaGreat
open Go.RowKit
set_option maxRecDepth 100000
attribute [local irreducible] Go.Code.wpIn Go.wpListIn Go.Calls Gives Go.Exit.then Go.Exit.inBlock Done ObxE
set_option maxHeartbeats 4000000 in
theorem loose12_any {bl bd bm : Nat} {bb : Int → Nat} {D : DomP} {m K : Nat} {ks : List Int} {ao : Option Addr} {no c : Nat} (x : Int) (w0 : World) (h : FkD D m ks K) (hK : K ≤ 400) (hx : x ∉ ks) (x1 : 2 ≤ x) (x2 : x < 2 + m)
  (hl : (pts bl [pA bd, .slice ao no c] 29).rd w0) (hDR : DomR bd D bm bb w0) : Calls Tryz.prog 27 #[pA bl, .int .i64 1, .int .i64 x] w0 (Ret fun v w => v = .bool true ∧ St w0 [] w) := by
 obtain ⟨n, hn, n1, n2, n3⟩ := h.li x x1 x2
 rw [if_neg hx] at n3
 have hnw := h.nowin x1
 refine enter Tryz.func27 rfl Tryz.ntmps27 rfl (fun a hk => ?_);have hS := St.refl w0
 (repeat' (first|((first|refine wx1 ?_|refine wx2 ?_ ?_<;>intro hp|refine s_end hk ?_)<;>(clear hk a;intro a hk))|((first|refine wx3 ?_;intro w b|refine wx4 ?_;intro w|refine wx5 ?_;intro w v);clear hk hS a;intro hS a hk)|refine wx0 ?_|fail))
 refine sg hk (g_callO hk (hf := by kernel_rfl) (hc := get5_some _ (hDR.mono hS.below) hn h.bnd (by omega)) (h := ?_));clear hk a;rintro vr w ⟨y, rfl, hS1⟩ a hk;replace hS := hS.call hS1;clear hS1
 obtain ⟨id, kd, tag, text, cls, att, sty, par, kids⟩ := n
 obtain ⟨⟨y1, z1⟩, ⟨y2, z2⟩, ⟨y3, z3⟩, ⟨y4, z4⟩⟩ := y
 simp only at n1 n2 n3
 subst n3
 simp only [nodC] at hk
 (repeat' (first|((first|refine wx1 ?_|refine wx2 ?_ ?_<;>intro hp|refine s_end hk ?_)<;>(clear hk a;intro a hk))|((first|refine wx3 ?_;intro w b|refine wx4 ?_;intro w|refine wx5 ?_;intro w v);clear hk hS a;intro hS a hk)|refine wx0 ?_|fail))
 refine sg hk (g_callO hk (hf := by kernel_rfl) (hc := within5_any (bd := bd) (bm := bm) (bl := bb) (D := D) 1 x _ (hDR.mono hS.below) h.wf) (h := ?_));clear hk a;rintro vr w ⟨bw, rfl, hbw, hS1⟩ a hk;replace hS := hS.call hS1;clear hS1
 have hb : bw = false := by cases bw <;> simp_all
 subst hb
 (repeat' (first|((first|refine wx1 ?_|refine wx2 ?_ ?_<;>intro hp|refine s_end hk ?_)<;>(clear hk a;intro a hk))|((first|refine wx3 ?_;intro w b|refine wx4 ?_;intro w|refine wx5 ?_;intro w v);clear hk hS a;intro hS a hk)|refine wx0 ?_|fail))
 exact done1 hk (h := ⟨rfl, hS.nil⟩)
theorem noteP_0 {e : Int} (ops : List OpP) (o : OpP) (h : e = 0) : noteP e ops o = ops ++ [o] := if_pos h
set_option maxHeartbeats 16000000 in
theorem kids12_any {B : Bs} {w : World} {L : List HP} {bl bd : Nat} {D : DomP} {m K : Nat} {ks : List Int} {ops : List OpP} (to : List Int) (v : Value) (h : FkD D m ks K) (hK : K ≤ 100) (ht : to.Nodup) (hto : ∀ x ∈ to, 2 ≤ x ∧ x < 2 + m) (hks : ∀ x ∈ ks, x ∈ to)
  (hl1 : ks.length ≤ 50) (hl2 : to.length ≤ 50) (hlo : ops.length ≤ 1000) (hS : St B (domH bd D :: trailH bl bd ops :: OwT 3 to v :: L) w) :
  Calls Tryz.prog 10 #[pA bl, .int .i64 1, v] w (Ret fun r w' => r = .int .i64 0 ∧ ∃ D', FkD D' m to (K + (stepsF ks to).length) ∧ St B (domH bd D' :: trailH bl bd (ops ++ (stepsF ks to).map noteS) :: OwT 3 to v :: L) w') := by
 obtain ⟨u, hu, u1, u2, u3⟩ := h.ul
 have hnk := h.nod
 have hkind := @steps_kinds ks to
 have hcome := steps_come hnk ht
 have hlen : (stepsF ks to).length ≤ 100 := by
  have := (st_len ks to 0).2
  unfold stepsF
  omega
 obtain ⟨ao, c, ht1, -⟩ := trailH.get (hS.rd (A := trailH bl bd ops) atx)
 refine enter Tryz.func10 rfl Tryz.ntmps10 rfl (fun a hk => ?_)
 (repeat' (first|((first|refine wx1 ?_|refine wx2 ?_ ?_<;>intro hp|refine s_end hk ?_)<;>(clear hk a;intro a hk))|((first|refine wx3 ?_;intro w b|refine wx4 ?_;intro w|refine wx5 ?_;intro w v);clear hk hS a;intro hS a hk)|refine wx0 ?_|fail))
 obtain ⟨bm, bb, hDR⟩ := domH.get (hS.rd (A := domH bd D) atx)
 refine sg hk (g_callO hk (hf := by kernel_rfl) (hc := get5_some _ hDR hu h.bnd (by omega)) (h := ?_));clear hk a;rintro vr w ⟨y, rfl, hS1⟩ a hk;replace hS := hS.call hS1;clear hS1
 clear ht1 hDR
 obtain ⟨id, kd, tag, text, cls, att, sty, par, kids⟩ := u
 obtain ⟨⟨y1, z1⟩, ⟨y2, z2⟩, ⟨y3, z3⟩, ⟨y4, z4⟩⟩ := y
 simp only at u1 u2 u3
 subst u1
 subst u2
 subst u3
 simp only [nodC] at hk
 simp only [ndO, List.cons_append, List.nil_append] at hS
 (repeat' (first|((first|refine wx1 ?_|refine wx2 ?_ ?_<;>intro hp|refine s_end hk ?_)<;>(clear hk a;intro a hk))|((first|refine wx3 ?_;intro w b|refine wx4 ?_;intro w|refine wx5 ?_;intro w v);clear hk hS a;intro hS a hk)|refine wx0 ?_|fail))
 refine sg hk (g_callO hk (hf := by kernel_rfl) (hc := steps_any kids to (.slice y4 kids.length z4) v _ (OwT.rd (hS.rd (A := OwT 3 kids (.slice y4 kids.length z4)) atx)) (OwT.rd (hS.rd (A := OwT 3 to v) atx)) (by omega) (by omega)) (h := ?_));clear hk a;rintro vs w hS1 a hk;replace hS := hS.call hS1;clear hS1
 rw [once_same hnk, once_same ht] at hS
 rw [List.cons_append, List.nil_append] at hS
 generalize stepsF kids to = S at *
 have hS1 := hS.sub (L' := OwT 72 S vs :: domH bd D :: trailH bl bd ops :: OwT 3 to v :: L) (.cons atx (.cons atx (.cons atx (.cons atx sbx))))
 clear hS
 have hS := hS1
 clear hS1
 (repeat' (first|((first|refine wx1 ?_|refine wx2 ?_ ?_<;>intro hp|refine s_end hk ?_)<;>(clear hk a;intro a hk))|((first|refine wx3 ?_;intro w b|refine wx4 ?_;intro w|refine wx5 ?_;intro w v);clear hk hS a;intro hS a hk)|refine wx0 ?_|fail))
 replace hk := Kn.kp [0, 1, 9, 34, 35, 36] hk
 refine wp_for S.length (fun i _ => [(36, .int .i64 (i : Int))]) (fun _ _ => OwT 72 S vs :: domH bd D :: trailH bl bd ops :: OwT 3 to v :: L) (fun _ _ => True) () hk skx hS trivial ?_
 clear hk hS a
 rintro i - a w hi hk hS -
 by_cases hil : i < S.length
 ·obtain ⟨⟨k, x, q⟩, hx⟩ : ∃ s, S[i]? = some s := ⟨_, List.getElem?_eq_getElem hil⟩
  have hkx := hkind _ (List.mem_of_getElem? hx)
  simp only at hkx
  rcases hkx with ⟨k1, k2, k3⟩ | ⟨k1, k2, k3⟩ | ⟨k1, k2, k3⟩
  ·exact absurd (hks _ k2) k3
  ·subst k1
   (repeat' (first|((first|refine wx1 ?_|refine wx2 ?_ ?_<;>intro hp|refine s_end hk ?_)<;>(clear hk a;intro a hk))|((first|refine wx3 ?_;intro w b|refine wx4 ?_;intro w|refine wx5 ?_;intro w v);clear hk hS a;intro hS a hk)|refine wx0 ?_|fail))
   obtain ⟨bm, bb, hDR⟩ := domH.get (hS.rd (A := domH bd D) atx)
   obtain ⟨ao, c, ht1, -⟩ := trailH.get (hS.rd (A := trailH bl bd ops) atx)
   refine sg hk (g_callO hk (hf := by kernel_rfl) (hc := loose12_any x _ h (by omega) k2 (hto _ k3).1 (hto _ k3).2 ht1 hDR) (h := ?_));clear hk a;rintro _ w ⟨rfl, hS1⟩ a hk;replace hS := hS.call0 hS1;clear hS1
   (repeat' (first|((first|refine wx1 ?_|refine wx2 ?_ ?_<;>intro hp|refine s_end hk ?_)<;>(clear hk a;intro a hk))|((first|refine wx3 ?_;intro w b|refine wx4 ?_;intro w|refine wx5 ?_;intro w v);clear hk hS a;intro hS a hk)|refine wx0 ?_|fail))
   exact ⟨hil, (), hk.sd, hS.sub (.cons atx (.cons atx (.cons atx (.cons atx sbx)))), trivial⟩
  ·subst k1
   (repeat' (first|((first|refine wx1 ?_|refine wx2 ?_ ?_<;>intro hp|refine s_end hk ?_)<;>(clear hk a;intro a hk))|((first|refine wx3 ?_;intro w b|refine wx4 ?_;intro w|refine wx5 ?_;intro w v);clear hk hS a;intro hS a hk)|refine wx0 ?_|fail))
   exact ⟨hil, (), hk.sd, hS.sub (.cons atx (.cons atx (.cons atx (.cons atx sbx)))), trivial⟩
 ·have hii : i = S.length := by omega
  subst hii
  (repeat' (first|((first|refine wx1 ?_|refine wx2 ?_ ?_<;>intro hp|refine s_end hk ?_)<;>(clear hk a;intro a hk))|((first|refine wx3 ?_;intro w b|refine wx4 ?_;intro w|refine wx5 ?_;intro w v);clear hk hS a;intro hS a hk)|refine wx0 ?_|fail))
  replace hk := Kn.kp [0, 1, 57, 58, 59] hk
  refine wp_for S.length (fun i _ => [(59, .int .i64 (i : Int))]) (fun i (z : DomP × List Int) => domH bd z.1 :: trailH bl bd (ops ++ (S.take i).map noteS) :: OwT 72 S vs :: OwT 3 to v :: L) (fun i z => FkD z.1 m z.2 (K + i) ∧ applyW kids (S.take i) = some z.2) (D, kids) hk skx (by simpa using hS.sub (L' := domH bd D :: trailH bl bd ops :: OwT 72 S vs :: OwT 3 to v :: L) (.cons atx (.cons atx (.cons atx (.cons atx sbx))))) ⟨h, rfl⟩ ?_
  clear hk hS a h
  rintro i ⟨D', ks'⟩ a w hi hk hS ⟨h, hap⟩
  simp only at h hap hS
  have hol : (ops ++ (S.take i).map noteS).length ≤ 1100 := by rw [List.length_append, List.length_map, List.length_take];omega
  by_cases hil : i < S.length
  ·obtain ⟨⟨k, x, q⟩, hx⟩ : ∃ s, S[i]? = some s := ⟨_, List.getElem?_eq_getElem hil⟩
   have hkx := hkind _ (List.mem_of_getElem? hx)
   simp only at hkx
   have hap1 := apply_succ (o := kids) hx
   rw [hap, Option.bind_some] at hap1
   have hsn : ops ++ (S.take (i + 1)).map noteS = ops ++ (S.take i).map noteS ++ [noteS (k, x, q)] := by rw [take_snoc hx, List.map_append, List.append_assoc];rfl
   obtain ⟨ks2, hst⟩ : ∃ ks2, stepW ks' (k, x, q) = some ks2 := by
    cases hw : stepW ks' (k, x, q) with
    | some z => exact ⟨z, rfl⟩
    | none =>
     rw [hw] at hap1
     rw [apply_cut hap1] at hcome
     cases hcome
   rw [hst] at hap1
   generalize hO : ops ++ (S.take i).map noteS = O at *
   rcases hkx with ⟨k1, k2, k3⟩ | ⟨k1, k2, k3⟩ | ⟨k1, k2, k3⟩
   ·exact absurd (hks _ k2) k3
   ·subst k1
    obtain ⟨e0, hD⟩ := h.step2 hst rfl (hto _ k3).1 (hto _ k3).2
    simp only at e0 hD
    (repeat' (first|((first|refine wx1 ?_|refine wx2 ?_ ?_<;>intro hp|refine s_end hk ?_)<;>(clear hk a;intro a hk))|((first|refine wx3 ?_;intro w b|refine wx4 ?_;intro w|refine wx5 ?_;intro w v);clear hk hS a;intro hS a hk)|refine wx0 ?_|fail))
    refine sg hk (g_callO hk (hf := by kernel_rfl) (hc := lins6_any 1 q x h.wf h.bnd (by omega) (by omega) (hS.sub (L' := domH bd D' :: trailH bl bd O :: OwT 72 S vs :: OwT 3 to v :: L) (.cons atx (.cons atx (.cons atx (.cons atx sbx)))))) (h := ?_));clear hk hS a;rintro _ w ⟨rfl, hS⟩ a hk
    rw [noteP_0 _ _ e0] at hS
    (repeat' (first|((first|refine wx1 ?_|refine wx2 ?_ ?_<;>intro hp|refine s_end hk ?_)<;>(clear hk a;intro a hk))|((first|refine wx3 ?_;intro w b|refine wx4 ?_;intro w|refine wx5 ?_;intro w v);clear hk hS a;intro hS a hk)|refine wx0 ?_|fail))
    refine ⟨hil, ((insP D' 1 q x).1, ks2), hk.sd, ?_, ?_, hap1⟩
    ·simp only
     rw [hsn]
     exact hS
    ·exact hD
   ·subst k1
    obtain ⟨e0, hD⟩ := h.step3 hst rfl
    simp only at e0 hD
    (repeat' (first|((first|refine wx1 ?_|refine wx2 ?_ ?_<;>intro hp|refine s_end hk ?_)<;>(clear hk a;intro a hk))|((first|refine wx3 ?_;intro w b|refine wx4 ?_;intro w|refine wx5 ?_;intro w v);clear hk hS a;intro hS a hk)|refine wx0 ?_|fail))
    refine sg hk (g_callO hk (hf := by kernel_rfl) (hc := lmov6_any x q h.wf h.bnd (by omega) (by omega) (hS.sub (L' := domH bd D' :: trailH bl bd O :: OwT 72 S vs :: OwT 3 to v :: L) (.cons atx (.cons atx (.cons atx (.cons atx sbx)))))) (h := ?_));clear hk hS a;rintro _ w ⟨rfl, hS⟩ a hk
    rw [noteP_0 _ _ e0] at hS
    (repeat' (first|((first|refine wx1 ?_|refine wx2 ?_ ?_<;>intro hp|refine s_end hk ?_)<;>(clear hk a;intro a hk))|((first|refine wx3 ?_;intro w b|refine wx4 ?_;intro w|refine wx5 ?_;intro w v);clear hk hS a;intro hS a hk)|refine wx0 ?_|fail))
    refine ⟨hil, ((movDP D' x q).1, ks2), hk.sd, ?_, ?_, hap1⟩
    ·simp only
     rw [hsn]
     exact hS
    ·exact hD
  ·have hii : i = S.length := by omega
   subst hii
   rw [List.take_length] at hap hS
   rw [hcome] at hap
   cases hap
   (repeat' (first|((first|refine wx1 ?_|refine wx2 ?_ ?_<;>intro hp|refine s_end hk ?_)<;>(clear hk a;intro a hk))|((first|refine wx3 ?_;intro w b|refine wx4 ?_;intro w|refine wx5 ?_;intro w v);clear hk hS a;intro hS a hk)|refine wx0 ?_|fail))
   exact done1 hk (h := ⟨rfl, D', h, hS.sub (.cons atx (.cons atx (.cons atx sbx)))⟩)
end Go.Proofs.YtbpkddpkcnlmhaaGreat
