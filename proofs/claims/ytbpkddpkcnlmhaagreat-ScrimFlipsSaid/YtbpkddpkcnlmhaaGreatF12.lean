/- Layer 5: Doms are read. How texts begin. Layer 2: what the program says of texts. Layer 5: nodes are made, and changed. -/
import Derived.Test.YtbpkddpkcnlmhaaGreatF11
import Derived.Test.YtbpkddpkcnlmhaaGreatF07
set_option linter.all false
namespace Go.Proofs.YtbpkddpkcnlmhaaGreat
open Go.RowKit
section
variable {P : Program} {a : Act} {w : World} {n : Nat} {l : List (Nat × Value)} {df : List Deferred}
 {dst : Option Nat} {ty : TypeId} {pos : String} {af : Array Edge} {g : Option (Nat × Bool)} {R : Value → World → Prop}
theorem g_pnE {x : Operand} {t t' : TypeId} {o : Option Addr} (hk : Kn df n a l) (h : R (.bool o.isNone) w) (hT : P.underlying t = some (.pointer (P.pointee t))) (hx : ev l x = some (.pointer o) := by rfl) :
  Gives P ⟨dst, .binOp .eql t x (.const (.pointer none)) t', ty, pos, af, g⟩ a w R :=
 givesv (v := .bool o.isNone) (by
  have h1 := run_eql_pointer_nil (P := P) w t o hT
  have h2 : a.eval (.const (.pointer none)) = .pointer none := rfl
  simp [execOp, hk.eval hx, h2, eqGuard_at_pointer, h1]) h
theorem g_pnN {x : Operand} {t t' : TypeId} {o : Option Addr} (hk : Kn df n a l) (h : R (.bool (!o.isNone)) w) (hT : P.underlying t = some (.pointer (P.pointee t))) (hx : ev l x = some (.pointer o) := by rfl) :
  Gives P ⟨dst, .binOp .neq t x (.const (.pointer none)) t', ty, pos, af, g⟩ a w R :=
 givesv (v := .bool (!o.isNone)) (by
  have h1 := run_neq_pointer_nil (P := P) w t o hT
  have h2 : a.eval (.const (.pointer none)) = .pointer none := rfl
  simp [execOp, hk.eval hx, h2, eqGuard_at_pointer, h1]) h
theorem g_lenM {κ : Type} {enc : κ → Value} {m : List (κ × Value)} {x : Operand} {T K E : TypeId} {v : Value} (hk : Kn df n a l) (h : R (.int .i64 m.length) w) (hm : (mapH enc v m).rd w) (hT : mapOf P T = some (K, E)) (hx : ev l x = some v := by rfl) :
  Gives P ⟨dst, .call { callee := .builtin .len, args := #[x], argTypes := #[T] }, ty, pos, af, g⟩ a w R := by
 obtain ⟨F, b, es, c, rfl, hF, hF', hb, he, _⟩ := hm
 have hl : es.size = m.length := by
  have := congrArg List.length he
  simpa using this
 refine givesv (v := .int .i64 m.length) ?_ h
 simp [execOp, resolve, invoke, builtin, hk.eval hx, Builtin.len_, run_underlying (mapOf_und hT), goInt, getObj, Sem.run, hb, hl]
end
set_option maxRecDepth 100000
attribute [local irreducible] Go.Code.wpIn Go.wpListIn Go.Calls Gives Go.Exit.then Go.Exit.inBlock Done ObxE
def pO (bl : Int → Nat) (f : Nds) (id : Int) : Option Addr := (f id).map (fun _ => ⟨bl id, 0, none⟩)
theorem pO_some {bl : Int → Nat} {f : Nds} {id : Int} {n : NodeP} (h : f id = some n) : pO bl f id = some ⟨bl id, 0, none⟩ := by unfold pO; rw [h]; rfl
theorem pO_none {bl : Int → Nat} {f : Nds} {id : Int} (h : f id = none) : pO bl f id = none := by unfold pO; rw [h]; rfl
section
variable {a : Act} {w : World} {n : Nat} {l : List (Nat × Value)} {df : List Deferred}
 {dst : Option Nat} {ty : TypeId} {pos : String} {af : Array Edge} {g : Option (Nat × Bool)} {R : Value → World → Prop}
theorem g_lk5 {x y : Operand} {v : Value} {id : Int} {bl : Int → Nat} {ns : List NodeP} (hk : Kn df n a l) (hm : (mapH encI v (mapL bl ns)).rd w) (h : R (.pointer (pO bl (fnP ns) id)) w) 
  (hx : ev l x = some v := by rfl) (hy : ev l y = some (.int .i64 id) := by rfl) : Gives Tryz.prog ⟨dst, .lookup 53 x y false, ty, pos, af, g⟩ a w R := by
 refine g_lookup (k := id) hk hm ?_ (mT rfl) keyI (oT rfl) hx hy
 rw [getL_mapL]
 unfold pO at h
 cases hf : fnP ns id with
 | none => rw [hf] at h;exact h
 | some n => rw [hf] at h;exact h
theorem g_lk5o {x y : Operand} {v : Value} {id : Int} {bl : Int → Nat} {ns : List NodeP} (hk : Kn df n a l) (hm : (mapH encI v (mapL bl ns)).rd w) (h : R (.tuple #[.pointer (pO bl (fnP ns) id), .bool (fnP ns id).isSome]) w) 
  (hx : ev l x = some v := by rfl) (hy : ev l y = some (.int .i64 id) := by rfl) : Gives Tryz.prog ⟨dst, .lookup 53 x y true, ty, pos, af, g⟩ a w R := by
 refine g_lookupOk (k := id) hk hm ?_ (mT rfl) keyI (oT rfl) hx hy
 rw [getL_mapL]
 unfold pO at h
 cases hf : fnP ns id with
 | none => rw [hf] at h;exact h
 | some n => rw [hf] at h;exact h
end
theorem DomR.nd {bd : Nat} {D : DomP} {bm : Nat} {bl : Int → Nat} {w : World} (h : DomR bd D bm bl w) {id : Int} {n : NodeP} (hn : D.f id = some n) : (nodH (bl id) n).rd w := ndsH.rd h.n hn
theorem cloneI5_any (l : List Int) (v : Value) (w0 : World) (hv : SlT l v w0) (hl : l.length ≤ 900) : Calls Tryz.prog 68 #[v] w0 (Ret fun v w => St w0 [OwT 3 l v] w) := by
 obtain ⟨ao, c, rfl, hao, _⟩ := hv.shape
 refine enter Tryz.func68 rfl Tryz.ntmps68 rfl (fun a hk => ?_);have hS := St.refl w0
 (repeat' (first|((first|refine wx1 ?_|refine wx2 ?_ ?_<;>intro hp|refine s_end hk ?_)<;>(clear hk a;intro a hk))|((first|refine wx3 ?_;intro w b|refine wx4 ?_;intro w|refine wx5 ?_;intro w v);clear hk hS a;intro hS a hk)|refine wx0 ?_|fail))
 refine sg hk (g_eqN hk ?_ (hT := eT rfl));clear hk a;intro a hk
 cases ao with
 | none =>
  obtain ⟨h1, _⟩ := hao rfl
  subst h1
  (repeat' (first|((first|refine wx1 ?_|refine wx2 ?_ ?_<;>intro hp|refine s_end hk ?_)<;>(clear hk a;intro a hk))|((first|refine wx3 ?_;intro w b|refine wx4 ?_;intro w|refine wx5 ?_;intro w v);clear hk hS a;intro hS a hk)|refine wx0 ?_|fail))
  exact done1 hk (h := hS.nilT 3 Int)
 | some ad =>
  (repeat' (first|((first|refine wx1 ?_|refine wx2 ?_ ?_<;>intro hp|refine s_end hk ?_)<;>(clear hk a;intro a hk))|((first|refine wx3 ?_;intro w b|refine wx4 ?_;intro w|refine wx5 ?_;intro w v);clear hk hS a;intro hS a hk)|refine wx0 ?_|fail))
  refine sg hk (g_bs0 Int hS ?_ (hT := eT rfl) (hE := zT rfl));clear hk hS a;intro w v0 hS a hk
  refine sg hk (g_move hk ?_);clear hk a;intro a hk
  refine sg hk (g_appT (xs := ([] : List Int)) (ys := l) hk hS ?_ (hT := eT rfl) (hTx := eT rfl) (hE := zT rfl) (hz := oT rfl) (hzs := rfl) (hs := hS.rdT hv) (hby := bT rfl) (hbytes := by simp only [List.length_nil];omega) (h63 := by simp only [maxLen, List.length_nil];omega));clear hk hS a;intro w v1 hS a hk
  rw [List.nil_append] at hS
  (repeat' (first|((first|refine wx1 ?_|refine wx2 ?_ ?_<;>intro hp|refine s_end hk ?_)<;>(clear hk a;intro a hk))|((first|refine wx3 ?_;intro w b|refine wx4 ?_;intro w|refine wx5 ?_;intro w v);clear hk hS a;intro hS a hk)|refine wx0 ?_|fail))
  exact done1 hk (h := hS)
theorem clone5S_any (l : List PrS) (v : Value) (w0 : World) (hv : SlT l v w0) (hl : l.length ≤ 900) : Calls Tryz.prog 69 #[v] w0 (Ret fun v w => St w0 [OwT 128 l v] w) := by
 obtain ⟨ao, c, rfl, hao, _⟩ := hv.shape
 refine enter Tryz.func69 rfl Tryz.ntmps69 rfl (fun a hk => ?_);have hS := St.refl w0
 (repeat' (first|((first|refine wx1 ?_|refine wx2 ?_ ?_<;>intro hp|refine s_end hk ?_)<;>(clear hk a;intro a hk))|((first|refine wx3 ?_;intro w b|refine wx4 ?_;intro w|refine wx5 ?_;intro w v);clear hk hS a;intro hS a hk)|refine wx0 ?_|fail))
 refine sg hk (g_eqN hk ?_ (hT := eT rfl));clear hk a;intro a hk
 cases ao with
 | none =>
  obtain ⟨h1, _⟩ := hao rfl
  subst h1
  (repeat' (first|((first|refine wx1 ?_|refine wx2 ?_ ?_<;>intro hp|refine s_end hk ?_)<;>(clear hk a;intro a hk))|((first|refine wx3 ?_;intro w b|refine wx4 ?_;intro w|refine wx5 ?_;intro w v);clear hk hS a;intro hS a hk)|refine wx0 ?_|fail))
  exact done1 hk (h := hS.nilT 128 PrS)
 | some ad =>
  (repeat' (first|((first|refine wx1 ?_|refine wx2 ?_ ?_<;>intro hp|refine s_end hk ?_)<;>(clear hk a;intro a hk))|((first|refine wx3 ?_;intro w b|refine wx4 ?_;intro w|refine wx5 ?_;intro w v);clear hk hS a;intro hS a hk)|refine wx0 ?_|fail))
  refine sg hk (g_bs0 PrS hS ?_ (hT := eT rfl) (hE := zT rfl));clear hk hS a;intro w v0 hS a hk
  refine sg hk (g_move hk ?_);clear hk a;intro a hk
  refine sg hk (g_appT (xs := ([] : List PrS)) (ys := l) hk hS ?_ (hT := eT rfl) (hTx := eT rfl) (hE := zT rfl) (hz := oT rfl) (hzs := rfl) (hs := hS.rdT hv) (hby := bT rfl) (hbytes := by simp only [List.length_nil];omega) (h63 := by simp only [maxLen, List.length_nil];omega));clear hk hS a;intro w v1 hS a hk
  rw [List.nil_append] at hS
  (repeat' (first|((first|refine wx1 ?_|refine wx2 ?_ ?_<;>intro hp|refine s_end hk ?_)<;>(clear hk a;intro a hk))|((first|refine wx3 ?_;intro w b|refine wx4 ?_;intro w|refine wx5 ?_;intro w v);clear hk hS a;intro hS a hk)|refine wx0 ?_|fail))
  exact done1 hk (h := hS)
theorem clone5I_any (l : List PrI) (v : Value) (w0 : World) (hv : SlT l v w0) (hl : l.length ≤ 900) : Calls Tryz.prog 70 #[v] w0 (Ret fun v w => St w0 [OwT 124 l v] w) := by
 obtain ⟨ao, c, rfl, hao, _⟩ := hv.shape
 refine enter Tryz.func70 rfl Tryz.ntmps70 rfl (fun a hk => ?_);have hS := St.refl w0
 (repeat' (first|((first|refine wx1 ?_|refine wx2 ?_ ?_<;>intro hp|refine s_end hk ?_)<;>(clear hk a;intro a hk))|((first|refine wx3 ?_;intro w b|refine wx4 ?_;intro w|refine wx5 ?_;intro w v);clear hk hS a;intro hS a hk)|refine wx0 ?_|fail))
 refine sg hk (g_eqN hk ?_ (hT := eT rfl));clear hk a;intro a hk
 cases ao with
 | none =>
  obtain ⟨h1, _⟩ := hao rfl
  subst h1
  (repeat' (first|((first|refine wx1 ?_|refine wx2 ?_ ?_<;>intro hp|refine s_end hk ?_)<;>(clear hk a;intro a hk))|((first|refine wx3 ?_;intro w b|refine wx4 ?_;intro w|refine wx5 ?_;intro w v);clear hk hS a;intro hS a hk)|refine wx0 ?_|fail))
  exact done1 hk (h := hS.nilT 124 PrI)
 | some ad =>
  (repeat' (first|((first|refine wx1 ?_|refine wx2 ?_ ?_<;>intro hp|refine s_end hk ?_)<;>(clear hk a;intro a hk))|((first|refine wx3 ?_;intro w b|refine wx4 ?_;intro w|refine wx5 ?_;intro w v);clear hk hS a;intro hS a hk)|refine wx0 ?_|fail))
  refine sg hk (g_bs0 PrI hS ?_ (hT := eT rfl) (hE := zT rfl));clear hk hS a;intro w v0 hS a hk
  refine sg hk (g_move hk ?_);clear hk a;intro a hk
  refine sg hk (g_appT (xs := ([] : List PrI)) (ys := l) hk hS ?_ (hT := eT rfl) (hTx := eT rfl) (hE := zT rfl) (hz := oT rfl) (hzs := rfl) (hs := hS.rdT hv) (hby := bT rfl) (hbytes := by simp only [List.length_nil];omega) (h63 := by simp only [maxLen, List.length_nil];omega));clear hk hS a;intro w v1 hS a hk
  rw [List.nil_append] at hS
  (repeat' (first|((first|refine wx1 ?_|refine wx2 ?_ ?_<;>intro hp|refine s_end hk ?_)<;>(clear hk a;intro a hk))|((first|refine wx3 ?_;intro w b|refine wx4 ?_;intro w|refine wx5 ?_;intro w v);clear hk hS a;intro hS a hk)|refine wx0 ?_|fail))
  exact done1 hk (h := hS)
set_option maxHeartbeats 4000000 in
theorem nclone_any (n : NodeP) (b : Nat) (w0 : World) (hn : (nodH b n).rd w0) {K : Nat} (hb : NdB K n) (hK : K ≤ 900) : Calls Tryz.prog 44 #[pA b] w0 (Ret fun v w => ∃ bn, v = pA bn ∧ St w0 [nodH bn n] w) := by
 obtain ⟨a1, c1, a2, c2, a3, c3, a4, c4, h0, h1, h2, h3, h4⟩ := nodH.get hn
 obtain ⟨b1, b2, b3, b4, -, -⟩ := hb
 obtain ⟨id, kind, tag, text, cls, att, sty, par, kids⟩ := n
 simp only at b1 b2 b3 b4 h0 h1 h2 h3 h4
 simp only [nodC] at h0
 refine enter Tryz.func44 rfl Tryz.ntmps44 rfl (fun a hk => ?_);have hS := St.refl w0
 (repeat' (first|((first|refine wx1 ?_|refine wx2 ?_ ?_<;>intro hp|refine s_end hk ?_)<;>(clear hk a;intro a hk))|((first|refine wx3 ?_;intro w b|refine wx4 ?_;intro w|refine wx5 ?_;intro w v);clear hk hS a;intro hS a hk)|refine wx0 ?_|fail))
 rename Nat => bn
 refine wp_drawn 10 mixed (by kernel_rfl) hk hS ?_;clear hk hS a
 (repeat' (first|(show ObxE _ _ _ _ _ _ _ _ _ (_::_) _ _ _;first|refine ox1 ?_|refine ox2 ?_ ?_<;>intro hp)|fail))
 refine' obe_res (fun us a w hk hd hS => ?_) ?_;rotate_left;focus (have hk := Kn.vw hk vwx;exact g_callO hk (hf := by kernel_rfl) (hc := cloneS_any cls _ _ (hS.rdT h1) (by omega)) (h := fun _ _ h => h))
 (repeat' (first|(show ObxE _ _ _ _ _ _ _ _ _ (_::_) _ _ _;first|refine ox1 ?_|refine ox2 ?_ ?_<;>intro hp)|fail))
 refine' obe_res (fun us a w hk hd hS => ?_) ?_;rotate_left;focus (have hk := Kn.vw hk vwx;exact g_callO hk (hf := by kernel_rfl) (hc := cloneI5_any kids _ _ (hS.rdT h4) (by omega)) (h := fun _ _ h => h))
 refine obe_nil ⟨rfl, ?_⟩;intro us a w hk hS
 simp only [resE, List.cons_append, List.nil_append, Nat.zero_add, Nat.reduceAdd] at hS
 replace hk := Kn.kp [0, 3, 11, 16] hk
 simp only [HV.of, Nat.zero_add, Nat.reduceAdd] at hk
 generalize us 4 = v11 at hS hk
 generalize us 9 = v16 at hS hk
 obtain ⟨aov11, cv11, hshp, _⟩ := (OwT.rd (hS.rd (A := OwT 9 _ v11) atx)).shape;subst hshp
 obtain ⟨aov16, cv16, hshp, _⟩ := (OwT.rd (hS.rd (A := OwT 3 _ v16) atx)).shape;subst hshp
 (repeat' (first|((first|refine wx1 ?_|refine wx2 ?_ ?_<;>intro hp|refine s_end hk ?_)<;>(clear hk a;intro a hk))|((first|refine wx3 ?_;intro w b|refine wx4 ?_;intro w|refine wx5 ?_;intro w v);clear hk hS a;intro hS a hk)|refine wx0 ?_|fail))
 refine wp_drawn 10 mixed (by kernel_rfl) hk hS ?_;clear hk hS a
 (repeat' (first|(show ObxE _ _ _ _ _ _ _ _ _ (_::_) _ _ _;first|refine ox1 ?_|refine ox2 ?_ ?_<;>intro hp)|fail))
 refine' obe_res (fun us a w hk hd hS => ?_) ?_;rotate_left;focus (have hk := Kn.vw hk vwx;exact g_callO hk (hf := by kernel_rfl) (hc := clone5S_any att _ _ (hS.rdT h2) (by omega)) (h := fun _ _ h => h))
 (repeat' (first|(show ObxE _ _ _ _ _ _ _ _ _ (_::_) _ _ _;first|refine ox1 ?_|refine ox2 ?_ ?_<;>intro hp)|fail))
 refine' obe_res (fun us a w hk hd hS => ?_) ?_;rotate_left;focus (have hk := Kn.vw hk vwx;exact g_callO hk (hf := by kernel_rfl) (hc := clone5I_any sty _ _ (hS.rdT h3) (by omega)) (h := fun _ _ h => h))
 refine obe_nil ⟨rfl, ?_⟩;intro us a w hk hS
 simp only [resE, List.cons_append, List.nil_append, Nat.zero_add, Nat.reduceAdd] at hS
 replace hk := Kn.kp [0, 3, 23, 28] hk
 simp only [HV.of, Nat.zero_add, Nat.reduceAdd] at hk
 generalize us 4 = v23 at hS hk
 generalize us 9 = v28 at hS hk
 obtain ⟨aov23, cv23, hshp, _⟩ := (OwT.rd (hS.rd (A := OwT 128 _ v23) atx)).shape;subst hshp
 obtain ⟨aov28, cv28, hshp, _⟩ := (OwT.rd (hS.rd (A := OwT 124 _ v28) atx)).shape;subst hshp
 (repeat' (first|((first|refine wx1 ?_|refine wx2 ?_ ?_<;>intro hp|refine s_end hk ?_)<;>(clear hk a;intro a hk))|((first|refine wx3 ?_;intro w b|refine wx4 ?_;intro w|refine wx5 ?_;intro w v);clear hk hS a;intro hS a hk)|refine wx0 ?_|fail))
 exact done1 hk (h := ⟨bn, rfl, nodH.of (y := ((aov11, cv11), (aov23, cv23), (aov28, cv28), (aov16, cv16))) (L := []) (hS.sub (by (repeat (first | exact Sub.nil | exact Sub.refl | refine Sub.cons atx ?_))))⟩)
abbrev ndO (n : NodeP) (y : NoA) : List HP := [OwT 9 n.cls (.slice y.1.1 n.cls.length y.1.2), OwT 128 n.att (.slice y.2.1.1 n.att.length y.2.1.2), OwT 124 n.sty (.slice y.2.2.1.1 n.sty.length y.2.2.1.2), OwT 3 n.kids (.slice y.2.2.2.1 n.kids.length y.2.2.2.2)]
abbrev ndZ : Value := .agg #[.int .i64 0, .int .i64 0, .string ⟨#[]⟩, .string ⟨#[]⟩, .slice none 0 0, .slice none 0 0, .slice none 0 0, .int .i64 0, .slice none 0 0]
set_option maxHeartbeats 2000000 in
theorem get5_some {bd bm : Nat} {bl : Int → Nat} {D : DomP} {id : Int} {n : NodeP} (w0 : World) (hDR : DomR bd D bm bl w0) (hn : D.f id = some n) {K : Nat} (hb : Bnd K D) (hK : K ≤ 900) :
  Calls Tryz.prog 25 #[pA bd, .int .i64 id] w0 (Ret fun v w => ∃ y : NoA, v = .tuple #[.agg (nodC n y).toArray, .bool true] ∧ St w0 (ndO n y) w) := by
 have h1 := hDR.d
 simp only [domC5] at h1
 refine enter Tryz.func25 rfl Tryz.ntmps25 rfl (fun a hk => ?_);have hS := St.refl w0
 (repeat' (first|((first|refine wx1 ?_|refine wx2 ?_ ?_<;>intro hp|refine s_end hk ?_)<;>(clear hk a;intro a hk))|((first|refine wx3 ?_;intro w b|refine wx4 ?_;intro w|refine wx5 ?_;intro w v);clear hk hS a;intro hS a hk)|refine wx0 ?_|fail))
 refine sg hk (g_lk5o hk (hDR.mono hS.below).m ?_);clear hk a;intro a hk
 rw [pO_some hn, show fnP D.l id = some n from hn] at hk
 simp only [Option.isSome_some] at hk
 (repeat' (first|((first|refine wx1 ?_|refine wx2 ?_ ?_<;>intro hp|refine s_end hk ?_)<;>(clear hk a;intro a hk))|((first|refine wx3 ?_;intro w b|refine wx4 ?_;intro w|refine wx5 ?_;intro w v);clear hk hS a;intro hS a hk)|refine wx0 ?_|fail))
 refine sg hk (g_callO hk (hf := by kernel_rfl) (hc := nclone_any n (bl id) _ ((hDR.nd hn).mono hS.below) (hb.get hn) hK) (h := ?_));clear hk a;rintro vr w ⟨bn, rfl, hS1⟩ a hk;replace hS := hS.call hS1;clear hS1
 rw [List.cons_append, List.nil_append] at hS
 obtain ⟨a1, c1, a2, c2, a3, c3, a4, c4, hS1⟩ := hS.nod (b := bn) (n := n) .here
 clear hS
 have hS := hS1
 clear hS1
 simp only [nodeL, nodC, List.cons_append, List.nil_append] at hS
 (repeat' (first|((first|refine wx1 ?_|refine wx2 ?_ ?_<;>intro hp|refine s_end hk ?_)<;>(clear hk a;intro a hk))|((first|refine wx3 ?_;intro w b|refine wx4 ?_;intro w|refine wx5 ?_;intro w v);clear hk hS a;intro hS a hk)|refine wx0 ?_|fail))
 exact done2R hk rfl (.str hS (hT := aT rfl) (hs := zT rfl)) (.tmp rfl) (h := ⟨((a1, c1), (a2, c2), (a3, c3), (a4, c4)), rfl, hS.sub (by (repeat (first | exact Sub.nil | exact Sub.refl | refine Sub.cons atx ?_)))⟩)
theorem count5_any {bd bm : Nat} {bl : Int → Nat} {D : DomP} (w0 : World) (hDR : DomR bd D bm bl w0) (hl : D.l.length ≤ 1000000) : Calls Tryz.prog 20 #[pA bd] w0 (Ret fun v w => v = .int .i64 ((D.l.length : Int) - 1) ∧ St w0 [] w) := by
 have h1 := hDR.d
 simp only [domC5] at h1
 refine enter Tryz.func20 rfl Tryz.ntmps20 rfl (fun a hk => ?_);have hS := St.refl w0
 (repeat' (first|((first|refine wx1 ?_|refine wx2 ?_ ?_<;>intro hp|refine s_end hk ?_)<;>(clear hk a;intro a hk))|((first|refine wx3 ?_;intro w b|refine wx4 ?_;intro w|refine wx5 ?_;intro w v);clear hk hS a;intro hS a hk)|refine wx0 ?_|fail))
 refine sg hk (g_lenM hk ?_ (hDR.mono hS.below).m (mT rfl));clear hk a;intro a hk
 rw [show (mapL bl D.l).length = D.l.length from List.length_map _] at hk
 (repeat' (first|((first|refine wx1 ?_|refine wx2 ?_ ?_<;>intro hp|refine s_end hk ?_)<;>(clear hk a;intro a hk))|((first|refine wx3 ?_;intro w b|refine wx4 ?_;intro w|refine wx5 ?_;intro w v);clear hk hS a;intro hS a hk)|refine wx0 ?_|fail))
 exact done1 hk (h := ⟨rfl, hS.nil⟩)
theorem room5_any {bd bm : Nat} {bl : Int → Nat} {D : DomP} (w0 : World) (hDR : DomR bd D bm bl w0) (hl : D.l.length ≤ 1000000) (hm : 1 ≤ D.most ∧ D.most ≤ 65536) : Calls Tryz.prog 6 #[pA bd] w0 (Ret fun v w => v = .int .i64 (D.most - ((D.l.length : Int) - 1)) ∧ St w0 [] w) := by
 have h1 := hDR.d
 simp only [domC5] at h1
 refine enter Tryz.func6 rfl Tryz.ntmps6 rfl (fun a hk => ?_);have hS := St.refl w0
 (repeat' (first|((first|refine wx1 ?_|refine wx2 ?_ ?_<;>intro hp|refine s_end hk ?_)<;>(clear hk a;intro a hk))|((first|refine wx3 ?_;intro w b|refine wx4 ?_;intro w|refine wx5 ?_;intro w v);clear hk hS a;intro hS a hk)|refine wx0 ?_|fail))
 refine wp_drawn 8 mixed (by kernel_rfl) hk hS ?_;clear hk hS a
 (repeat' (first|(show ObxE _ _ _ _ _ _ _ _ _ (_::_) _ _ _;first|refine ox1 ?_|refine ox2 ?_ ?_<;>intro hp)|fail))
 refine' obe_val (fun us a w hk hd hS => ?_) ?_;rotate_left;focus (have hk := Kn.vw hk vwx;exact g_callO hk (hf := by kernel_rfl) (hc := count5_any _ (hDR.mono hS.below) hl) (h := fun _ _ h => h))
 (repeat' (first|(show ObxE _ _ _ _ _ _ _ _ _ (_::_) _ _ _;first|refine ox1 ?_|refine ox2 ?_ ?_<;>intro hp)|fail))
 refine obe_nil ⟨rfl, ?_⟩;intro us a w hk hS
 (repeat' (first|((first|refine wx1 ?_|refine wx2 ?_ ?_<;>intro hp|refine s_end hk ?_)<;>(clear hk a;intro a hk))|((first|refine wx3 ?_;intro w b|refine wx4 ?_;intro w|refine wx5 ?_;intro w v);clear hk hS a;intro hS a hk)|refine wx0 ?_|fail))
 exact done1 hk (h := ⟨rfl, hS.nil⟩)
set_option maxHeartbeats 4000000 in
theorem within5_any {bd bm : Nat} {bl : Int → Nat} {D : DomP} (id of_ : Int) (w0 : World) (hDR : DomR bd D bm bl w0) (hW : WfD D) : Calls Tryz.prog 39 #[pA bd, .int .i64 id, .int .i64 of_] w0 (Ret fun v w => ∃ b, v = .bool b ∧ (b = true ↔ Win D.f of_ id) ∧ St w0 [] w) := by
 have h1 := hDR.d
 simp only [domC5] at h1
 have hwf : WellFounded (parOf D.f) := ⟨hW.wf.accU⟩
 refine enter Tryz.func39 rfl Tryz.ntmps39 rfl (fun a hk => ?_);have hS := St.refl w0
 (repeat' (first|((first|refine wx1 ?_|refine wx2 ?_ ?_<;>intro hp|refine s_end hk ?_)<;>(clear hk a;intro a hk))|((first|refine wx3 ?_;intro w b|refine wx4 ?_;intro w|refine wx5 ?_;intro w v);clear hk hS a;intro hS a hk)|refine wx0 ?_|fail))
 refine sg hk (g_lk5 hk (hDR.mono hS.below).m ?_);clear hk a;intro a hk
 refine sg hk (g_pnE hk ?_ (by kernel_rfl));clear hk a;intro a hk
 cases ho : D.f of_ with
 | none =>
  rw [pO_none ho] at hk
  simp only [Option.isNone_none] at hk
  (repeat' (first|((first|refine wx1 ?_|refine wx2 ?_ ?_<;>intro hp|refine s_end hk ?_)<;>(clear hk a;intro a hk))|((first|refine wx3 ?_;intro w b|refine wx4 ?_;intro w|refine wx5 ?_;intro w v);clear hk hS a;intro hS a hk)|refine wx0 ?_|fail))
  exact done1 hk (h := ⟨false, rfl, ⟨fun h => (by cases h), fun h => by obtain ⟨m, hm⟩ := h.top;rw [ho] at hm;cases hm⟩, hS.nil⟩)
 | some no =>
  rw [pO_some ho] at hk
  simp only [Option.isNone_some] at hk
  (repeat' (first|((first|refine wx1 ?_|refine wx2 ?_ ?_<;>intro hp|refine s_end hk ?_)<;>(clear hk a;intro a hk))|((first|refine wx3 ?_;intro w b|refine wx4 ?_;intro w|refine wx5 ?_;intro w v);clear hk hS a;intro hS a hk)|refine wx0 ?_|fail))
  refine sg hk (g_lk5 hk (hDR.mono hS.below).m ?_);clear hk a;intro a hk
  (repeat' (first|((first|refine wx1 ?_|refine wx2 ?_ ?_<;>intro hp|refine s_end hk ?_)<;>(clear hk a;intro a hk))|((first|refine wx3 ?_;intro w b|refine wx4 ?_;intro w|refine wx5 ?_;intro w v);clear hk hS a;intro hS a hk)|refine wx0 ?_|fail))
  replace hk := Kn.kp [0, 2, 7] hk
  refine wp_while (fun x : Int => [(7, .pointer (pO bl D.f x))]) (fun _ => []) (fun x => Win D.f of_ id ↔ Win D.f of_ x) (fun x => depU D.f hwf x) id hk skx hS.nil Iff.rfl ?_
  clear hk hS a
  intro x a w hk hS hx
  (repeat' (first|((first|refine wx1 ?_|refine wx2 ?_ ?_<;>intro hp|refine s_end hk ?_)<;>(clear hk a;intro a hk))|((first|refine wx3 ?_;intro w b|refine wx4 ?_;intro w|refine wx5 ?_;intro w v);clear hk hS a;intro hS a hk)|refine wx0 ?_|fail))
  refine sg hk (g_pnN hk ?_ (by kernel_rfl));clear hk a;intro a hk
  cases hf : D.f x with
  | none =>
   rw [pO_none hf] at hk
   simp only [Option.isNone_none, Bool.not_true] at hk
   (repeat' (first|((first|refine wx1 ?_|refine wx2 ?_ ?_<;>intro hp|refine s_end hk ?_)<;>(clear hk a;intro a hk))|((first|refine wx3 ?_;intro w b|refine wx4 ?_;intro w|refine wx5 ?_;intro w v);clear hk hS a;intro hS a hk)|refine wx0 ?_|fail))
   exact done1 hk (h := ⟨false, rfl, ⟨fun h => (by cases h), fun h => absurd (hx.1 h) (win_none hf)⟩, hS.nil⟩)
  | some m =>
   rw [pO_some hf] at hk
   simp only [Option.isNone_some, Bool.not_false] at hk
   obtain ⟨a1, c1, a2, c2, a3, c3, a4, c4, h0, -⟩ := nodH.get (hDR.nd hf)
   simp only [nodC] at h0
   have hmi : m.id = x := fnd_id hf
   have hdep := depU_some hwf hf
   by_cases he : m.id = of_
   ·(repeat' (first|((first|refine wx1 ?_|refine wx2 ?_ ?_<;>intro hp|refine s_end hk ?_)<;>(clear hk a;intro a hk))|((first|refine wx3 ?_;intro w b|refine wx4 ?_;intro w|refine wx5 ?_;intro w v);clear hk hS a;intro hS a hk)|refine wx0 ?_|fail))
    exact done1 hk (h := ⟨true, rfl, ⟨fun _ => hx.2 (by rw [← he, hmi];exact .refl hf), fun _ => rfl⟩, hS.nil⟩)
   ·(repeat' (first|((first|refine wx1 ?_|refine wx2 ?_ ?_<;>intro hp|refine s_end hk ?_)<;>(clear hk a;intro a hk))|((first|refine wx3 ?_;intro w b|refine wx4 ?_;intro w|refine wx5 ?_;intro w v);clear hk hS a;intro hS a hk)|refine wx0 ?_|fail))
    refine wp_drawn 9 mixed (by kernel_rfl) hk hS ?_;clear hk hS a
    (repeat' (first|(show ObxE _ _ _ _ _ _ _ _ _ (_::_) _ _ _;first|refine ox1 ?_|refine ox2 ?_ ?_<;>intro hp)|fail))
    refine' obe_val (fun us a w hk hd hS => ?_) ?_;rotate_left;focus (have hk := Kn.vw hk vwx;exact g_lk5 hk (hDR.mono hS.below).m (same _ _))
    refine obe_nil ⟨rfl, ?_⟩;intro us a w hk hS
    (repeat' (first|((first|refine wx1 ?_|refine wx2 ?_ ?_<;>intro hp|refine s_end hk ?_)<;>(clear hk a;intro a hk))|((first|refine wx3 ?_;intro w b|refine wx4 ?_;intro w|refine wx5 ?_;intro w v);clear hk hS a;intro hS a hk)|refine wx0 ?_|fail))
    exact ⟨m.par, by omega, hk.sd, hS.nil, hx.trans ((win_iff hf).trans ⟨fun h => h.resolve_left (fun e => he (by rw [hmi];exact e)), .inr⟩)⟩
end Go.Proofs.YtbpkddpkcnlmhaaGreat
namespace Go.Proofs.YtbpkddpkcnlmhaaGreat
open Go.RowKit
set_option maxRecDepth 100000
attribute [local irreducible] Go.Code.wpIn Go.wpListIn Go.Calls Gives Go.Exit.then Go.Exit.inBlock Done ObxE
end Go.Proofs.YtbpkddpkcnlmhaaGreat
namespace Go.Proofs.YtbpkddpkcnlmhaaGreat
open Go.RowKit
set_option maxRecDepth 100000
attribute [local irreducible] Go.Code.wpIn Go.wpListIn Go.Calls Gives Go.Exit.then Go.Exit.inBlock Done ObxE
theorem letter_any (b : UInt8) (w0 : World) : Calls Tryz.prog 62 #[.int .u8 (b.toNat : Nat)] w0 (Ret fun v w => v = .bool (letB b) ∧ St w0 [] w) := by
 refine enter Tryz.func62 rfl Tryz.ntmps62 rfl (fun a hk => ?_);have hS := St.refl w0
 (repeat' (first|((first|refine wx1 ?_|refine wx2 ?_ ?_<;>intro hp|refine s_end hk ?_)<;>(clear hk a;intro a hk))|((first|refine wx3 ?_;intro w b|refine wx4 ?_;intro w|refine wx5 ?_;intro w v);clear hk hS a;intro hS a hk)|refine wx0 ?_|fail))
 all_goals exact done1 hk (h := ⟨by unfold letB;first | rw [decide_eq_true (by omega)] | rw [decide_eq_false (by omega)], hS.nil⟩)
theorem digit_any (b : UInt8) (w0 : World) : Calls Tryz.prog 105 #[.int .u8 (b.toNat : Nat)] w0 (Ret fun v w => v = .bool (digB b) ∧ St w0 [] w) := by
 refine enter Tryz.func105 rfl Tryz.ntmps105 rfl (fun a hk => ?_);have hS := St.refl w0
 (repeat' (first|((first|refine wx1 ?_|refine wx2 ?_ ?_<;>intro hp|refine s_end hk ?_)<;>(clear hk a;intro a hk))|((first|refine wx3 ?_;intro w b|refine wx4 ?_;intro w|refine wx5 ?_;intro w v);clear hk hS a;intro hS a hk)|refine wx0 ?_|fail))
 all_goals exact done1 hk (h := ⟨by unfold digB;first | rw [decide_eq_true (by omega)] | rw [decide_eq_false (by omega)], hS.nil⟩)
theorem plain_any (b : UInt8) (w0 : World) : Calls Tryz.prog 86 #[.int .u8 (b.toNat : Nat)] w0 (Ret fun v w => v = .bool (plaB b) ∧ St w0 [] w) := by
 refine enter Tryz.func86 rfl Tryz.ntmps86 rfl (fun a hk => ?_);have hS := St.refl w0
 (repeat' (first|((first|refine wx1 ?_|refine wx2 ?_ ?_<;>intro hp|refine s_end hk ?_)<;>(clear hk a;intro a hk))|((first|refine wx3 ?_;intro w b|refine wx4 ?_;intro w|refine wx5 ?_;intro w v);clear hk hS a;intro hS a hk)|refine wx0 ?_|fail))
 refine sg hk (g_callO hk (hf := by kernel_rfl) (hc := letter_any b _) (h := ?_));clear hk a;rintro _ w ⟨rfl, hS1⟩ a hk;replace hS := hS.call0 hS1;clear hS1
 cases h : letB b with
 | true =>
  rw [h] at hk
  unfold letB at h
  simp only [decide_eq_true_eq] at h
  (repeat' (first|((first|refine wx1 ?_|refine wx2 ?_ ?_<;>intro hp|refine s_end hk ?_)<;>(clear hk a;intro a hk))|((first|refine wx3 ?_;intro w b|refine wx4 ?_;intro w|refine wx5 ?_;intro w v);clear hk hS a;intro hS a hk)|refine wx0 ?_|fail))
  exact done1 hk (h := ⟨by unfold plaB;rw [decide_eq_true (by omega)], hS.nil⟩)
 | false =>
  rw [h] at hk
  unfold letB at h
  simp only [decide_eq_false_iff_not] at h
  (repeat' (first|((first|refine wx1 ?_|refine wx2 ?_ ?_<;>intro hp|refine s_end hk ?_)<;>(clear hk a;intro a hk))|((first|refine wx3 ?_;intro w b|refine wx4 ?_;intro w|refine wx5 ?_;intro w v);clear hk hS a;intro hS a hk)|refine wx0 ?_|fail))
  refine sg hk (g_callO hk (hf := by kernel_rfl) (hc := digit_any b _) (h := ?_));clear hk a;rintro _ w ⟨rfl, hS1⟩ a hk;replace hS := hS.call0 hS1;clear hS1
  cases h2 : digB b with
  | true =>
   rw [h2] at hk
   unfold digB at h2
   simp only [decide_eq_true_eq] at h2
   (repeat' (first|((first|refine wx1 ?_|refine wx2 ?_ ?_<;>intro hp|refine s_end hk ?_)<;>(clear hk a;intro a hk))|((first|refine wx3 ?_;intro w b|refine wx4 ?_;intro w|refine wx5 ?_;intro w v);clear hk hS a;intro hS a hk)|refine wx0 ?_|fail))
   exact done1 hk (h := ⟨by unfold plaB;rw [decide_eq_true (by omega)], hS.nil⟩)
  | false =>
   rw [h2] at hk
   unfold digB at h2
   simp only [decide_eq_false_iff_not] at h2
   (repeat' (first|((first|refine wx1 ?_|refine wx2 ?_ ?_<;>intro hp|refine s_end hk ?_)<;>(clear hk a;intro a hk))|((first|refine wx3 ?_;intro w b|refine wx4 ?_;intro w|refine wx5 ?_;intro w v);clear hk hS a;intro hS a hk)|refine wx0 ?_|fail))
   all_goals exact done1 hk (h := ⟨by unfold plaB;first | rw [decide_eq_true (by omega)] | rw [decide_eq_false (by omega)], hS.nil⟩)
theorem all_any (fid : FuncId) (p : UInt8 → Bool) (hf : callable Tryz.prog fid = true) (hp : ∀ b w0, Calls Tryz.prog fid #[.int .u8 (b.toNat : Nat)] w0 (Ret fun v w => v = .bool (p b) ∧ St w0 [] w)) (s : ByteArray) (hs : s.size ≤ 1000000) (w0 : World) :
  Calls Tryz.prog 85 #[.string s, .func (.func fid) #[] #[]] w0 (Ret fun v w => v = .bool (s.data.toList.all p) ∧ St w0 [] w) := by
 refine enter Tryz.func85 rfl Tryz.ntmps85 rfl (fun a hk => ?_);have hS := St.refl w0
 (repeat' (first|((first|refine wx1 ?_|refine wx2 ?_ ?_<;>intro hp|refine s_end hk ?_)<;>(clear hk a;intro a hk))|((first|refine wx3 ?_;intro w b|refine wx4 ?_;intro w|refine wx5 ?_;intro w v);clear hk hS a;intro hS a hk)|refine wx0 ?_|fail))
 replace hk := Kn.kp [0, 1, 7, 8] hk
 refine wp_for s.size (fun i _ => [(8, .int .i64 (i : Int))]) (fun _ _ => []) (fun i _ => (s.data.toList.take i).all p = true) () hk skx hS.sb (by simp) ?_
 clear hk hS a
 rintro i - a w hi hk hS hF
 by_cases hil : i < s.size
 ·have htk := all_take hil p
  (repeat' (first|((first|refine wx1 ?_|refine wx2 ?_ ?_<;>intro hp|refine s_end hk ?_)<;>(clear hk a;intro a hk))|((first|refine wx3 ?_;intro w b|refine wx4 ?_;intro w|refine wx5 ?_;intro w v);clear hk hS a;intro hS a hk)|refine wx0 ?_|fail))
  refine sg hk (g_callvO hk (hf := hf) (hc := hp s[i] _) (h := ?_));clear hk a;rintro _ w ⟨rfl, hS1⟩ a hk;replace hS := hS.call0 hS1;clear hS1
  cases hb : p s[i] with
  | true =>
   rw [hb] at hk
   (repeat' (first|((first|refine wx1 ?_|refine wx2 ?_ ?_<;>intro hp|refine s_end hk ?_)<;>(clear hk a;intro a hk))|((first|refine wx3 ?_;intro w b|refine wx4 ?_;intro w|refine wx5 ?_;intro w v);clear hk hS a;intro hS a hk)|refine wx0 ?_|fail))
   exact ⟨hil, (), hk.sd, hS.sb, by rw [htk, hF, hb];rfl⟩
  | false =>
   rw [hb] at hk
   (repeat' (first|((first|refine wx1 ?_|refine wx2 ?_ ?_<;>intro hp|refine s_end hk ?_)<;>(clear hk a;intro a hk))|((first|refine wx3 ?_;intro w b|refine wx4 ?_;intro w|refine wx5 ?_;intro w v);clear hk hS a;intro hS a hk)|refine wx0 ?_|fail))
   exact done1 hk (h := ⟨by rw [all_no hil hb], hS.nil⟩)
 ·have : i = s.size := by omega
  subst this
  rw [all_full] at hF
  (repeat' (first|((first|refine wx1 ?_|refine wx2 ?_ ?_<;>intro hp|refine s_end hk ?_)<;>(clear hk a;intro a hk))|((first|refine wx3 ?_;intro w b|refine wx4 ?_;intro w|refine wx5 ?_;intro w v);clear hk hS a;intro hS a hk)|refine wx0 ?_|fail))
  exact done1 hk (h := ⟨by rw [hF], hS.nil⟩)
theorem key_any (s : ByteArray) (hs : s.size ≤ 1000000) (w0 : World) : Calls Tryz.prog 61 #[.string s] w0 (Ret fun v w => v = .bool (keyS s) ∧ St w0 [] w) := by
 refine enter Tryz.func61 rfl Tryz.ntmps61 rfl (fun a hk => ?_);have hS := St.refl w0
 have he := emp_iff (s := s)
 by_cases h0 : s = ⟨#[]⟩
 ·have h1 := he.1 h0
  (repeat' (first|((first|refine wx1 ?_|refine wx2 ?_ ?_<;>intro hp|refine s_end hk ?_)<;>(clear hk a;intro a hk))|((first|refine wx3 ?_;intro w b|refine wx4 ?_;intro w|refine wx5 ?_;intro w v);clear hk hS a;intro hS a hk)|refine wx0 ?_|fail))
  all_goals first
   | exact done1 hk (h := ⟨by unfold keyS;rw [decide_eq_false (by omega)];rfl, hS.nil⟩)
   | (exfalso;contradiction)
 ·have h1 : s.size ≠ 0 := fun h => h0 (he.2 h)
  by_cases h2 : s.size ≤ 16
  ·(repeat' (first|((first|refine wx1 ?_|refine wx2 ?_ ?_<;>intro hp|refine s_end hk ?_)<;>(clear hk a;intro a hk))|((first|refine wx3 ?_;intro w b|refine wx4 ?_;intro w|refine wx5 ?_;intro w v);clear hk hS a;intro hS a hk)|refine wx0 ?_|fail))
   refine sg hk (g_callO hk (hf := by kernel_rfl) (hc := all_any 86 plaB (by kernel_rfl) plain_any s hs _) (h := ?_));clear hk a;rintro _ w ⟨rfl, hS1⟩ a hk;replace hS := hS.call0 hS1;clear hS1
   (repeat' (first|((first|refine wx1 ?_|refine wx2 ?_ ?_<;>intro hp|refine s_end hk ?_)<;>(clear hk a;intro a hk))|((first|refine wx3 ?_;intro w b|refine wx4 ?_;intro w|refine wx5 ?_;intro w v);clear hk hS a;intro hS a hk)|refine wx0 ?_|fail))
   exact done1 hk (h := ⟨by unfold keyS;rw [decide_eq_true (by omega)];rfl, hS.nil⟩)
  ·(repeat' (first|((first|refine wx1 ?_|refine wx2 ?_ ?_<;>intro hp|refine s_end hk ?_)<;>(clear hk a;intro a hk))|((first|refine wx3 ?_;intro w b|refine wx4 ?_;intro w|refine wx5 ?_;intro w v);clear hk hS a;intro hS a hk)|refine wx0 ?_|fail))
   exact done1 hk (h := ⟨by unfold keyS;rw [decide_eq_false (by omega)];rfl, hS.nil⟩)
theorem name_any (s : ByteArray) (hs : s.size ≤ 1000000) (w0 : World) : Calls Tryz.prog 37 #[.string s] w0 (Ret fun v w => v = .bool (nameS s) ∧ St w0 [] w) := by
 refine enter Tryz.func37 rfl Tryz.ntmps37 rfl (fun a hk => ?_);have hS := St.refl w0
 (repeat' (first|((first|refine wx1 ?_|refine wx2 ?_ ?_<;>intro hp|refine s_end hk ?_)<;>(clear hk a;intro a hk))|((first|refine wx3 ?_;intro w b|refine wx4 ?_;intro w|refine wx5 ?_;intro w v);clear hk hS a;intro hS a hk)|refine wx0 ?_|fail))
 refine sg hk (g_callO hk (hf := by kernel_rfl) (hc := key_any s hs _) (h := ?_));clear hk a;rintro _ w ⟨rfl, hS1⟩ a hk;replace hS := hS.call0 hS1;clear hS1
 cases h : keyS s with
 | false =>
  rw [h] at hk
  (repeat' (first|((first|refine wx1 ?_|refine wx2 ?_ ?_<;>intro hp|refine s_end hk ?_)<;>(clear hk a;intro a hk))|((first|refine wx3 ?_;intro w b|refine wx4 ?_;intro w|refine wx5 ?_;intro w v);clear hk hS a;intro hS a hk)|refine wx0 ?_|fail))
  exact done1 hk (h := ⟨by unfold nameS;rw [h];rfl, hS.nil⟩)
 | true =>
  rw [h] at hk
  have h0 : 0 < s.size := by unfold keyS at h;simp at h;omega
  (repeat' (first|((first|refine wx1 ?_|refine wx2 ?_ ?_<;>intro hp|refine s_end hk ?_)<;>(clear hk a;intro a hk))|((first|refine wx3 ?_;intro w b|refine wx4 ?_;intro w|refine wx5 ?_;intro w v);clear hk hS a;intro hS a hk)|refine wx0 ?_|fail))
  refine sg hk (g_callO hk (hf := by kernel_rfl) (hc := letter_any s[0] _) (h := ?_));clear hk a;rintro _ w ⟨rfl, hS1⟩ a hk;replace hS := hS.call0 hS1;clear hS1
  (repeat' (first|((first|refine wx1 ?_|refine wx2 ?_ ?_<;>intro hp|refine s_end hk ?_)<;>(clear hk a;intro a hk))|((first|refine wx3 ?_;intro w b|refine wx4 ?_;intro w|refine wx5 ?_;intro w v);clear hk hS a;intro hS a hk)|refine wx0 ?_|fail))
  exact done1 hk (h := ⟨by unfold nameS;rw [h, head_at h0];rfl, hS.nil⟩)
end Go.Proofs.YtbpkddpkcnlmhaaGreat
namespace Go.Proofs.YtbpkddpkcnlmhaaGreat
open Go.RowKit
set_option maxRecDepth 100000
attribute [local irreducible] Go.Code.wpIn Go.wpListIn Go.Calls Gives Go.Exit.then Go.Exit.inBlock Done ObxE
section
variable {B : Bs} {w : World} {L L' : List HP} {bl : Int → Nat} {bd bm : Nat} {D : DomP}
abbrev domO (bd : Nat) (D : DomP) (bm : Nat) (bl : Int → Nat) (id : Int) : List HP := [pts bd (domC5 D bm) 55, mapH encI (.map (some bm)) (mapL bl D.l), ndsH bl (ousP D.l id)]
theorem St.outD (hS : St B (domL bd D bm bl ++ L) w) (hu : (D.l.map (·.id)).Nodup) {id : Int} {n : NodeP} (hn : D.f id = some n) : St B (nodH (bl id) n :: (domO bd D bm bl id ++ L)) w := by
 have h1 := hS.out (bl := bl) (l := D.l) (.there (.there .here)) hu hn
 exact h1.sub (.cons .here (.cons (.there .here) (.cons (.there .here) (.cons .here .refl))))
theorem domH.put {n n' : NodeP} (hu : (D.l.map (·.id)).Nodup) (hn : D.f n'.id = some n) (hS : St B (nodH (bl n'.id) n' :: (domO bd D bm bl n'.id ++ L)) w) : St B (domH bd { D with l := putP D.l n' } :: L) w := by
 have h1 : St B (ndsH bl (putP D.l n') :: pts bd (domC5 D bm) 55 :: mapH encI (.map (some bm)) (mapL bl D.l) :: L) w :=
  ndsH.put hu hn (hS.sub (.cons .here (.cons (.there (.there .here)) (.cons .here (.cons .here .refl)))))
 refine domH.of (bm := bm) (bl := bl) (L := L) ?_
 show St B (pts bd (domC5 D bm) 55 :: mapH encI (.map (some bm)) (mapL bl (putP D.l n')) :: ndsH bl (putP D.l n') :: L) w
 rw [mapL_put]
 exact h1.sub (.cons (.there .here) (.cons (.there .here) (.cons .here .refl)))
theorem domH.put' {n n' : NodeP} {id : Int} (hu : (D.l.map (·.id)).Nodup) (hn : D.f id = some n) (e : n'.id = id) (hS : St B (nodH (bl id) n' :: (domO bd D bm bl id ++ L)) w) : St B (domH bd { D with l := putP D.l n' } :: L) w := by
 subst e;exact domH.put hu hn hS
end
theorem own5_any {bd bm : Nat} {bl : Int → Nat} {D : DomP} (id kind : Int) (name : ByteArray) (hl : name.size ≤ 1000000) (w0 : World) (hDR : DomR bd D bm bl w0) :
  Calls Tryz.prog 41 #[pA bd, .int .i64 id, .int .i64 kind, .string name] w0 (Ret fun v w => v = .tuple #[.pointer (if ownP D id kind name = 0 then some ⟨bl id, 0, none⟩ else none), .int .i64 (ownP D id kind name)] ∧ St w0 [] w) := by
 have h1 := hDR.d
 simp only [domC5] at h1
 refine enter Tryz.func41 rfl Tryz.ntmps41 rfl (fun a hk => ?_);have hS := St.refl w0
 (repeat' (first|((first|refine wx1 ?_|refine wx2 ?_ ?_<;>intro hp|refine s_end hk ?_)<;>(clear hk a;intro a hk))|((first|refine wx3 ?_;intro w b|refine wx4 ?_;intro w|refine wx5 ?_;intro w v);clear hk hS a;intro hS a hk)|refine wx0 ?_|fail))
 refine sg hk (g_lk5 hk (hDR.mono hS.below).m ?_);clear hk a;intro a hk
 (repeat' (first|((first|refine wx1 ?_|refine wx2 ?_ ?_<;>intro hp|refine s_end hk ?_)<;>(clear hk a;intro a hk))|((first|refine wx3 ?_;intro w b|refine wx4 ?_;intro w|refine wx5 ?_;intro w v);clear hk hS a;intro hS a hk)|refine wx0 ?_|fail))
 refine sg hk (g_pnE hk ?_ (by kernel_rfl));clear hk a;intro a hk
 cases hn : D.f id with
 | none =>
  have e : ownP D id kind name = 11 := by unfold ownP;rw [hn]
  rw [e, if_neg (by decide)]
  rw [pO_none hn] at hk
  simp only [Option.isNone_none] at hk
  (repeat' (first|((first|refine wx1 ?_|refine wx2 ?_ ?_<;>intro hp|refine s_end hk ?_)<;>(clear hk a;intro a hk))|((first|refine wx3 ?_;intro w b|refine wx4 ?_;intro w|refine wx5 ?_;intro w v);clear hk hS a;intro hS a hk)|refine wx0 ?_|fail))
  exact done2 hk (h := ⟨rfl, hS.nil⟩)
 | some n =>
  have e : ownP D id kind name = if id = 0 then 1 else if n.kind ≠ kind then 14 else if kind = 2 ∧ nameS name = false then 2 else 0 := by unfold ownP;rw [hn]
  rw [pO_some hn] at hk
  simp only [Option.isNone_some] at hk
  obtain ⟨a1, c1, a2, c2, a3, c3, a4, c4, h0, -⟩ := nodH.get (hDR.nd hn)
  simp only [nodC] at h0
  by_cases i0 : id = 0
  ·rw [if_pos i0] at e
   rw [e, if_neg (by decide)]
   (repeat' (first|((first|refine wx1 ?_|refine wx2 ?_ ?_<;>intro hp|refine s_end hk ?_)<;>(clear hk a;intro a hk))|((first|refine wx3 ?_;intro w b|refine wx4 ?_;intro w|refine wx5 ?_;intro w v);clear hk hS a;intro hS a hk)|refine wx0 ?_|fail))
   exact done2 hk (h := ⟨rfl, hS.nil⟩)
  ·rw [if_neg i0] at e
   by_cases k0 : n.kind = kind
   ·rw [if_neg (show ¬ (n.kind ≠ kind) from fun h => h k0)] at e
    by_cases k2 : kind = 2
    ·(repeat' (first|((first|refine wx1 ?_|refine wx2 ?_ ?_<;>intro hp|refine s_end hk ?_)<;>(clear hk a;intro a hk))|((first|refine wx3 ?_;intro w b|refine wx4 ?_;intro w|refine wx5 ?_;intro w v);clear hk hS a;intro hS a hk)|refine wx0 ?_|fail))
     refine sg hk (g_callO hk (hf := by kernel_rfl) (hc := name_any name hl _) (h := ?_));clear hk a;rintro _ w ⟨rfl, hS1⟩ a hk;replace hS := hS.call0 hS1;clear hS1
     cases hnm : nameS name with
     | false =>
      rw [hnm] at hk
      rw [if_pos ⟨k2, hnm⟩] at e
      rw [e, if_neg (by decide)]
      (repeat' (first|((first|refine wx1 ?_|refine wx2 ?_ ?_<;>intro hp|refine s_end hk ?_)<;>(clear hk a;intro a hk))|((first|refine wx3 ?_;intro w b|refine wx4 ?_;intro w|refine wx5 ?_;intro w v);clear hk hS a;intro hS a hk)|refine wx0 ?_|fail))
      exact done2 hk (h := ⟨rfl, hS.nil⟩)
     | true =>
      rw [hnm] at hk
      rw [if_neg (by simp [hnm])] at e
      rw [e, if_pos rfl]
      (repeat' (first|((first|refine wx1 ?_|refine wx2 ?_ ?_<;>intro hp|refine s_end hk ?_)<;>(clear hk a;intro a hk))|((first|refine wx3 ?_;intro w b|refine wx4 ?_;intro w|refine wx5 ?_;intro w v);clear hk hS a;intro hS a hk)|refine wx0 ?_|fail))
      exact done2 hk (h := ⟨rfl, hS.nil⟩)
    ·rw [if_neg (fun h => k2 h.1)] at e
     rw [e, if_pos rfl]
     (repeat' (first|((first|refine wx1 ?_|refine wx2 ?_ ?_<;>intro hp|refine s_end hk ?_)<;>(clear hk a;intro a hk))|((first|refine wx3 ?_;intro w b|refine wx4 ?_;intro w|refine wx5 ?_;intro w v);clear hk hS a;intro hS a hk)|refine wx0 ?_|fail))
     exact done2 hk (h := ⟨rfl, hS.nil⟩)
   ·rw [if_pos (show n.kind ≠ kind from k0)] at e
    rw [e, if_neg (by decide)]
    (repeat' (first|((first|refine wx1 ?_|refine wx2 ?_ ?_<;>intro hp|refine s_end hk ?_)<;>(clear hk a;intro a hk))|((first|refine wx3 ?_;intro w b|refine wx4 ?_;intro w|refine wx5 ?_;intro w v);clear hk hS a;intro hS a hk)|refine wx0 ?_|fail))
    exact done2 hk (h := ⟨rfl, hS.nil⟩)
theorem own_zero {D : DomP} {id kind : Int} {name : ByteArray} (h : ownP D id kind name = 0) : ∃ n, D.f id = some n ∧ id ≠ 0 ∧ n.kind = kind ∧ (kind = 2 → nameS name = true) := by
 unfold ownP at h
 split at h
 ·omega
 ·rename_i n hn
  split at h
  ·omega
  ·split at h
   ·omega
   ·split at h
    ·omega
    ·rename_i h1 h2 h3
     refine ⟨n, hn, h1, by simpa using h2, fun h4 => ?_⟩
     cases hx : nameS name with
     | true => rfl
     | false => exact absurd ⟨h4, hx⟩ h3
theorem setP_no {D : DomP} {kind id num : Int} {name v : ByteArray} (h : ownP D id (kndC kind) name ≠ 0) : setP D kind id name v num = (D, ownP D id (kndC kind) name) := by
 unfold setP
 split
 ·rename_i hn
  unfold ownP
  rw [hn]
 ·rw [if_pos h]
theorem setP_is {D : DomP} {kind id num : Int} {name v : ByteArray} {n : NodeP} (hn : D.f id = some n) (h : ownP D id (kndC kind) name = 0) :
  setP D kind id name v num = match chgP kind n name v num with | none => (D, 1) | some n' => ({ D with l := putP D.l n' }, 0) := by
 unfold setP
 rw [hn]
 simp only
 rw [if_neg (by simpa using h)]
 cases chgP kind n name v num <;> rfl
section
variable {B : Bs} {w : World} {L : List HP} {bd : Nat} {D : DomP} {K : Nat}
set_option maxHeartbeats 4000000 in
theorem add5_any (kind : Int) (tag text : ByteArray) (hW : WfD D) (hb : Bnd K D) (hK : K ≤ 100000) (hS : St B (domH bd D :: L) w) :
  Calls Tryz.prog 38 #[pA bd, .agg #[.int .i64 0, .int .i64 kind, .string tag, .string text, .slice none 0 0, .slice none 0 0, .slice none 0 0, .int .i64 0, .slice none 0 0]] w
   (Ret fun v w' => v = .tuple #[.int .i64 (addP D kind tag text).2.1, .int .i64 (addP D kind tag text).2.2] ∧ St B (domH bd (addP D kind tag text).1 :: L) w') := by
 have hlen := hb.len
 have hnx := hb.nx
 have hn1 := hW.wf.nx
 have hmo := hW.most
 obtain ⟨bm, bl, hS1⟩ := hS.dom (bd := bd) (D := D) .here
 clear hS
 have hS := hS1
 clear hS1
 unfold addP
 simp only [domL, domC5, List.cons_append, List.nil_append] at hS
 refine enter Tryz.func38 rfl Tryz.ntmps38 rfl (fun a hk => ?_)
 (repeat' (first|((first|refine wx1 ?_|refine wx2 ?_ ?_<;>intro hp|refine s_end hk ?_)<;>(clear hk a;intro a hk))|((first|refine wx3 ?_;intro w b|refine wx4 ?_;intro w|refine wx5 ?_;intro w v);clear hk hS a;intro hS a hk)|refine wx0 ?_|fail))
 rename Nat => b3
 refine sg hk (g_callO hk (hf := by kernel_rfl) (hc := room5_any (bd := bd) (D := D) (bm := bm) (bl := bl) _ ⟨hS.rd atx, hS.rd atx, hS.rd atx⟩ (by omega) hmo) (h := ?_));clear hk a;rintro _ w ⟨rfl, hS1⟩ a hk;replace hS := hS.call0 hS1;clear hS1
 by_cases hr : (D.l.length : Int) > D.most
 ·rw [if_pos hr]
  (repeat' (first|((first|refine wx1 ?_|refine wx2 ?_ ?_<;>intro hp|refine s_end hk ?_)<;>(clear hk a;intro a hk))|((first|refine wx3 ?_;intro w b|refine wx4 ?_;intro w|refine wx5 ?_;intro w v);clear hk hS a;intro hS a hk)|refine wx0 ?_|fail))
  refine done2 hk (h := ⟨rfl, ?_⟩)
  exact domH.of (bm := bm) (bl := bl) (hS.sub (.cons atx (.cons atx (.cons atx (by repeat (first | exact Sub.refl | apply Sub.under))))))
 ·rw [if_neg hr]
  (repeat' (first|((first|refine wx1 ?_|refine wx2 ?_ ?_<;>intro hp|refine s_end hk ?_)<;>(clear hk a;intro a hk))|((first|refine wx3 ?_;intro w b|refine wx4 ?_;intro w|refine wx5 ?_;intro w v);clear hk hS a;intro hS a hk)|refine wx0 ?_|fail))
  refine wp_drawn 6 mixed (by kernel_rfl) hk hS ?_;clear hk hS a
  (repeat' (first|(show ObxE _ _ _ _ _ _ _ _ _ (_::_) _ _ _;first|refine ox1 ?_|refine ox2 ?_ ?_<;>intro hp)|fail))
  refine obe_nil ⟨rfl, ?_⟩;intro us a w hk hS
  have hno : ∀ x ∈ D.l, x.id ≠ D.next := fun x hx e => by
   have h2 := hW.wf.idn _ _ (fnd_of_mem hW.uni hx)
   omega
  refine su hk (g_mapUpdate (m := mapL bl D.l) (k := D.next) hk hS ?_ (mT rfl) keyI);clear hk hS a;intro w hS a hk
  rw [setL_mapL hno] at hS
  (repeat' (first|((first|refine wx1 ?_|refine wx2 ?_ ?_<;>intro hp|refine s_end hk ?_)<;>(clear hk a;intro a hk))|((first|refine wx3 ?_;intro w b|refine wx4 ?_;intro w|refine wx5 ?_;intro w v);clear hk hS a;intro hS a hk)|refine wx0 ?_|fail))
  refine done2 hk (h := ⟨rfl, ?_⟩)
  have hS1 := (((hS.nilT 3 Int).nilT 124 PrI).nilT 128 PrS).nilT 9 ByteArray
  clear hS
  have hS : St B (nodeL b3 ⟨D.next, kind, tag, text, [], [], [], -1, []⟩ ((none, 0), (none, 0), (none, 0), (none, 0)) ++ (ndsH bl D.l :: pts bd [.int .i64 D.most, .int .i64 (D.next + 1), .map (some bm)] 55 :: mapH encI (.map (some bm)) (mapL bl D.l ++ [(D.next, pA b3)]) :: L)) w := by
   refine hS1.sub ?_
   simp only [nodeL, nodC, List.length_nil, List.cons_append, List.nil_append]
   exact (.cons atx (.cons atx (.cons atx (.cons atx (.cons atx (.cons atx (.cons atx (.cons atx (by repeat (first | exact Sub.refl | apply Sub.under))))))))))
  clear hS1
  have hS1 := ndsH.add (n := ⟨D.next, kind, tag, text, [], [], [], -1, []⟩) hno (nodH.of hS)
  clear hS
  refine domH.of (bm := bm) (bl := fun j => if j = D.next then b3 else bl j) ?_
  have e : mapL (fun j => if j = D.next then b3 else bl j) (D.l ++ [⟨D.next, kind, tag, text, [], [], [], -1, []⟩]) = mapL bl D.l ++ [(D.next, pA b3)] := by
   have := mapL_up (bl := bl) (b := b3) hno
   unfold mapL at this ⊢
   rw [List.map_append, this]
   simp
  show St B (pts bd [.int .i64 D.most, .int .i64 (D.next + 1), .map (some bm)] 55 :: mapH encI (.map (some bm)) (mapL (fun j => if j = D.next then b3 else bl j) (D.l ++ [⟨D.next, kind, tag, text, [], [], [], -1, []⟩])) :: ndsH (fun j => if j = D.next then b3 else bl j) (D.l ++ [⟨D.next, kind, tag, text, [], [], [], -1, []⟩]) :: L) w
  rw [e]
  exact hS1.sub (.cons atx (.cons atx (.cons atx .refl)))
set_option maxHeartbeats 2000000 in
theorem elem5_any (tag : ByteArray) (ht : tag.size ≤ 1000000) (hW : WfD D) (hb : Bnd K D) (hK : K ≤ 100000) (hS : St B (domH bd D :: L) w) :
  Calls Tryz.prog 21 #[pA bd, .string tag] w (Ret fun v w' => v = .tuple #[.int .i64 (elemP D tag).2.1, .int .i64 (elemP D tag).2.2] ∧ St B (domH bd (elemP D tag).1 :: L) w') := by
 unfold elemP
 refine enter Tryz.func21 rfl Tryz.ntmps21 rfl (fun a hk => ?_)
 (repeat' (first|((first|refine wx1 ?_|refine wx2 ?_ ?_<;>intro hp|refine s_end hk ?_)<;>(clear hk a;intro a hk))|((first|refine wx3 ?_;intro w b|refine wx4 ?_;intro w|refine wx5 ?_;intro w v);clear hk hS a;intro hS a hk)|refine wx0 ?_|fail))
 refine sg hk (g_callO hk (hf := by kernel_rfl) (hc := name_any tag ht _) (h := ?_));clear hk a;rintro _ w ⟨rfl, hS1⟩ a hk;replace hS := hS.call0 hS1;clear hS1
 cases hn : nameS tag with
 | false =>
  rw [hn] at hk
  rw [if_neg (by simp)]
  (repeat' (first|((first|refine wx1 ?_|refine wx2 ?_ ?_<;>intro hp|refine s_end hk ?_)<;>(clear hk a;intro a hk))|((first|refine wx3 ?_;intro w b|refine wx4 ?_;intro w|refine wx5 ?_;intro w v);clear hk hS a;intro hS a hk)|refine wx0 ?_|fail))
  exact done2 hk (h := ⟨rfl, hS⟩)
 | true =>
  rw [hn] at hk
  rw [if_pos rfl]
  (repeat' (first|((first|refine wx1 ?_|refine wx2 ?_ ?_<;>intro hp|refine s_end hk ?_)<;>(clear hk a;intro a hk))|((first|refine wx3 ?_;intro w b|refine wx4 ?_;intro w|refine wx5 ?_;intro w v);clear hk hS a;intro hS a hk)|refine wx0 ?_|fail))
  refine sg hk (g_callO hk (hf := by kernel_rfl) (hc := add5_any 2 tag ⟨#[]⟩ hW hb hK hS) (h := ?_));clear hk hS a;rintro _ w ⟨rfl, hS⟩ a hk
  (repeat' (first|((first|refine wx1 ?_|refine wx2 ?_ ?_<;>intro hp|refine s_end hk ?_)<;>(clear hk a;intro a hk))|((first|refine wx3 ?_;intro w b|refine wx4 ?_;intro w|refine wx5 ?_;intro w v);clear hk hS a;intro hS a hk)|refine wx0 ?_|fail))
  exact done2 hk (h := ⟨rfl, hS⟩)
end
end Go.Proofs.YtbpkddpkcnlmhaaGreat
