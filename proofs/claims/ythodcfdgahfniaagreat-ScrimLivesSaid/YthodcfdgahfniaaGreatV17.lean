/- Layer 4: names with values, of both kinds, are set. Layer 20: rows of texts, one behind the other. Layer 20: what a node has, with its look's marks. Layer 2: digits and the numbers that they are; which texts may be what: in plain words. Layer 2: which texts may be what, in plain words. How texts begin. -/
import Derived.Test.YthodcfdgahfniaaGreatV16
import Derived.Test.YthodcfdgahfniaaGreatV07
import Derived.Test.YthodcfdgahfniaaGreatV08
import Derived.Test.YthodcfdgahfniaaGreatV14
import Derived.Test.YthodcfdgahfniaaGreatV06
import Derived.Lib.ItoaNum
set_option linter.all false
namespace Go.Proofs.YthodcfdgahfniaaGreat
open Go.RowKit
set_option maxRecDepth 100000
attribute [local irreducible] Go.Code.wpIn Go.wpListIn Go.Calls Gives Go.Exit.then Go.Exit.inBlock Done ObxE

theorem setI_any (l : List PrI) (k : ByteArray) (x : Int) (v : Value) (w0 : World) (hv : SlT l v w0) (hl : l.length ≤ 1000) :
    Calls Tryz.prog 49 #[v, .string k, .int .i64 x] w0 (Ret fun v w => St w0 [OwT 122 (putF nmI (snapF nmI l) (k, x)) v] w) := by
  have hsl := snap_len nmI l
  refine enter Tryz.func49 rfl Tryz.ntmps49 rfl (fun a hk => ?_); have hS := St.refl w0
  (repeat' (first | (show wpListIn _ _ _ _ _ (_ :: _) _ _; first | (refine wx1 ?_; clear hk a; intro a hk) | (refine wx2 ?_ ?_ <;> (intro hp; clear hk a; intro a hk)) | (refine wx3 ?_; clear hk hS a; intro w b hS a hk) | (refine wx4 ?_; clear hk hS a; intro w hS a hk) | (refine wx5 ?_; clear hk hS a; intro w v hS a hk) | fail) | refine wx0 ?_ | (refine s_end hk ?_; clear hk a; intro a hk) | fail))
  refine sg hk (g_callO hk (hf := by kernel_rfl) (hc := ofI_any l v _ (hS.rdT hv) hl) (h := ?_)); clear hk a; rintro vs w hS1 a hk; replace hS := hS.call hS1; clear hS1
  (repeat' (first | (show wpListIn _ _ _ _ _ (_ :: _) _ _; first | (refine wx1 ?_; clear hk a; intro a hk) | (refine wx2 ?_ ?_ <;> (intro hp; clear hk a; intro a hk)) | (refine wx3 ?_; clear hk hS a; intro w b hS a hk) | (refine wx4 ?_; clear hk hS a; intro w hS a hk) | (refine wx5 ?_; clear hk hS a; intro w v hS a hk) | fail) | refine wx0 ?_ | (refine s_end hk ?_; clear hk a; intro a hk) | fail))
  refine sg hk (g_callO hk (hf := by kernel_rfl) (hc := putI_any (s := snapF nmI l) (v := vs) (L := []) ((k, x) : PrI) (hS.sub (by (repeat (first | exact Sub.nil | exact Sub.refl | refine Sub.cons (by (repeat (first | exact At.here | apply At.there))) ?_)))) (by omega) (snap_rises nmI l)) (h := ?_)); clear hk hS a; intro vr w hS a hk
  (repeat' (first | (show wpListIn _ _ _ _ _ (_ :: _) _ _; first | (refine wx1 ?_; clear hk a; intro a hk) | (refine wx2 ?_ ?_ <;> (intro hp; clear hk a; intro a hk)) | (refine wx3 ?_; clear hk hS a; intro w b hS a hk) | (refine wx4 ?_; clear hk hS a; intro w hS a hk) | (refine wx5 ?_; clear hk hS a; intro w v hS a hk) | fail) | refine wx0 ?_ | (refine s_end hk ?_; clear hk a; intro a hk) | fail))
  exact done1 hk (h := hS)

theorem setS_any (l : List PrS) (k : ByteArray) (x : ByteArray) (v : Value) (w0 : World) (hv : SlT l v w0) (hl : l.length ≤ 1000) :
    Calls Tryz.prog 48 #[v, .string k, .string x] w0 (Ret fun v w => St w0 [OwT 119 (putF nmS (snapF nmS l) (k, x)) v] w) := by
  have hsl := snap_len nmS l
  refine enter Tryz.func48 rfl Tryz.ntmps48 rfl (fun a hk => ?_); have hS := St.refl w0
  (repeat' (first | (show wpListIn _ _ _ _ _ (_ :: _) _ _; first | (refine wx1 ?_; clear hk a; intro a hk) | (refine wx2 ?_ ?_ <;> (intro hp; clear hk a; intro a hk)) | (refine wx3 ?_; clear hk hS a; intro w b hS a hk) | (refine wx4 ?_; clear hk hS a; intro w hS a hk) | (refine wx5 ?_; clear hk hS a; intro w v hS a hk) | fail) | refine wx0 ?_ | (refine s_end hk ?_; clear hk a; intro a hk) | fail))
  refine sg hk (g_callO hk (hf := by kernel_rfl) (hc := ofS_any l v _ (hS.rdT hv) hl) (h := ?_)); clear hk a; rintro vs w hS1 a hk; replace hS := hS.call hS1; clear hS1
  (repeat' (first | (show wpListIn _ _ _ _ _ (_ :: _) _ _; first | (refine wx1 ?_; clear hk a; intro a hk) | (refine wx2 ?_ ?_ <;> (intro hp; clear hk a; intro a hk)) | (refine wx3 ?_; clear hk hS a; intro w b hS a hk) | (refine wx4 ?_; clear hk hS a; intro w hS a hk) | (refine wx5 ?_; clear hk hS a; intro w v hS a hk) | fail) | refine wx0 ?_ | (refine s_end hk ?_; clear hk a; intro a hk) | fail))
  refine sg hk (g_callO hk (hf := by kernel_rfl) (hc := putS_any (s := snapF nmS l) (v := vs) (L := []) ((k, x) : PrS) (hS.sub (by (repeat (first | exact Sub.nil | exact Sub.refl | refine Sub.cons (by (repeat (first | exact At.here | apply At.there))) ?_)))) (by omega) (snap_rises nmS l)) (h := ?_)); clear hk hS a; intro vr w hS a hk
  (repeat' (first | (show wpListIn _ _ _ _ _ (_ :: _) _ _; first | (refine wx1 ?_; clear hk a; intro a hk) | (refine wx2 ?_ ?_ <;> (intro hp; clear hk a; intro a hk)) | (refine wx3 ?_; clear hk hS a; intro w b hS a hk) | (refine wx4 ?_; clear hk hS a; intro w hS a hk) | (refine wx5 ?_; clear hk hS a; intro w v hS a hk) | fail) | refine wx0 ?_ | (refine s_end hk ?_; clear hk a; intro a hk) | fail))
  exact done1 hk (h := hS)

end Go.Proofs.YthodcfdgahfniaaGreat
namespace Go.Proofs.YthodcfdgahfniaaGreat
open Go.RowKit

section
variable {df : List Deferred} {P : Program} {a : Act} {w w' : World} {w0 : Bs} {n : Nat} {l : List (Nat × Value)} {L L' : List HP}
  {dst : Option Nat} {R : Value → World → Prop} {ty : TypeId} {pos : String} {af : Array Edge} {g : Option (Nat × Bool)}

theorem g_appZ0 (α : Type) [Enc α] {x y : Operand} {t tx E q by_ : Nat} {z : Value} {kn : IntKind} (hk : Kn df n a l) (hS : St w0 L w)
    (h : ∀ (w' : World) (b' c' : Nat), q ≤ c' → c' ≤ maxLen → St w0 (OwT E ([] : List α) (.slice (some ⟨b', 0, none⟩) 0 c') :: L) w' → R (.slice (some ⟨b', 0, none⟩) q c') w')
    (hx : ev l x = some (.slice none 0 0) := by rfl) {p : Int} (hy : ev l y = some (.int .i64 p) := by rfl) (hp : p = (q : Int)) (ht : elOf P t = some E) (htx : P.underlying tx = some (.int kn)) (hE : szOf P E = some (Enc.k α + 1)) (hz : zeroOf P E = some z) (hzs : z.cells.size = Enc.k α + 1)
    (hby : ((P.info? E).map (·.bytes)).getD 0 = by_) (h0 : 0 < q) (hbytes : q * by_ ≤ 140737488355328) (h63 : q ≤ maxLen) :
    Gives P ⟨dst, .call { callee := .builtin .append, args := #[x, y], argTypes := #[t, tx] }, ty, pos, af, g⟩ a w R := by
  subst hp
  obtain ⟨inf, hi, his, hiz⟩ := byOf_info hE hz
  have hib : inf.bytes = by_ := by rw [hi] at hby; exact hby
  have hold : (Builtin.firstCells inf.size 0 (.slice none 0 0)).run P w.drew = .ok (([] : List Value).toArray) w.drew := by simp [Builtin.firstCells]
  have hqb : q * inf.bytes ≤ 281474976710656 := by rw [hib]; omega
  have hr := Lib.run_append_grow_zeros (P := P) w t tx ty E inf z .i64 kn (elOf_und ht) htx hi hiz none 0 0 [] hold q h0 (by omega) (by omega) (by simp only [maxLen] at h63; omega) hqb (growslice_fits (by omega) (by rw [hib, Nat.zero_add]; exact hbytes))
  simp only [Nat.zero_add] at hr
  have hge := grownCap_ge w q 0 E
  have hcm := grownCap_le_maxLen w q 0 E h63
  generalize grownCap w q 0 E = gc at *
  have hal := hS.drew.alloc (([] : List Value) ++ (Builtin.zeroCells z.cells q).toList ++ (Builtin.zeroCells z.cells (gc - q)).toList) E
  have hww : (w.drew.alloc (.cells (([] : List Value) ++ (Builtin.zeroCells z.cells q).toList ++ (Builtin.zeroCells z.cells (gc - q)).toList).toArray E)) = w.drew.alloc (.cells (([] : List Value).toArray ++ Builtin.zeroCells z.cells q ++ Builtin.zeroCells z.cells (gc - q)) E) := by
    congr 2
    apply Array.ext'
    simp
  rw [hww] at hal
  have hgl : q * (Enc.k α + 1) + (gc - q) * (Enc.k α + 1) = gc * (Enc.k α + 1) := by rw [← Nat.add_mul]; congr 1; omega
  refine givesv (v := .slice (some ⟨w.heap.size, 0, none⟩) q gc) (w' := _) ?_ (h _ _ gc hge hcm (hal.toOwn (ys := ([] : List α)) (off := 0) (cap := gc) At.here (by simp) hcm ?_ (fun j u hj => by simp [enc] at hj)))
  · simp [execOp, resolve, invoke, builtin, hk.eval hx, hk.eval hy, hr]
  · rw [List.length_append, List.length_append, List.length_nil, Array.length_toList, Array.length_toList, size_zeroCells, size_zeroCells, hzs, Nat.zero_add, Nat.zero_add, hgl]
    exact Nat.le_refl _
theorem g_slT0 {x y : Operand} {t E k m c j : Nat} {ao : Option Addr} {p : Int} {kk : IntKind} (hk : Kn df n a l) (h : R (.slice ao j c) w)
    (hx : ev l x = some (.slice ao m c) := by rfl) (hy : ev l y = some (.int kk p) := by rfl) (ht : elOf P t = some E) (hE : szOf P E = some k) (hp : p = (j : Int)) (hj : j ≤ c) :
    Gives P ⟨dst, .slice t x none (some y) none, ty, pos, af, g⟩ a w R := by
  subst hp
  refine givesv (v := .slice ao j c) ?_ h
  have e : ∀ ad : Addr, ad.add 0 = ad := fun _ => rfl
  by_cases h0 : c = 0
  · have hj0 : j = 0 := by omega
    subst h0 hj0
    simp [execOp, hk.eval hx, hk.eval hy, Instr.sliceAt, Instr.slice, run_underlying (elOf_und ht), Instr.sliceBounds, Instr.sliceBound, asIntOf, szOf_run hE]
  · cases ao <;> simp [execOp, hk.eval hx, hk.eval hy, Instr.sliceAt, Instr.slice, run_underlying (elOf_und ht), Instr.sliceBounds, Instr.sliceBound, asIntOf, hj, szOf_run hE, h0, e]
end
set_option maxRecDepth 100000
attribute [local irreducible] Go.Code.wpIn Go.wpListIn Go.Calls Gives Go.Exit.then Go.Exit.inBlock Done ObxE

theorem growS_any (q : Nat) (w0 : World) (hq : q ≤ 1000) : Calls Tryz.prog 67 #[.slice none 0 0, .int .i64 (q : Int)] w0 (Ret fun v w => St w0 [OwT 9 ([] : List ByteArray) v] w) := by
  have hn0 : SlT ([] : List ByteArray) (.slice none 0 0) w0 := SlT.nil w0
  refine enter Tryz.func67 rfl Tryz.ntmps67 rfl (fun a hk => ?_); have hS := St.refl w0
  by_cases h0 : q = 0
  · (repeat' (first | (show wpListIn _ _ _ _ _ (_ :: _) _ _; first | (refine wx1 ?_; clear hk a; intro a hk) | (refine wx2 ?_ ?_ <;> (intro hp; clear hk a; intro a hk)) | (refine wx3 ?_; clear hk hS a; intro w b hS a hk) | (refine wx4 ?_; clear hk hS a; intro w hS a hk) | (refine wx5 ?_; clear hk hS a; intro w v hS a hk) | fail) | refine wx0 ?_ | (refine s_end hk ?_; clear hk a; intro a hk) | fail))
    refine sg hk (g_capC hk ?_ (ht := eT rfl)); clear hk a; intro a hk
    (repeat' (first | (show wpListIn _ _ _ _ _ (_ :: _) _ _; first | (refine wx1 ?_; clear hk a; intro a hk) | (refine wx2 ?_ ?_ <;> (intro hp; clear hk a; intro a hk)) | (refine wx3 ?_; clear hk hS a; intro w b hS a hk) | (refine wx4 ?_; clear hk hS a; intro w hS a hk) | (refine wx5 ?_; clear hk hS a; intro w v hS a hk) | fail) | refine wx0 ?_ | (refine s_end hk ?_; clear hk a; intro a hk) | fail))
    rw [List.length_nil] at hk
    (repeat' (first | (show wpListIn _ _ _ _ _ (_ :: _) _ _; first | (refine wx1 ?_; clear hk a; intro a hk) | (refine wx2 ?_ ?_ <;> (intro hp; clear hk a; intro a hk)) | (refine wx3 ?_; clear hk hS a; intro w b hS a hk) | (refine wx4 ?_; clear hk hS a; intro w hS a hk) | (refine wx5 ?_; clear hk hS a; intro w v hS a hk) | fail) | refine wx0 ?_ | (refine s_end hk ?_; clear hk a; intro a hk) | fail))
    exact done1 hk (h := hS.nilT 9 ByteArray)
  · (repeat' (first | (show wpListIn _ _ _ _ _ (_ :: _) _ _; first | (refine wx1 ?_; clear hk a; intro a hk) | (refine wx2 ?_ ?_ <;> (intro hp; clear hk a; intro a hk)) | (refine wx3 ?_; clear hk hS a; intro w b hS a hk) | (refine wx4 ?_; clear hk hS a; intro w hS a hk) | (refine wx5 ?_; clear hk hS a; intro w v hS a hk) | fail) | refine wx0 ?_ | (refine s_end hk ?_; clear hk a; intro a hk) | fail))
    refine sg hk (g_capC hk ?_ (ht := eT rfl)); clear hk a; intro a hk
    (repeat' (first | (show wpListIn _ _ _ _ _ (_ :: _) _ _; first | (refine wx1 ?_; clear hk a; intro a hk) | (refine wx2 ?_ ?_ <;> (intro hp; clear hk a; intro a hk)) | (refine wx3 ?_; clear hk hS a; intro w b hS a hk) | (refine wx4 ?_; clear hk hS a; intro w hS a hk) | (refine wx5 ?_; clear hk hS a; intro w v hS a hk) | fail) | refine wx0 ?_ | (refine s_end hk ?_; clear hk a; intro a hk) | fail))
    rw [List.length_nil] at hk
    (repeat' (first | (show wpListIn _ _ _ _ _ (_ :: _) _ _; first | (refine wx1 ?_; clear hk a; intro a hk) | (refine wx2 ?_ ?_ <;> (intro hp; clear hk a; intro a hk)) | (refine wx3 ?_; clear hk hS a; intro w b hS a hk) | (refine wx4 ?_; clear hk hS a; intro w hS a hk) | (refine wx5 ?_; clear hk hS a; intro w v hS a hk) | fail) | refine wx0 ?_ | (refine s_end hk ?_; clear hk a; intro a hk) | fail))
    refine sg hk (g_capC hk ?_ (ht := eT rfl)); clear hk a; intro a hk
    refine sg hk (g_slT0 hk ?_ (j := 0) (ht := eT rfl) (hE := zT rfl) (hp := by rfl) (hj := by omega)); clear hk a; intro a hk
    (repeat' (first | (show wpListIn _ _ _ _ _ (_ :: _) _ _; first | (refine wx1 ?_; clear hk a; intro a hk) | (refine wx2 ?_ ?_ <;> (intro hp; clear hk a; intro a hk)) | (refine wx3 ?_; clear hk hS a; intro w b hS a hk) | (refine wx4 ?_; clear hk hS a; intro w hS a hk) | (refine wx5 ?_; clear hk hS a; intro w v hS a hk) | fail) | refine wx0 ?_ | (refine s_end hk ?_; clear hk a; intro a hk) | fail))
    refine sg hk (g_appZ0 ByteArray hk hS ?_ (q := q) (hp := by omega) (ht := eT rfl) (htx := iT rfl) (hE := zT rfl) (hz := oT rfl) (hzs := rfl) (hby := bT rfl) (h0 := by omega) (hbytes := by omega) (h63 := by simp only [maxLen]; omega))
    clear hk hS a
    intro w b c hqc hc hS a hk
    have hn1 : SlT ([] : List ByteArray) (.slice none 0 0) w := SlT.nil w
    (repeat' (first | (show wpListIn _ _ _ _ _ (_ :: _) _ _; first | (refine wx1 ?_; clear hk a; intro a hk) | (refine wx2 ?_ ?_ <;> (intro hp; clear hk a; intro a hk)) | (refine wx3 ?_; clear hk hS a; intro w b hS a hk) | (refine wx4 ?_; clear hk hS a; intro w hS a hk) | (refine wx5 ?_; clear hk hS a; intro w v hS a hk) | fail) | refine wx0 ?_ | (refine s_end hk ?_; clear hk a; intro a hk) | fail))
    refine sg hk (g_slTc 0 hk ?_ (ht := eT rfl) (hE := zT rfl) (hp := rfl) (hj := by omega)); clear hk a; intro a hk
    (repeat' (first | (show wpListIn _ _ _ _ _ (_ :: _) _ _; first | (refine wx1 ?_; clear hk a; intro a hk) | (refine wx2 ?_ ?_ <;> (intro hp; clear hk a; intro a hk)) | (refine wx3 ?_; clear hk hS a; intro w b hS a hk) | (refine wx4 ?_; clear hk hS a; intro w hS a hk) | (refine wx5 ?_; clear hk hS a; intro w v hS a hk) | fail) | refine wx0 ?_ | (refine s_end hk ?_; clear hk a; intro a hk) | fail))
    exact done1 hk (h := hS.sb)

def pre2 (x y : List ByteArray) : Nat → List ByteArray
  | 0 => []
  | 1 => x
  | _ => x ++ y
set_option maxHeartbeats 1000000 in
theorem concat2_any (x y : List ByteArray) (a1 a2 : Option Addr) (c1 c2 : Nat) (v : Value) (w0 : World) (hv : SlT ([⟨a1, x.length, c1⟩, ⟨a2, y.length, c2⟩] : List Hd) v w0)
    (hx : SlT x (.slice a1 x.length c1) w0) (hy : SlT y (.slice a2 y.length c2) w0) (hl : x.length + y.length ≤ 1000) :
    Calls Tryz.prog 43 #[v] w0 (Ret fun v w => St w0 [OwT 9 (x ++ y) v] w) := by
  have hZ : ∀ i, i < 2 → ∃ (Z : List ByteArray) (ao : Option Addr) (c : Nat), ([⟨a1, x.length, c1⟩, ⟨a2, y.length, c2⟩] : List Hd)[i]? = some ⟨ao, Z.length, c⟩ ∧ SlT Z (.slice ao Z.length c) w0 ∧ pre2 x y (i + 1) = pre2 x y i ++ Z ∧ (pre2 x y i).length + Z.length ≤ 1000 := by
    intro i hi
    have h2 : i = 0 ∨ i = 1 := by omega
    rcases h2 with rfl | rfl
    · exact ⟨x, a1, c1, rfl, hx, rfl, by simp [pre2]; omega⟩
    · exact ⟨y, a2, c2, rfl, hy, rfl, by simp [pre2]; omega⟩
  have h2l : ([⟨a1, x.length, c1⟩, ⟨a2, y.length, c2⟩] : List Hd).length = 2 := rfl
  have hP0 : pre2 x y 0 = [] := rfl
  have hP2 : pre2 x y 2 = x ++ y := rfl
  generalize pre2 x y = Pf at *
  generalize ([⟨a1, x.length, c1⟩, ⟨a2, y.length, c2⟩] : List Hd) = H at *
  refine enter Tryz.func43 rfl Tryz.ntmps43 rfl (fun a hk => ?_); have hS := St.refl w0
  (repeat' (first | (show wpListIn _ _ _ _ _ (_ :: _) _ _; first | (refine wx1 ?_; clear hk a; intro a hk) | (refine wx2 ?_ ?_ <;> (intro hp; clear hk a; intro a hk)) | (refine wx3 ?_; clear hk hS a; intro w b hS a hk) | (refine wx4 ?_; clear hk hS a; intro w hS a hk) | (refine wx5 ?_; clear hk hS a; intro w v hS a hk) | fail) | refine wx0 ?_ | (refine s_end hk ?_; clear hk a; intro a hk) | fail))
  replace hk := Kn.kp [0, 3, 9, 10, 11] hk
  refine wp_for 2 (fun i (m : Nat) => [(3, .int .i64 (m : Int)), (11, .int .i64 (i : Int))]) (fun _ _ => []) (fun i m => m = (Pf i).length) 0 hk (by repeat (first | exact trivial | refine ⟨rfl, ?_⟩)) hS.sb (by rw [hP0]; rfl) ?_
  clear hk hS a
  rintro i m a w hi hk hS hm
  have hv1 := hS.rdT hv
  by_cases hil : i < 2
  · obtain ⟨Z, ao, c, hZx, hZs, hZp, hZl⟩ := hZ i hil
    have hZs1 := hS.rdT hZs
    (repeat' (first | (show wpListIn _ _ _ _ _ (_ :: _) _ _; first | (refine wx1 ?_; clear hk a; intro a hk) | (refine wx2 ?_ ?_ <;> (intro hp; clear hk a; intro a hk)) | (refine wx3 ?_; clear hk hS a; intro w b hS a hk) | (refine wx4 ?_; clear hk hS a; intro w hS a hk) | (refine wx5 ?_; clear hk hS a; intro w v hS a hk) | fail) | refine wx0 ?_ | (refine s_end hk ?_; clear hk a; intro a hk) | fail))
    exact ⟨hil, m + Z.length, hk.sd, hS.sb, by rw [hZp, List.length_append, hm]⟩
  have hie : i = 2 := by omega
  subst hie
  have hpl : (Pf 2).length = x.length + y.length := by rw [hP2, List.length_append]
  clear hil
  (repeat' (first | (show wpListIn _ _ _ _ _ (_ :: _) _ _; first | (refine wx1 ?_; clear hk a; intro a hk) | (refine wx2 ?_ ?_ <;> (intro hp; clear hk a; intro a hk)) | (refine wx3 ?_; clear hk hS a; intro w b hS a hk) | (refine wx4 ?_; clear hk hS a; intro w hS a hk) | (refine wx5 ?_; clear hk hS a; intro w v hS a hk) | fail) | refine wx0 ?_ | (refine s_end hk ?_; clear hk a; intro a hk) | fail))
  refine sg hk (g_callO hk (hf := by kernel_rfl) (hc := growS_any m _ (by omega)) (h := ?_)); clear hk a; rintro vg w hS1 a hk; replace hS := hS.call hS1; clear hS1
  (repeat' (first | (show wpListIn _ _ _ _ _ (_ :: _) _ _; first | (refine wx1 ?_; clear hk a; intro a hk) | (refine wx2 ?_ ?_ <;> (intro hp; clear hk a; intro a hk)) | (refine wx3 ?_; clear hk hS a; intro w b hS a hk) | (refine wx4 ?_; clear hk hS a; intro w hS a hk) | (refine wx5 ?_; clear hk hS a; intro w v hS a hk) | fail) | refine wx0 ?_ | (refine s_end hk ?_; clear hk a; intro a hk) | fail))
  replace hk := Kn.kp [6, 25, 26, 27] hk
  refine wp_for 2 (fun i (d : List ByteArray × Value) => [(6, d.2), (27, .int .i64 (i : Int))]) (fun i d => [OwT 9 d.1 d.2]) (fun i d => d.1 = Pf i) ([], vg) hk (by repeat (first | exact trivial | refine ⟨rfl, ?_⟩)) hS.sb hP0.symm ?_
  clear hk hS a hm hi
  rintro i ⟨s, vo⟩ a w hi hk hS (hs : s = Pf i)
  subst hs
  have hv1 := hS.rdT hv
  by_cases hil : i < 2
  · obtain ⟨Z, ao, c, hZx, hZs, hZp, hZl⟩ := hZ i hil
    have hZs1 := hS.rdT hZs
    (repeat' (first | (show wpListIn _ _ _ _ _ (_ :: _) _ _; first | (refine wx1 ?_; clear hk a; intro a hk) | (refine wx2 ?_ ?_ <;> (intro hp; clear hk a; intro a hk)) | (refine wx3 ?_; clear hk hS a; intro w b hS a hk) | (refine wx4 ?_; clear hk hS a; intro w hS a hk) | (refine wx6 ?_; clear hk hS a; intro w v hS a hk) | fail) | refine wx0 ?_ | (refine s_end hk ?_; clear hk a; intro a hk) | fail))
    refine sg hk (g_appT (xs := Pf i) (ys := Z) hk hS ?_ (hT := eT rfl) (hTx := eT rfl) (hE := zT rfl) (hz := oT rfl) (hzs := rfl) (hs := hZs1) (hby := bT rfl) (hbytes := by omega) (h63 := by simp only [maxLen]; omega)); clear hk hS a; intro w vn hS a hk
    rw [← hZp] at hS
    (repeat' (first | (show wpListIn _ _ _ _ _ (_ :: _) _ _; first | (refine wx1 ?_; clear hk a; intro a hk) | (refine wx2 ?_ ?_ <;> (intro hp; clear hk a; intro a hk)) | (refine wx3 ?_; clear hk hS a; intro w b hS a hk) | (refine wx4 ?_; clear hk hS a; intro w hS a hk) | (refine wx5 ?_; clear hk hS a; intro w v hS a hk) | fail) | refine wx0 ?_ | (refine s_end hk ?_; clear hk a; intro a hk) | fail))
    exact ⟨hil, (_, _), hk.sd, hS.sb, rfl⟩
  have hie : i = 2 := by omega
  subst hie
  rw [hP2] at hS
  clear hil
  (repeat' (first | (show wpListIn _ _ _ _ _ (_ :: _) _ _; first | (refine wx1 ?_; clear hk a; intro a hk) | (refine wx2 ?_ ?_ <;> (intro hp; clear hk a; intro a hk)) | (refine wx3 ?_; clear hk hS a; intro w b hS a hk) | (refine wx4 ?_; clear hk hS a; intro w hS a hk) | (refine wx5 ?_; clear hk hS a; intro w v hS a hk) | fail) | refine wx0 ?_ | (refine s_end hk ?_; clear hk a; intro a hk) | fail))
  exact done1 hk (h := hS.sb)
end Go.Proofs.YthodcfdgahfniaaGreat
namespace Go.Proofs.YthodcfdgahfniaaGreat
open Go.RowKit
set_option maxRecDepth 100000
attribute [local irreducible] Go.Code.wpIn Go.wpListIn Go.Calls Gives Go.Exit.then Go.Exit.inBlock Done ObxE

def hdOf : Value → Hd
  | .slice a n c => ⟨a, n, c⟩
  | _ => ⟨none, 0, 0⟩

def ghoP (k : Int) : List PrS := if ghoL k = true then [(⟨#[116, 45, 103, 104, 111, 115, 116]⟩, ⟨#[]⟩)] else []
def movP (m x y : Int) : List PrI := if m = 1 then [(⟨#[116, 45, 100, 120]⟩, x), (⟨#[116, 45, 100, 121]⟩, y)] else []

theorem cls_len (k m : Int) : (clsL k m).length ≤ 3 := by
  have := mkL_len k
  unfold clsL
  split
  · simp; omega
  · simp; omega

set_option maxHeartbeats 4000000 in
theorem put_any (cl : List ByteArray) (sl : List PrS) (il : List PrI) (k m x y : Int) (vc vs vi : Value) (w0 : World) (hc : SlT cl vc w0) (hs : SlT sl vs w0) (hi : SlT il vi w0)
    (hcl : cl.length ≤ 800) (hsl : sl.length ≤ 800) (hil : il.length ≤ 800) :
    Calls Tryz.prog 15 #[.agg #[.int .i64 k, .int .i64 m, .int .i64 x, .int .i64 y], .agg #[vc, vs, vi]] w0
      (Ret fun v w => ∃ a b c, v = .agg #[a, b, c] ∧ St w0 [OwT 9 (clnC (cl ++ clsL k m)) a, OwT 119 (snapF nmS (sl ++ ghoP k)) b, OwT 122 (snapF nmI (il ++ movP m x y)) c] w) := by
  have hkl := cls_len k m
  obtain ⟨a1, c1, rfl, _⟩ := hc.shape
  obtain ⟨a2, c2, rfl, _⟩ := hs.shape
  obtain ⟨a3, c3, rfl, _⟩ := hi.shape
  refine enter Tryz.func15 rfl Tryz.ntmps15 rfl (fun a hk => ?_); have hS := St.refl w0
  (repeat' (first | (show wpListIn _ _ _ _ _ (_ :: _) _ _; first | (refine wx1 ?_; clear hk a; intro a hk) | (refine wx2 ?_ ?_ <;> (intro hp; clear hk a; intro a hk)) | (refine wx3 ?_; clear hk hS a; intro w b hS a hk) | (refine wx4 ?_; clear hk hS a; intro w hS a hk) | (refine wx5 ?_; clear hk hS a; intro w v hS a hk) | fail) | refine wx0 ?_ | (refine s_end hk ?_; clear hk a; intro a hk) | fail))
  refine wp_drawn 15 mixed (by kernel_rfl) hk hS ?_; clear hk hS a
  (repeat' (first | (show ObxE _ _ _ _ _ _ _ _ _ (_ :: _) _ _ _; first | refine ox1 ?_ | (refine ox2 ?_ ?_ <;> intro hp) | fail) | fail))
  refine' obe_res (fun us a w hk hd hS => ?_) ?_; rotate_left; focus (have hk := Kn.vw hk (by repeat (first | exact VW.nil | apply VW.val rfl | apply VW.base rfl rfl | apply VW.res rfl | apply VW.upd rfl | apply VW.cpy rfl | apply VW.dep rfl | apply VW.fn rfl | apply VW.lnd rfl | apply VW.tak rfl)); exact g_callO hk (hf := by kernel_rfl) (hc := classes_any k m x y _) (h := fun _ _ h => h))
  refine' obe_dep 9 3 (V := fun u v => OwT 50 [⟨a1, cl.length, c1⟩, hdOf u] v) (fun us a w hk hd hS => ?_) ?_
  · have hk := Kn.vw hk (by repeat (first | exact VW.nil | apply VW.val rfl | apply VW.base rfl rfl | apply VW.res rfl | apply VW.upd rfl | apply VW.cpy rfl | apply VW.dep rfl | apply VW.fn rfl | apply VW.lnd rfl | apply VW.tak rfl))
    have hG : (OwT 9 (clsL k m) (us 3)).rd w := hd.2.1
    obtain ⟨ao, c, he, _⟩ := (OwT.rd hG).shape
    show Gives _ _ _ _ (fun v w' => St w [OwT 50 [⟨a1, cl.length, c1⟩, hdOf (us 3)] v] w')
    simp only [Nat.zero_add, Nat.reduceAdd] at hk
    rw [he] at hk ⊢
    exact v_bsT (xs := [(⟨a1, cl.length, c1⟩ : Hd), ⟨ao, (clsL k m).length, c⟩]) (m := 1) hk (hT := eT rfl) (hE := zT rfl) (hz := oT rfl)
  refine' obe_res2 (V := fun v => OwT 9 (cl ++ clsL k m) v) (fun us a w hk hd hd2 hS => ?_) ?_
  · have hk := Kn.vw hk (by repeat (first | exact VW.nil | apply VW.val rfl | apply VW.base rfl rfl | apply VW.res rfl | apply VW.upd rfl | apply VW.cpy rfl | apply VW.dep rfl | apply VW.fn rfl | apply VW.lnd rfl | apply VW.tak rfl))
    have hG : (OwT 9 (clsL k m) (us 3)).rd w := hd2 10 (by decide) 4 _ rfl 3 (List.mem_singleton.2 rfl) 9 _ (List.Mem.tail _ (List.Mem.head _)) _ rfl
    obtain ⟨ao, c, he, _⟩ := (OwT.rd hG).shape
    have hV : SlT ([⟨a1, cl.length, c1⟩, hdOf (us 3)] : List Hd) (us 4) w := OwT.rd (show (OwT 50 [⟨a1, cl.length, c1⟩, hdOf (us 3)] (us (0 + 1 + 1 + 1 + 1))).rd w from hd.1)
    have hG' := OwT.rd hG
    rw [he] at hV hG'
    exact g_callO hk (hf := by kernel_rfl) (hc := concat2_any cl (clsL k m) a1 ao c1 c _ _ hV (hS.rdT hc) hG' (by omega)) (h := fun _ _ h => h)
  refine' obe_res (fun us a w hk hd hS => ?_) ?_; rotate_left; focus (have hk := Kn.vw hk (by repeat (first | exact VW.nil | apply VW.val rfl | apply VW.base rfl rfl | apply VW.res rfl | apply VW.upd rfl | apply VW.cpy rfl | apply VW.dep rfl | apply VW.fn rfl | apply VW.lnd rfl | apply VW.tak rfl)); exact g_callO hk (hf := by kernel_rfl) (hc := clean_any (cl ++ clsL k m) _ _ (OwT.rd hd.1) (by simp only [List.length_append]; omega)) (h := fun _ _ h => h))
  (repeat' (first | (show ObxE _ _ _ _ _ _ _ _ _ (_ :: _) _ _ _; first | refine ox1 ?_ | (refine ox2 ?_ ?_ <;> intro hp) | fail) | fail))
  refine' obe_res (fun us a w hk hd hS => ?_) ?_; rotate_left; focus (have hk := Kn.vw hk (by repeat (first | exact VW.nil | apply VW.val rfl | apply VW.base rfl rfl | apply VW.res rfl | apply VW.upd rfl | apply VW.cpy rfl | apply VW.dep rfl | apply VW.fn rfl | apply VW.lnd rfl | apply VW.tak rfl)); exact g_callO hk (hf := by kernel_rfl) (hc := ofS_any sl _ _ (hS.rdT hs) (by omega)) (h := fun _ _ h => h))
  (repeat' (first | (show ObxE _ _ _ _ _ _ _ _ _ (_ :: _) _ _ _; first | refine ox1 ?_ | (refine ox2 ?_ ?_ <;> intro hp) | fail) | fail))
  refine' obe_res (fun us a w hk hd hS => ?_) ?_; rotate_left; focus (have hk := Kn.vw hk (by repeat (first | exact VW.nil | apply VW.val rfl | apply VW.base rfl rfl | apply VW.res rfl | apply VW.upd rfl | apply VW.cpy rfl | apply VW.dep rfl | apply VW.fn rfl | apply VW.lnd rfl | apply VW.tak rfl)); exact g_callO hk (hf := by kernel_rfl) (hc := ofI_any il _ _ (hS.rdT hi) (by omega)) (h := fun _ _ h => h))
  refine' obe_fn [6, 9, 12] (fun l => .agg l.toArray) (fun us a w hk hd hS => ?_) ?_ (by intro k e; simp only [List.mem_cons, List.not_mem_nil, or_false] at e; rcases e with rfl | rfl | rfl; exact ⟨12, _, rfl, rfl⟩; exact ⟨15, _, rfl, rfl⟩; exact ⟨18, _, rfl, rfl⟩)
  · have hk := Kn.vw hk (by repeat (first | exact VW.nil | apply VW.val rfl | apply VW.base rfl rfl | apply VW.res rfl | apply VW.upd rfl | apply VW.cpy rfl | apply VW.dep rfl | apply VW.fn rfl | apply VW.lnd rfl | apply VW.tak rfl))
    have h1 : (OwT 9 (clnC (cl ++ clsL k m)) (us 6)).rd w := hd.1
    have h2 : (OwT 119 (snapF nmS sl) (us 9)).rd w := hd.2.1
    have h3 : (OwT 122 (snapF nmI il) (us 12)).rd w := hd.2.2.1
    obtain ⟨_, _, e1, _⟩ := (OwT.rd h1).shape
    obtain ⟨_, _, e2, _⟩ := (OwT.rd h2).shape
    obtain ⟨_, _, e3, _⟩ := (OwT.rd h3).shape
    simp only [Nat.zero_add, Nat.reduceAdd] at hk
    simp only [List.map]
    rw [e1, e2, e3] at hk ⊢
    exact g_build hk ⟨rfl, St.refl w⟩ (fsT rfl) (oT rfl)
  refine' obe_res (fun us a w hk hd hS => ?_) ?_; rotate_left; focus (have hk := Kn.vw hk (by repeat (first | exact VW.nil | apply VW.val rfl | apply VW.base rfl rfl | apply VW.res rfl | apply VW.upd rfl | apply VW.cpy rfl | apply VW.dep rfl | apply VW.fn rfl | apply VW.lnd rfl | apply VW.tak rfl)); exact v_alloc hk (oT rfl))
  refine obe_nil ⟨rfl, ?_⟩; intro us a w hk hS
  simp only [resE, List.cons_append, List.nil_append, Nat.zero_add, Nat.reduceAdd] at hS
  obtain ⟨b5, hb5, hS1⟩ := hS.ptv (by (repeat (first | exact At.here | apply At.there))); replace hS := hS1; clear hS1
  replace hk := Kn.kp [2, 3, 4, 19, 5] hk
  simp only [HV.of, List.map, Nat.zero_add, Nat.reduceAdd] at hk
  generalize us 3 = v9 at hS hk
  generalize us 4 = v10 at hS hk
  generalize us 5 = v11 at hS hk
  generalize us 6 = v12 at hS hk
  generalize us 9 = v15 at hS hk
  generalize us 12 = v18 at hS hk
  rw [hb5] at hk
  obtain ⟨aov12, cv12, hshp, _⟩ := (OwT.rd (hS.rd (A := OwT 9 _ v12) (by (repeat (first | exact At.here | apply At.there))))).shape; subst hshp
  obtain ⟨aov15, cv15, hshp, _⟩ := (OwT.rd (hS.rd (A := OwT 119 _ v15) (by (repeat (first | exact At.here | apply At.there))))).shape; subst hshp
  obtain ⟨aov18, cv18, hshp, _⟩ := (OwT.rd (hS.rd (A := OwT 122 _ v18) (by (repeat (first | exact At.here | apply At.there))))).shape; subst hshp
  (repeat' (first | (show wpListIn _ _ _ _ _ (_ :: _) _ _; first | (refine wx1 ?_; clear hk a; intro a hk) | (refine wx2 ?_ ?_ <;> (intro hp; clear hk a; intro a hk)) | (refine wx3 ?_; clear hk hS a; intro w b hS a hk) | (refine wx4 ?_; clear hk hS a; intro w hS a hk) | (refine wx5 ?_; clear hk hS a; intro w v hS a hk) | fail) | refine wx0 ?_ | (refine s_end hk ?_; clear hk a; intro a hk) | fail))
  refine sg hk (g_callO hk (hf := by kernel_rfl) (hc := ghost_any k m x y _) (h := ?_)); clear hk a; rintro _ w ⟨rfl, hS1⟩ a hk; replace hS := hS.call0 hS1; clear hS1
  (repeat' (first | (show wpListIn _ _ _ _ _ (_ :: _) _ _; first | (refine wx1 ?_; clear hk a; intro a hk) | (refine wx2 ?_ ?_ <;> (intro hp; clear hk a; intro a hk)) | (refine wx3 ?_; clear hk hS a; intro w b hS a hk) | (refine wx4 ?_; clear hk hS a; intro w hS a hk) | (refine wx5 ?_; clear hk hS a; intro w v hS a hk) | fail) | refine wx0 ?_ | (refine s_end hk ?_; clear hk a; intro a hk) | fail))
  have hs1 := snap_len nmS sl
  have hs2 := snap_len nmI il
  have hs3 := snap_len nmI (snapF nmI il ++ [(⟨#[116, 45, 100, 120]⟩, x)])
  rw [List.length_append, List.length_singleton] at hs3
  have setI2 : ∀ (l : List PrI) (k : ByteArray) (x : Int) (v : Value) (w0 : World) (hv : SlT l v w0) (hl : l.length ≤ 1000),
      Calls Tryz.prog 49 #[v, .string k, .int .i64 x] w0 (Ret fun v w => St w0 [OwT 122 (snapF nmI (l ++ [(k, x)])) v] w) := by
    intro l k x v w0 hv hl
    rw [snap_snoc]
    exact setI_any l k x v w0 hv hl
  cases hg : ghoL k with
  | true =>
    have hgp : ghoP k = [(⟨#[116, 45, 103, 104, 111, 115, 116]⟩, ⟨#[]⟩)] := by unfold ghoP; rw [if_pos hg]
    rw [hgp]
    rw [hg] at hk
    (repeat' (first | (show wpListIn _ _ _ _ _ (_ :: _) _ _; first | (refine wx1 ?_; clear hk a; intro a hk) | (refine wx2 ?_ ?_ <;> (intro hp; clear hk a; intro a hk)) | (refine wx3 ?_; clear hk hS a; intro w b hS a hk) | (refine wx4 ?_; clear hk hS a; intro w hS a hk) | (refine wx5 ?_; clear hk hS a; intro w v hS a hk) | fail) | refine wx0 ?_ | (refine s_end hk ?_; clear hk a; intro a hk) | fail))
    refine sg hk (g_callO hk (hf := by kernel_rfl) (hc := setS_any (snapF nmS sl) ⟨#[116, 45, 103, 104, 111, 115, 116]⟩ ⟨#[]⟩ _ _ (by first | exact St.rdT hS (by assumption) | exact OwT.rd (hS.rd (A := OwT _ _ _) (by (repeat (first | exact At.here | apply At.there)))) | assumption) (by omega)) (h := ?_)); clear hk a; rintro vg w hS1 a hk; replace hS := hS.call hS1; clear hS1
    rw [snap_snap, ← snap_snoc nmS sl] at hS
    obtain ⟨aovg, cvg, hshp, _⟩ := (OwT.rd (hS.rd (A := OwT 119 _ vg) (by (repeat (first | exact At.here | apply At.there))))).shape; subst hshp
    by_cases hm : m = 1
    · have hmp : movP m x y = [(⟨#[116, 45, 100, 120]⟩, x), (⟨#[116, 45, 100, 121]⟩, y)] := by unfold movP; rw [if_pos hm]
      rw [hmp]
      (repeat' (first | (show wpListIn _ _ _ _ _ (_ :: _) _ _; first | (refine wx1 ?_; clear hk a; intro a hk) | (refine wx2 ?_ ?_ <;> (intro hp; clear hk a; intro a hk)) | (refine wx3 ?_; clear hk hS a; intro w b hS a hk) | (refine wx4 ?_; clear hk hS a; intro w hS a hk) | (refine wx5 ?_; clear hk hS a; intro w v hS a hk) | fail) | refine wx0 ?_ | (refine s_end hk ?_; clear hk a; intro a hk) | fail))
      refine wp_drawn 9 mixed (by kernel_rfl) hk hS ?_; clear hk hS a
      (repeat' (first | (show ObxE _ _ _ _ _ _ _ _ _ (_ :: _) _ _ _; first | refine ox1 ?_ | (refine ox2 ?_ ?_ <;> intro hp) | fail) | fail))
      refine' obe_res (fun us a w hk hd hS => ?_) ?_; rotate_left; focus (have hk := Kn.vw hk (by repeat (first | exact VW.nil | apply VW.val rfl | apply VW.base rfl rfl | apply VW.res rfl | apply VW.upd rfl | apply VW.cpy rfl | apply VW.dep rfl | apply VW.fn rfl | apply VW.lnd rfl | apply VW.tak rfl)); exact g_callO hk (hf := by kernel_rfl) (hc := setI2 (snapF nmI il) ⟨#[116, 45, 100, 120]⟩ x _ _ (by first | exact St.rdT hS (by assumption) | exact OwT.rd (hS.rd (A := OwT _ _ _) (by (repeat (first | exact At.here | apply At.there)))) | assumption) (by omega)) (h := fun _ _ h => h))
      (repeat' (first | (show ObxE _ _ _ _ _ _ _ _ _ (_ :: _) _ _ _; first | refine ox1 ?_ | (refine ox2 ?_ ?_ <;> intro hp) | fail) | fail))
      refine' obe_res (fun us a w hk hd hS => ?_) ?_; rotate_left; focus (have hk := Kn.vw hk (by repeat (first | exact VW.nil | apply VW.val rfl | apply VW.base rfl rfl | apply VW.res rfl | apply VW.upd rfl | apply VW.cpy rfl | apply VW.dep rfl | apply VW.fn rfl | apply VW.lnd rfl | apply VW.tak rfl)); exact g_callO hk (hf := by kernel_rfl) (hc := setI2 (snapF nmI (snapF nmI il ++ [((⟨#[116, 45, 100, 120]⟩ : ByteArray), x)])) ⟨#[116, 45, 100, 121]⟩ y _ _ (OwT.rd hd.1) (by omega)) (h := fun _ _ h => h))
      (repeat' (first | (show ObxE _ _ _ _ _ _ _ _ _ (_ :: _) _ _ _; first | refine ox1 ?_ | (refine ox2 ?_ ?_ <;> intro hp) | fail) | fail))
      refine obe_nil ⟨rfl, ?_⟩; intro us a w hk hS
      simp only [resE, List.cons_append, List.nil_append, Nat.zero_add, Nat.reduceAdd] at hS
      replace hk := Kn.kp [2, 3, 4, 5, 36, 37] hk
      simp only [HV.of, Nat.zero_add, Nat.reduceAdd] at hk
      generalize us 4 = v33 at hS hk
      generalize us 7 = v36 at hS hk
      obtain ⟨aov36, cv36, hshp, _⟩ := (OwT.rd (hS.rd (A := OwT 122 _ v36) (by (repeat (first | exact At.here | apply At.there))))).shape; subst hshp
      (repeat' (first | (show wpListIn _ _ _ _ _ (_ :: _) _ _; first | (refine wx1 ?_; clear hk a; intro a hk) | (refine wx2 ?_ ?_ <;> (intro hp; clear hk a; intro a hk)) | (refine wx3 ?_; clear hk hS a; intro w b hS a hk) | (refine wx4 ?_; clear hk hS a; intro w hS a hk) | (refine wx5 ?_; clear hk hS a; intro w v hS a hk) | fail) | refine wx0 ?_ | (refine s_end hk ?_; clear hk a; intro a hk) | fail))
      have e : snapF nmI (snapF nmI (snapF nmI il ++ [(⟨#[116, 45, 100, 120]⟩, x)]) ++ [(⟨#[116, 45, 100, 121]⟩, y)]) = snapF nmI (il ++ [(⟨#[116, 45, 100, 120]⟩, x), (⟨#[116, 45, 100, 121]⟩, y)]) := by
        rw [snap_snoc nmI (snapF nmI _), snap_snap, snap_snoc nmI (snapF nmI il), snap_snap, show il ++ [(⟨#[116, 45, 100, 120]⟩, x), (⟨#[116, 45, 100, 121]⟩, y)] = (il ++ [(⟨#[116, 45, 100, 120]⟩, x)]) ++ [(⟨#[116, 45, 100, 121]⟩, y)] by simp, snap_snoc, snap_snoc]
      rw [e] at hS hk
      exact done1R hk rfl (.str hS (hT := aT rfl) (hs := zT rfl)) (h := ⟨_, _, _, rfl, hS.sb⟩)
    · have hmp : movP m x y = [] := by unfold movP; rw [if_neg hm]
      rw [hmp, List.append_nil]
      (repeat' (first | (show wpListIn _ _ _ _ _ (_ :: _) _ _; first | (refine wx1 ?_; clear hk a; intro a hk) | (refine wx2 ?_ ?_ <;> (intro hp; clear hk a; intro a hk)) | (refine wx3 ?_; clear hk hS a; intro w b hS a hk) | (refine wx4 ?_; clear hk hS a; intro w hS a hk) | (refine wx5 ?_; clear hk hS a; intro w v hS a hk) | fail) | refine wx0 ?_ | (refine s_end hk ?_; clear hk a; intro a hk) | fail))
      exact done1R hk rfl (.str hS (hT := aT rfl) (hs := zT rfl)) (h := ⟨_, _, _, rfl, hS.sb⟩)
  | false =>
    have hgp : ghoP k = [] := by unfold ghoP; rw [hg]; rfl
    rw [hgp, List.append_nil]
    rw [hg] at hk
    by_cases hm : m = 1
    · have hmp : movP m x y = [(⟨#[116, 45, 100, 120]⟩, x), (⟨#[116, 45, 100, 121]⟩, y)] := by unfold movP; rw [if_pos hm]
      rw [hmp]
      (repeat' (first | (show wpListIn _ _ _ _ _ (_ :: _) _ _; first | (refine wx1 ?_; clear hk a; intro a hk) | (refine wx2 ?_ ?_ <;> (intro hp; clear hk a; intro a hk)) | (refine wx3 ?_; clear hk hS a; intro w b hS a hk) | (refine wx4 ?_; clear hk hS a; intro w hS a hk) | (refine wx5 ?_; clear hk hS a; intro w v hS a hk) | fail) | refine wx0 ?_ | (refine s_end hk ?_; clear hk a; intro a hk) | fail))
      refine wp_drawn 9 mixed (by kernel_rfl) hk hS ?_; clear hk hS a
      (repeat' (first | (show ObxE _ _ _ _ _ _ _ _ _ (_ :: _) _ _ _; first | refine ox1 ?_ | (refine ox2 ?_ ?_ <;> intro hp) | fail) | fail))
      refine' obe_res (fun us a w hk hd hS => ?_) ?_; rotate_left; focus (have hk := Kn.vw hk (by repeat (first | exact VW.nil | apply VW.val rfl | apply VW.base rfl rfl | apply VW.res rfl | apply VW.upd rfl | apply VW.cpy rfl | apply VW.dep rfl | apply VW.fn rfl | apply VW.lnd rfl | apply VW.tak rfl)); exact g_callO hk (hf := by kernel_rfl) (hc := setI2 (snapF nmI il) ⟨#[116, 45, 100, 120]⟩ x _ _ (by first | exact St.rdT hS (by assumption) | exact OwT.rd (hS.rd (A := OwT _ _ _) (by (repeat (first | exact At.here | apply At.there)))) | assumption) (by omega)) (h := fun _ _ h => h))
      (repeat' (first | (show ObxE _ _ _ _ _ _ _ _ _ (_ :: _) _ _ _; first | refine ox1 ?_ | (refine ox2 ?_ ?_ <;> intro hp) | fail) | fail))
      refine' obe_res (fun us a w hk hd hS => ?_) ?_; rotate_left; focus (have hk := Kn.vw hk (by repeat (first | exact VW.nil | apply VW.val rfl | apply VW.base rfl rfl | apply VW.res rfl | apply VW.upd rfl | apply VW.cpy rfl | apply VW.dep rfl | apply VW.fn rfl | apply VW.lnd rfl | apply VW.tak rfl)); exact g_callO hk (hf := by kernel_rfl) (hc := setI2 (snapF nmI (snapF nmI il ++ [((⟨#[116, 45, 100, 120]⟩ : ByteArray), x)])) ⟨#[116, 45, 100, 121]⟩ y _ _ (OwT.rd hd.1) (by omega)) (h := fun _ _ h => h))
      (repeat' (first | (show ObxE _ _ _ _ _ _ _ _ _ (_ :: _) _ _ _; first | refine ox1 ?_ | (refine ox2 ?_ ?_ <;> intro hp) | fail) | fail))
      refine obe_nil ⟨rfl, ?_⟩; intro us a w hk hS
      simp only [resE, List.cons_append, List.nil_append, Nat.zero_add, Nat.reduceAdd] at hS
      replace hk := Kn.kp [2, 3, 4, 5, 36, 37] hk
      simp only [HV.of, Nat.zero_add, Nat.reduceAdd] at hk
      generalize us 4 = v33 at hS hk
      generalize us 7 = v36 at hS hk
      obtain ⟨aov36, cv36, hshp, _⟩ := (OwT.rd (hS.rd (A := OwT 122 _ v36) (by (repeat (first | exact At.here | apply At.there))))).shape; subst hshp
      (repeat' (first | (show wpListIn _ _ _ _ _ (_ :: _) _ _; first | (refine wx1 ?_; clear hk a; intro a hk) | (refine wx2 ?_ ?_ <;> (intro hp; clear hk a; intro a hk)) | (refine wx3 ?_; clear hk hS a; intro w b hS a hk) | (refine wx4 ?_; clear hk hS a; intro w hS a hk) | (refine wx5 ?_; clear hk hS a; intro w v hS a hk) | fail) | refine wx0 ?_ | (refine s_end hk ?_; clear hk a; intro a hk) | fail))
      have e : snapF nmI (snapF nmI (snapF nmI il ++ [(⟨#[116, 45, 100, 120]⟩, x)]) ++ [(⟨#[116, 45, 100, 121]⟩, y)]) = snapF nmI (il ++ [(⟨#[116, 45, 100, 120]⟩, x), (⟨#[116, 45, 100, 121]⟩, y)]) := by
        rw [snap_snoc nmI (snapF nmI _), snap_snap, snap_snoc nmI (snapF nmI il), snap_snap, show il ++ [(⟨#[116, 45, 100, 120]⟩, x), (⟨#[116, 45, 100, 121]⟩, y)] = (il ++ [(⟨#[116, 45, 100, 120]⟩, x)]) ++ [(⟨#[116, 45, 100, 121]⟩, y)] by simp, snap_snoc, snap_snoc]
      rw [e] at hS hk
      exact done1R hk rfl (.str hS (hT := aT rfl) (hs := zT rfl)) (h := ⟨_, _, _, rfl, hS.sb⟩)
    · have hmp : movP m x y = [] := by unfold movP; rw [if_neg hm]
      rw [hmp, List.append_nil]
      (repeat' (first | (show wpListIn _ _ _ _ _ (_ :: _) _ _; first | (refine wx1 ?_; clear hk a; intro a hk) | (refine wx2 ?_ ?_ <;> (intro hp; clear hk a; intro a hk)) | (refine wx3 ?_; clear hk hS a; intro w b hS a hk) | (refine wx4 ?_; clear hk hS a; intro w hS a hk) | (refine wx5 ?_; clear hk hS a; intro w v hS a hk) | fail) | refine wx0 ?_ | (refine s_end hk ?_; clear hk a; intro a hk) | fail))
      exact done1R hk rfl (.str hS (hT := aT rfl) (hs := zT rfl)) (h := ⟨_, _, _, rfl, hS.sb⟩)
end Go.Proofs.YthodcfdgahfniaaGreat
namespace Go.Proofs.YthodcfdgahfniaaGreat
open Lib (decDigits itoa)

def digB (b : UInt8) : Bool := decide (48 ≤ b.toNat ∧ b.toNat ≤ 57)
def valL (l : List UInt8) : Nat := l.foldl (fun n b => 10 * n + (b.toNat - 48)) 0
def sgnL (L : List UInt8) : Bool := decide (L.head? = some 45)
def digL (L : List UInt8) : List UInt8 := if sgnL L then L.tail else L
def numL (L : List UInt8) : Int := if sgnL L then -((valL (digL L) : Nat) : Int) else ((valL (digL L) : Nat) : Int)
def badD (L : List UInt8) : Prop := digL L = [] ∨ 10 < (digL L).length ∨ (digL L).all digB = false
def zerD (L : List UInt8) : Prop := (digL L).head? = some 48 ∧ (1 < (digL L).length ∨ sgnL L = true)
def outR (m : Int) : Prop := m < -2147483648 ∨ 2147483647 < m
instance (L : List UInt8) : Decidable (badD L) := by unfold badD; infer_instance
instance (L : List UInt8) : Decidable (zerD L) := by unfold zerD; infer_instance
instance (m : Int) : Decidable (outR m) := by unfold outR; infer_instance
def numP (L : List UInt8) : Int × Bool := if badD L ∨ zerD L ∨ outR (numL L) then (0, false) else (numL L, true)
end Go.Proofs.YthodcfdgahfniaaGreat
namespace Go.Proofs.YthodcfdgahfniaaGreat
open Go.RowKit
set_option maxRecDepth 100000
attribute [local irreducible] Go.Code.wpIn Go.wpListIn Go.Calls Gives Go.Exit.then Go.Exit.inBlock Done ObxE

def letB (b : UInt8) : Bool := decide (97 ≤ b.toNat ∧ b.toNat ≤ 122)
def plaB (b : UInt8) : Bool := decide ((97 ≤ b.toNat ∧ b.toNat ≤ 122) ∨ (48 ≤ b.toNat ∧ b.toNat ≤ 57) ∨ b.toNat = 45)
def visB (b : UInt8) : Bool := decide (32 < b.toNat ∧ b.toNat ≤ 126 ∧ b.toNat ≠ 39 ∧ b.toNat ≠ 40 ∧ b.toNat ≠ 41)
def priB (b : UInt8) : Bool := decide (32 ≤ b.toNat ∧ b.toNat ≤ 126 ∧ b.toNat ≠ 39)
def keyS (s : ByteArray) : Bool := decide (1 ≤ s.size ∧ s.size ≤ 16) && s.data.toList.all plaB
def nameS (s : ByteArray) : Bool := keyS s && (match s.data.toList with | [] => false | a :: _ => letB a)
def valS (s : ByteArray) : Bool := decide (s.size ≤ 32) && s.data.toList.all visB
def txtS (s : ByteArray) : Bool := decide (s.size ≤ 64) && s.data.toList.all priB
def rsvS (s : ByteArray) : Bool := decide (2 ≤ s.size ∧ s.extract 0 2 = ⟨#[116, 45]⟩)
def chkS (s : ByteArray) : Int := if nameS s then (if rsvS s then 6 else 0) else 2
end Go.Proofs.YthodcfdgahfniaaGreat
namespace Go.Proofs.YthodcfdgahfniaaGreat
open Go.RowKit
set_option maxRecDepth 100000
attribute [local irreducible] Go.Code.wpIn Go.wpListIn Go.Calls Gives Go.Exit.then Go.Exit.inBlock Done ObxE

theorem prefix_any (s p : ByteArray) (w0 : World) : Calls Tryz.prog 100 #[.string s, .string p] w0 (Ret fun v w => v = .bool (decide (p.size ≤ s.size ∧ s.extract 0 p.size = p)) ∧ St w0 [] w) := by
  refine enter Tryz.func100 rfl Tryz.ntmps100 rfl (fun a hk => ?_); have hS := St.refl w0
  by_cases h : p.size ≤ s.size
  · (repeat' (first | (show wpListIn _ _ _ _ _ (_ :: _) _ _; first | (refine wx1 ?_; clear hk a; intro a hk) | (refine wx2 ?_ ?_ <;> (intro hp; clear hk a; intro a hk)) | (refine wx3 ?_; clear hk hS a; intro w b hS a hk) | (refine wx4 ?_; clear hk hS a; intro w hS a hk) | (refine wx5 ?_; clear hk hS a; intro w v hS a hk) | fail) | refine wx0 ?_ | (refine s_end hk ?_; clear hk a; intro a hk) | fail))
    all_goals first
      | exact done1 hk (h := ⟨by rw [decide_eq_true ⟨h, by simpa using (by assumption)⟩], hS.nil⟩)
      | exact done1 hk (h := ⟨by rw [decide_eq_false (fun e => absurd e.2 (by simpa using (by assumption)))], hS.nil⟩)
  · (repeat' (first | (show wpListIn _ _ _ _ _ (_ :: _) _ _; first | (refine wx1 ?_; clear hk a; intro a hk) | (refine wx2 ?_ ?_ <;> (intro hp; clear hk a; intro a hk)) | (refine wx3 ?_; clear hk hS a; intro w b hS a hk) | (refine wx4 ?_; clear hk hS a; intro w hS a hk) | (refine wx5 ?_; clear hk hS a; intro w v hS a hk) | fail) | refine wx0 ?_ | (refine s_end hk ?_; clear hk a; intro a hk) | fail))
    exact done1 hk (h := ⟨by rw [decide_eq_false (fun e => h e.1)], hS.nil⟩)
theorem hasPrefix_any (s p : ByteArray) (w0 : World) : Calls Tryz.prog 84 #[.string s, .string p] w0 (Ret fun v w => v = .bool (decide (p.size ≤ s.size ∧ s.extract 0 p.size = p)) ∧ St w0 [] w) := by
  refine enter Tryz.func84 rfl Tryz.ntmps84 rfl (fun a hk => ?_); have hS := St.refl w0
  (repeat' (first | (show wpListIn _ _ _ _ _ (_ :: _) _ _; first | (refine wx1 ?_; clear hk a; intro a hk) | (refine wx2 ?_ ?_ <;> (intro hp; clear hk a; intro a hk)) | (refine wx3 ?_; clear hk hS a; intro w b hS a hk) | (refine wx4 ?_; clear hk hS a; intro w hS a hk) | (refine wx5 ?_; clear hk hS a; intro w v hS a hk) | fail) | refine wx0 ?_ | (refine s_end hk ?_; clear hk a; intro a hk) | fail))
  refine sg hk (g_callO hk (hf := by kernel_rfl) (hc := prefix_any s p _) (h := ?_)); clear hk a; rintro _ w ⟨rfl, hS1⟩ a hk; replace hS := hS.call0 hS1; clear hS1
  (repeat' (first | (show wpListIn _ _ _ _ _ (_ :: _) _ _; first | (refine wx1 ?_; clear hk a; intro a hk) | (refine wx2 ?_ ?_ <;> (intro hp; clear hk a; intro a hk)) | (refine wx3 ?_; clear hk hS a; intro w b hS a hk) | (refine wx4 ?_; clear hk hS a; intro w hS a hk) | (refine wx5 ?_; clear hk hS a; intro w v hS a hk) | fail) | refine wx0 ?_ | (refine s_end hk ?_; clear hk a; intro a hk) | fail))
  exact done1 hk (h := ⟨rfl, hS.nil⟩)

end Go.Proofs.YthodcfdgahfniaaGreat
