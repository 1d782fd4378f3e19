/- The top, a kid's life: how far its numbers go; what is cut. The top, a kid's life: the law. The top, a kid's life: of any reading. -/
import Derived.Test.YthodcfdgahfniaaGreatV18
import Derived.Test.YthodcfdgahfniaaGreatV15
import Derived.Test.YthodcfdgahfniaaGreatV03
set_option linter.all false
namespace Go.Proofs.YthodcfdgahfniaaGreat
open Go.RowKit

theorem and_in (p : Int) (m : Nat) (hm : m < 9223372036854775808) : 0 ≤ bits .and .i64 p m ∧ bits .and .i64 p m ≤ m := by
  have h : bits .and .i64 p m = IntKind.i64.wrap ((BitVec.ofInt 64 p &&& BitVec.ofInt 64 (m : Int)).toNat : Int) := rfl
  have h2 : (BitVec.ofInt 64 p &&& BitVec.ofInt 64 (m : Int)).toNat ≤ m := by
    rw [BitVec.toNat_and]
    have : (BitVec.ofInt 64 (m : Int)).toNat = m := by
      rw [BitVec.toNat_ofInt]
      omega
    rw [this]
    exact Nat.and_le_right
  rw [h]
  generalize (BitVec.ofInt 64 p &&& BitVec.ofInt 64 (m : Int)).toNat = n at h2
  unfold IntKind.wrap
  simp only [IntKind.bits, IntKind.signed, Bool.true_and]
  split
  · rename_i hh
    have hh := of_decide_eq_true hh
    omega
  · omega
theorem frame_num (ks : KS) : (frameK ks).now = ks.now ∧ ks.wl ≤ (frameK ks).wl ∧ (frameK ks).wl ≤ ks.wl + 2 ∧ ks.ql ≤ (frameK ks).ql ∧ (frameK ks).ql ≤ ks.ql + 2 ∧ (frameK ks).told.length ≤ ks.told.length + 1 := by
  unfold frameK
  cases ks.w with
  | no => dsimp only; omega
  | q1 t k => dsimp only; omega
  | tm t d k => dsimp only; omega
  | q0 t k =>
    dsimp only
    have h := done_num { ks with w := .no } (dueO k ks.s)
    rw [due_hk, List.append_nil] at h
    obtain ⟨h1, h2, h3, h4, h5, h6⟩ := h
    dsimp only at h1 h2 h3 h4 h5 h6
    rw [h6]
    omega
theorem tick_num (ks : KS) (n : Int) : (tickK ks n).now = ks.now + n ∧ ks.wl ≤ (tickK ks n).wl ∧ (tickK ks n).wl ≤ ks.wl + 2 ∧ ks.ql ≤ (tickK ks n).ql ∧ (tickK ks n).ql ≤ ks.ql + 2 ∧ (tickK ks n).told.length ≤ ks.told.length + 1 := by
  unfold tickK
  cases ks.w with
  | no => dsimp only; omega
  | q1 t k => dsimp only; omega
  | q0 t k => dsimp only; omega
  | tm t d k =>
    dsimp only
    split
    · have h := done_num { ks with w := .no, now := max ks.now d } (overO k ks.s)
      obtain ⟨h1, h2, h3, h4, h5, h6⟩ := h
      have h7 := over_hk k ks.s
      dsimp only at h1 h2 h3 h4 h5 h6
      unfold popK
      rw [h6, List.length_append]
      dsimp only
      omega
    · dsimp only; omega
def Nums21 (i : Nat) (H : Int) (ks : KS) : Prop := Kd H ks ∧ (0 ≤ H ∧ H ≤ 15) ∧ (0 ≤ ks.now ∧ ks.now ≤ 15 * i) ∧ (0 ≤ ks.wl ∧ ks.wl ≤ 2 * i) ∧ (0 ≤ ks.ql ∧ ks.ql ≤ 2 * i) ∧ ks.told.length ≤ 3 * i
theorem Nums21.frame {i : Nat} {H : Int} {ks : KS} (h : Nums21 i H ks) : frmAsk ks ∧ Nums21 (i + 1) H (frameK ks) := by
  obtain ⟨h1, h2, h3, h4, h5, h6⟩ := h
  have hk := frame_kd h2.1 h3.1 h1
  have hn := frame_num ks
  refine ⟨hk.1, hk.2, h2, ?_, ?_, ?_, ?_⟩ <;> omega
theorem Nums21.tick {i : Nat} {H n : Int} {ks : KS} (h : Nums21 i H ks) (h0 : 0 ≤ n) (h15 : n ≤ 15) : tckAsk ks n ∧ Nums21 (i + 1) H (tickK ks n) := by
  obtain ⟨h1, h2, h3, h4, h5, h6⟩ := h
  have hk := tick_kd h2.1 h3.1 h0 h1
  have hn := tick_num ks n
  refine ⟨hk.1, hk.2, h2, ?_, ?_, ?_, ?_⟩ <;> omega
theorem Nums21.call {i : Nat} {H dur dx dy c : Int} {once : Bool} {ks : KS} (h : Nums21 i H ks) (hg : ks.gone = false) (hdu : 0 ≤ dur ∧ dur ≤ H) (hx : 0 ≤ dx ∧ dx ≤ 255) (hy : 0 ≤ dy ∧ dy ≤ 255) (c4 : c ≠ 4) (c9 : c ≠ 9) :
    askable ks (callP ks.s c dur dx dy once) ∧ Nums21 (i + 1) H (doneK ks (callP ks.s c dur dx dy once)) := by
  obtain ⟨h1, h2, h3, h4, h5, h6⟩ := h
  have hk := call_kd (once := once) h2.1 h3.1 hg hdu hx hy c4 c9 h1
  obtain ⟨n1, n2, n3, n4, n5, n6⟩ := done_num ks (callP ks.s c dur dx dy once)
  have hl := call_hk ks.s c dur dx dy once
  refine ⟨hk.1, hk.2, h2, ?_, ?_, ?_, ?_⟩
  · omega
  · omega
  · omega
  · rw [n6, List.length_append]; omega
theorem Nums21.next {i : Nat} {H : Int} {ks : KS} (h : Nums21 i H ks) : Nums21 (i + 1) H ks := by
  obtain ⟨h1, h2, h3, h4, h5, h6⟩ := h
  refine ⟨h1, h2, ?_, ?_, ?_, ?_⟩ <;> omega
theorem Nums21.upto {i j : Nat} {H : Int} {ks : KS} (h : Nums21 i H ks) (hj : i ≤ j) : Nums21 j H ks := by
  obtain ⟨h1, h2, h3, h4, h5, h6⟩ := h
  refine ⟨h1, h2, ?_, ?_, ?_, ?_⟩ <;> omega
theorem Nums21.longer {i : Nat} {H d : Int} {ks : KS} (h : Nums21 i H ks) (hd : d ≤ 15) : Nums21 i (max H d) ks := by
  obtain ⟨h1, h2, h3, h4, h5, h6⟩ := h
  exact ⟨h1.longer (by omega), by omega, h3, h4, h5, h6⟩
end Go.Proofs.YthodcfdgahfniaaGreat
namespace Go.Proofs.YthodcfdgahfniaaGreat
open Go.RowKit
section
variable {P : Program} {Q : Exit → Act → World → Prop} {rr : Option Nat} {a : Act} {w : World}
theorem wp_aftB {x : Code} {k : Nat} {Q1 : Act → World → Prop} (R' : Act → World → Prop) (h1 : x.wpIn (FR rr) 0 P (Exit.inBlock k (Exit.then R' Q)) a w) (h2 : ∀ a w, R' a w → Q1 a w) : x.wpIn (FR rr) 0 P (Exit.inBlock k (Exit.then Q1 Q)) a w :=
  wpIn_mono h1 (fun e a w h => by
    cases e with
    | normal => exact h2 _ _ h
    | exit m =>
      by_cases hm : m = k
      · simp only [Exit.inBlock, hm, if_true] at h ⊢
        exact h2 _ _ h
      · simp only [Exit.inBlock, hm, if_false] at h ⊢
        exact h
    | _ => exact h)
end
section
variable {P : Program} {a : Act} {w : World} {n : Nat} {l : List (Nat × Value)} {df : List Deferred}
  {dst : Option Nat} {ty : TypeId} {pos : String} {af : Array Edge} {g : Option (Nat × Bool)} {R : Value → World → Prop}
theorem g_ptrN {x : Operand} {t t' : TypeId} {b o : Nat} (hk : Kn df n a l) (h : R (.bool false) w) (hT : P.underlying t = some (.pointer (P.pointee t))) (hx : ev l x = some (.pointer (some ⟨b, o, none⟩)) := by rfl) :
    Gives P ⟨dst, .binOp .eql t x (.const (.pointer none)) t', ty, pos, af, g⟩ a w R :=
  givesv (v := .bool false) (by
    have h1 := run_eql_pointer_nil (P := P) w t (some ⟨b, o, none⟩) hT
    have h2 : a.eval (.const (.pointer none)) = .pointer none := rfl
    simp [execOp, hk.eval hx, h2, eqGuard_at_pointer, h1]) h
end
set_option maxRecDepth 100000
attribute [local irreducible] Go.Code.wpIn Go.wpListIn Go.Calls Gives Go.Exit.then Go.Exit.inBlock Done ObxE

def poH (o : PO) (v : Value) : HP := bagH (fun h : Hd => [OwT 3 o.hk h.v]) (fun h => v = ouV o h)
abbrev ActT := Int × Int × Int × Int × Bool
set_option maxHeartbeats 4000000 in
theorem lives_any (fresh : Bool) (acts : List ActT) (va : Value) (W : World) (ha : SlT acts va W) : Calls Tryz.prog 3 #[.agg #[.bool fresh, va]] W (Ret fun v w => v = .bool true ∧ St W [] w) := by
  obtain ⟨aa, ca, rfl, _⟩ := ha.shape
  have hlen := ha.2.1
  refine enter Tryz.func3 rfl Tryz.ntmps3 rfl (fun a hk => ?_); have hS := St.refl W
  (repeat' (first | (show wpListIn _ _ _ _ _ (_ :: _) _ _; first | (refine wx1 ?_; clear hk a; intro a hk) | (refine wx2 ?_ ?_ <;> (intro hp; clear hk a; intro a hk)) | (refine wx3 ?_; clear hk hS a; intro w b hS a hk) | (refine wx4 ?_; clear hk hS a; intro w hS a hk) | (refine wx5 ?_; clear hk hS a; intro w v hS a hk) | fail) | refine wx0 ?_ | (refine s_end hk ?_; clear hk a; intro a hk) | fail))
  rename Nat => b1
  refine sg hk (g_callO hk (hf := by kernel_rfl) (hc := new21_any fresh _) (h := ?_)); clear hk a; rintro _ w ⟨rfl, hS1⟩ a hk; replace hS := hS.call0 hS1; clear hS1
  refine sg hk (g_callO hk (hf := by kernel_rfl) (hc := newS_any _) (h := ?_)); clear hk a; rintro vs w ⟨bs, rfl, hS1⟩ a hk; replace hS := hS.call hS1; clear hS1
  rw [List.cons_append, List.nil_append] at hS
  generalize hs0 : (⟨if fresh = true then 1 else 0, 0, 0, 0, 0, 0⟩ : PS) = s0 at hk
  (repeat' (first | (show wpListIn _ _ _ _ _ (_ :: _) _ _; first | (refine wx1 ?_; clear hk a; intro a hk) | (refine wx2 ?_ ?_ <;> (intro hp; clear hk a; intro a hk)) | (refine wx3 ?_; clear hk hS a; intro w b hS a hk) | (refine wx4 ?_; clear hk hS a; intro w hS a hk) | (refine wx5 ?_; clear hk hS a; intro w v hS a hk) | fail) | refine wx0 ?_ | (refine s_end hk ?_; clear hk a; intro a hk) | fail))
  rename Nat => bk
  replace hS : St W [pts bk (kidF bs s0 (false, 0) (false, 0) (.slice none 0 0) false) 37, schedH bs 0 0 0 .no, pts b1 [.bool fresh, .slice aa acts.length ca] 24] w := hS
  simp only [kidF] at hS
  replace hk := Kn.kp [1, 2, 3, 17] hk
  refine sg hk (g_ptrN hk ?_ (by kernel_rfl)); clear hk a; intro a hk
  (repeat' (first | (show wpListIn _ _ _ _ _ (_ :: _) _ _; first | (refine wx1 ?_; clear hk a; intro a hk) | (refine wx2 ?_ ?_ <;> (intro hp; clear hk a; intro a hk)) | (refine wx3 ?_; clear hk hS a; intro w b hS a hk) | (refine wx4 ?_; clear hk hS a; intro w hS a hk) | (refine wx5 ?_; clear hk hS a; intro w v hS a hk) | fail) | refine wx0 ?_ | (refine s_end hk ?_; clear hk a; intro a hk) | fail))
  refine sg hk (g_callO hk (hf := by kernel_rfl) (hc := frame21_any s0 _ _ _ hS) (h := ?_)); clear hk hS a; rintro _ w ⟨h3, rfl, hS⟩ a hk
  have hf0 : (frameP s0).j = 0 := by
    rw [← hs0]
    cases fresh <;> rfl
  (repeat' (first | (show wpListIn _ _ _ _ _ (_ :: _) _ _; first | (refine wx1 ?_; clear hk a; intro a hk) | (refine wx2 ?_ ?_ <;> (intro hp; clear hk a; intro a hk)) | (refine wx3 ?_; clear hk hS a; intro w b hS a hk) | (refine wx4 ?_; clear hk hS a; intro w hS a hk) | (refine wx5 ?_; clear hk hS a; intro w v hS a hk) | fail) | refine wx0 ?_ | (refine s_end hk ?_; clear hk a; intro a hk) | fail))
  refine sg hk (g_callO hk (hf := by kernel_rfl) (hc := new21_any true _) (h := ?_)); clear hk a; rintro _ w ⟨rfl, hS1⟩ a hk; replace hS := hS.call0 hS1; clear hS1
  simp only [if_true] at hk
  refine sg hk (g_callO hk (hf := by kernel_rfl) (hc := enter21_any ⟨1, 0, 0, 0, 0, 0⟩ 1 false _ _ _ hS) (h := ?_)); clear hk hS a; rintro _ w ⟨h4, rfl, hS⟩ a hk
  have hf1 : (entrP ⟨1, 0, 0, 0, 0, 0⟩ 1 false).j = 1 := rfl
  (repeat' (first | (show wpListIn _ _ _ _ _ (_ :: _) _ _; first | (refine wx1 ?_; clear hk a; intro a hk) | (refine wx2 ?_ ?_ <;> (intro hp; clear hk a; intro a hk)) | (refine wx3 ?_; clear hk hS a; intro w b hS a hk) | (refine wx4 ?_; clear hk hS a; intro w hS a hk) | (refine wx5 ?_; clear hk hS a; intro w v hS a hk) | fail) | refine wx0 ?_ | (refine s_end hk ?_; clear hk a; intro a hk) | fail))
  replace hS := (hS.nilT 3 Int).sub (L' := kidL bk bs ⟨s0, 0, 0, 0, .no, (false, 0), (false, 0), [], false⟩ noH ++ [pts b1 [.bool fresh, .slice aa acts.length ca] 24]) (by simp only [kidL, List.cons_append, List.nil_append]; exact (by (repeat (first | exact Sub.nil | exact Sub.refl | refine Sub.cons (by (repeat (first | exact At.here | apply At.there))) ?_))))
  replace hS := kidH.of hS
  have h0 : Nums21 0 0 ⟨s0, 0, 0, 0, .no, (false, 0), (false, 0), [], false⟩ := by
    refine ⟨?_, by omega, by dsimp only; omega, by dsimp only; omega, by dsimp only; omega, by simp⟩
    rw [← hs0]
    cases fresh with
    | true => exact .of rfl (.wait (by omega) (.inl rfl))
    | false => exact .of rfl (.still (by omega) (.inl rfl))
  replace hk := Kn.kp [1, 2, 3, 4, 5] hk
  refine wp_aftB (fun a w => ∃ (ks : KS) (H : Int), Kn [] 195 a [(1, ptV b1), (3, ptV bk), (4, .int .i64 H)] ∧ St W [kidH bk bs ks, pts b1 [.bool fresh, .slice aa acts.length ca] 24] w ∧ Nums21 40 H ks) ?_ ?_
  · refine wp_for 40 (fun i (y : KS × Int) => [(4, .int .i64 y.2), (5, .int .i64 (i : Int))]) (fun i y => [kidH bk bs y.1, pts b1 [.bool fresh, .slice aa acts.length ca] 24]) (fun i y => Nums21 i y.2 y.1) (⟨s0, 0, 0, 0, .no, (false, 0), (false, 0), [], false⟩, 0) hk (by repeat (first | exact trivial | refine ⟨rfl, ?_⟩)) hS h0 ?_
    clear hk hS a h0 hf0 hf1
    rintro i ⟨ks, H⟩ a w hi hk hS hN
    (try simp only at hk hS hN)
    have hout : Nums21 40 H ks := hN.upto (by omega)
    obtain ⟨h5, hS1⟩ := hS.kid (bk := bk) (bs := bs) (ks := ks) (by (repeat (first | exact At.here | apply At.there)))
    clear hS
    have hS := hS1
    clear hS1
    simp only [kidL, kidF, List.cons_append, List.nil_append] at hS
    have hback : ∀ w', St W [pts bk [.int .i64 ks.s.k, .int .i64 ks.s.m, .int .i64 ks.s.x, .int .i64 ks.s.y, .int .i64 ks.s.d, .int .i64 ks.s.e, ptV bs, .bool ks.job.1, .int .i64 ks.job.2, .bool ks.mv.1, .int .i64 ks.mv.2, h5.v, .bool ks.gone] 37, OwT 3 ks.told h5.v, schedH bs ks.now ks.wl ks.ql ks.w, pts b1 [.bool fresh, .slice aa acts.length ca] 24] w' → St W [kidH bk bs ks, pts b1 [.bool fresh, .slice aa acts.length ca] 24] w' := fun w' h => kidH.of (h := h5) h
    by_cases hil : i < acts.length
    · by_cases h40 : i < 40
      · cases hg : ks.gone with
        | true =>
          rw [hg] at hS hback
          (repeat' (first | (show wpListIn _ _ _ _ _ (_ :: _) _ _; first | (refine wx1 ?_; clear hk a; intro a hk) | (refine wx2 ?_ ?_ <;> (intro hp; clear hk a; intro a hk)) | (refine wx3 ?_; clear hk hS a; intro w b hS a hk) | (refine wx4 ?_; clear hk hS a; intro w hS a hk) | (refine wx5 ?_; clear hk hS a; intro w v hS a hk) | fail) | refine wx0 ?_ | (refine s_end hk ?_; clear hk a; intro a hk) | fail))
          exact ⟨ks, H, hk.sub (by repeat (first | exact trivial | refine ⟨rfl, ?_⟩)), hback _ hS, hout⟩
        | false =>
          obtain ⟨⟨c, du, dx, dy, once⟩, hx⟩ : ∃ x, acts[i]? = some x := ⟨_, List.getElem?_eq_getElem hil⟩
          rw [hg] at hS hback
          (repeat' (first | (show wpListIn _ _ _ _ _ (_ :: _) _ _; first | (refine wx1 ?_; clear hk a; intro a hk) | (refine wx2 ?_ ?_ <;> (intro hp; clear hk a; intro a hk)) | (refine wx3 ?_; clear hk hS a; intro w b hS a hk) | (refine wx4 ?_; clear hk hS a; intro w hS a hk) | (refine wx5 ?_; clear hk hS a; intro w v hS a hk) | fail) | refine wx0 ?_ | (refine s_end hk ?_; clear hk a; intro a hk) | fail))
          rename Nat => b6
          obtain ⟨d0, d1⟩ := and_in du 15 (by decide)
          generalize hdv : bits .and .i64 du 15 = d at d0 d1
          obtain ⟨x0, x1⟩ := and_in dx 255 (by decide)
          generalize hxv : bits .and .i64 dx 255 = x at x0 x1
          obtain ⟨y0, y1⟩ := and_in dy 255 (by decide)
          generalize hyv : bits .and .i64 dy 255 = y at y0 y1
          refine sg hk (g_and hk ?_ hdv); clear hk a; intro a hk
          (repeat' (first | (show wpListIn _ _ _ _ _ (_ :: _) _ _; first | (refine wx1 ?_; clear hk a; intro a hk) | (refine wx2 ?_ ?_ <;> (intro hp; clear hk a; intro a hk)) | (refine wx3 ?_; clear hk hS a; intro w b hS a hk) | (refine wx4 ?_; clear hk hS a; intro w hS a hk) | (refine wx5 ?_; clear hk hS a; intro w v hS a hk) | fail) | refine wx0 ?_ | (refine s_end hk ?_; clear hk a; intro a hk) | fail))
          refine sg hk (g_and hk ?_ hxv); clear hk a; intro a hk
          (repeat' (first | (show wpListIn _ _ _ _ _ (_ :: _) _ _; first | (refine wx1 ?_; clear hk a; intro a hk) | (refine wx2 ?_ ?_ <;> (intro hp; clear hk a; intro a hk)) | (refine wx3 ?_; clear hk hS a; intro w b hS a hk) | (refine wx4 ?_; clear hk hS a; intro w hS a hk) | (refine wx5 ?_; clear hk hS a; intro w v hS a hk) | fail) | refine wx0 ?_ | (refine s_end hk ?_; clear hk a; intro a hk) | fail))
          refine sg hk (g_and hk ?_ hyv); clear hk a; intro a hk
          have hfold : ∀ (X : List HP) w', St W (pts bk [.int .i64 ks.s.k, .int .i64 ks.s.m, .int .i64 ks.s.x, .int .i64 ks.s.y, .int .i64 ks.s.d, .int .i64 ks.s.e, ptV bs, .bool ks.job.1, .int .i64 ks.job.2, .bool ks.mv.1, .int .i64 ks.mv.2, h5.v, .bool false] 37 :: OwT 3 ks.told h5.v :: schedH bs ks.now ks.wl ks.ql ks.w :: X) w' → St W (kidH bk bs ks :: X) w' := fun X w' h => kidH.of (h := h5) (by
            simp only [kidL, kidF, List.cons_append, List.nil_append]
            rw [hg]
            exact h)
          clear hback hout hdv hxv hyv
          have hM : Nums21 i (max H d) ks := hN.longer (by omega)
          have hH : 0 ≤ H := hN.2.1.1
          obtain ⟨-, -, n3, n4, n5, n6⟩ := hN
          (repeat' (first | (show wpListIn _ _ _ _ _ (_ :: _) _ _; first | (refine wx1 ?_; clear hk a; intro a hk) | (refine wx2 ?_ ?_ <;> (intro hp; clear hk a; intro a hk)) | (refine wx3 ?_; clear hk hS a; intro w b hS a hk) | (refine wx4 ?_; clear hk hS a; intro w hS a hk) | (refine wx5 ?_; clear hk hS a; intro w v hS a hk) | fail) | refine wx0 ?_ | (refine s_end hk ?_; clear hk a; intro a hk) | fail))
          · have hc20 : c = 20 := by assumption
            obtain ⟨f1, f2⟩ := hM.frame
            replace hS := hfold [pts b6 [.int .i64 c, .int .i64 d, .int .i64 x, .int .i64 y, .bool once] 43, pts b1 [.bool fresh, .slice aa acts.length ca] 24] _ (hS.sub (by (repeat (first | exact Sub.nil | exact Sub.refl | refine Sub.cons (by (repeat (first | exact At.here | apply At.there))) ?_))))
            focus (
              refine sg hk (g_callO hk (hf := by kernel_rfl) (hc := kframe_any (bk := bk) (bs := bs) (ks := ks) f1 (by omega) (by omega) (by omega) hS) (h := ?_)); clear hk hS a; intro _ w hS a hk
              (repeat' (first | (show wpListIn _ _ _ _ _ (_ :: _) _ _; first | (refine wx1 ?_; clear hk a; intro a hk) | (refine wx2 ?_ ?_ <;> (intro hp; clear hk a; intro a hk)) | (refine wx3 ?_; clear hk hS a; intro w b hS a hk) | (refine wx4 ?_; clear hk hS a; intro w hS a hk) | (refine wx5 ?_; clear hk hS a; intro w v hS a hk) | fail) | refine wx0 ?_ | (refine s_end hk ?_; clear hk a; intro a hk) | fail))
              refine sg hk (g_callO hk (hf := by kernel_rfl) (hc := right_any (bk := bk) (bs := bs) (ks := frameK ks) f2.1 (hS.sub (.cons (by (repeat (first | exact At.here | apply At.there))) .refl))) (h := ?_)); clear hk hS a; rintro _ w ⟨rfl, hS⟩ a hk
              (repeat' (first | (show wpListIn _ _ _ _ _ (_ :: _) _ _; first | (refine wx1 ?_; clear hk a; intro a hk) | (refine wx2 ?_ ?_ <;> (intro hp; clear hk a; intro a hk)) | (refine wx3 ?_; clear hk hS a; intro w b hS a hk) | (refine wx4 ?_; clear hk hS a; intro w hS a hk) | (refine wx5 ?_; clear hk hS a; intro w v hS a hk) | fail) | refine wx0 ?_ | (refine s_end hk ?_; clear hk a; intro a hk) | fail))
              exact ⟨h40, (frameK ks, max H d), hk.sd, hS.sub (by (repeat (first | exact Sub.nil | exact Sub.refl | refine Sub.cons (by (repeat (first | exact At.here | apply At.there))) ?_))), f2⟩
            )
          · obtain ⟨f1, f2⟩ := hM.tick (n := d) (by omega) (by omega)
            replace hS := hfold [pts b6 [.int .i64 c, .int .i64 d, .int .i64 x, .int .i64 y, .bool once] 43, pts b1 [.bool fresh, .slice aa acts.length ca] 24] _ (hS.sub (by (repeat (first | exact Sub.nil | exact Sub.refl | refine Sub.cons (by (repeat (first | exact At.here | apply At.there))) ?_))))
            focus (
              refine sg hk (g_callO hk (hf := by kernel_rfl) (hc := ktick_any (bk := bk) (bs := bs) (ks := ks) (n := d) f1 (by omega) (by omega) (by omega) (by omega) (by omega) (by omega) hS) (h := ?_)); clear hk hS a; intro _ w hS a hk
              (repeat' (first | (show wpListIn _ _ _ _ _ (_ :: _) _ _; first | (refine wx1 ?_; clear hk a; intro a hk) | (refine wx2 ?_ ?_ <;> (intro hp; clear hk a; intro a hk)) | (refine wx3 ?_; clear hk hS a; intro w b hS a hk) | (refine wx4 ?_; clear hk hS a; intro w hS a hk) | (refine wx5 ?_; clear hk hS a; intro w v hS a hk) | fail) | refine wx0 ?_ | (refine s_end hk ?_; clear hk a; intro a hk) | fail))
              refine sg hk (g_callO hk (hf := by kernel_rfl) (hc := right_any (bk := bk) (bs := bs) (ks := tickK ks d) f2.1 (hS.sub (.cons (by (repeat (first | exact At.here | apply At.there))) .refl))) (h := ?_)); clear hk hS a; rintro _ w ⟨rfl, hS⟩ a hk
              (repeat' (first | (show wpListIn _ _ _ _ _ (_ :: _) _ _; first | (refine wx1 ?_; clear hk a; intro a hk) | (refine wx2 ?_ ?_ <;> (intro hp; clear hk a; intro a hk)) | (refine wx3 ?_; clear hk hS a; intro w b hS a hk) | (refine wx4 ?_; clear hk hS a; intro w hS a hk) | (refine wx5 ?_; clear hk hS a; intro w v hS a hk) | fail) | refine wx0 ?_ | (refine s_end hk ?_; clear hk a; intro a hk) | fail))
              exact ⟨h40, (tickK ks d, max H d), hk.sd, hS.sub (by (repeat (first | exact Sub.nil | exact Sub.refl | refine Sub.cons (by (repeat (first | exact At.here | apply At.there))) ?_))), f2⟩
            )
          · have f2 := hM.next
            replace hS := hfold [pts b6 [.int .i64 c, .int .i64 d, .int .i64 x, .int .i64 y, .bool once] 43, pts b1 [.bool fresh, .slice aa acts.length ca] 24] _ (hS.sub (by (repeat (first | exact Sub.nil | exact Sub.refl | refine Sub.cons (by (repeat (first | exact At.here | apply At.there))) ?_))))
            focus (
              refine sg hk (g_callO hk (hf := by kernel_rfl) (hc := right_any (bk := bk) (bs := bs) (ks := ks) f2.1 (hS.sub (.cons (by (repeat (first | exact At.here | apply At.there))) .refl))) (h := ?_)); clear hk hS a; rintro _ w ⟨rfl, hS⟩ a hk
              (repeat' (first | (show wpListIn _ _ _ _ _ (_ :: _) _ _; first | (refine wx1 ?_; clear hk a; intro a hk) | (refine wx2 ?_ ?_ <;> (intro hp; clear hk a; intro a hk)) | (refine wx3 ?_; clear hk hS a; intro w b hS a hk) | (refine wx4 ?_; clear hk hS a; intro w hS a hk) | (refine wx5 ?_; clear hk hS a; intro w v hS a hk) | fail) | refine wx0 ?_ | (refine s_end hk ?_; clear hk a; intro a hk) | fail))
              exact ⟨h40, (ks, max H d), hk.sd, hS.sub (by (repeat (first | exact Sub.nil | exact Sub.refl | refine Sub.cons (by (repeat (first | exact At.here | apply At.there))) ?_))), f2⟩
            )
          · have f2 := hM.next
            replace hS := hfold [pts b6 [.int .i64 c, .int .i64 d, .int .i64 x, .int .i64 y, .bool once] 43, pts b1 [.bool fresh, .slice aa acts.length ca] 24] _ (hS.sub (by (repeat (first | exact Sub.nil | exact Sub.refl | refine Sub.cons (by (repeat (first | exact At.here | apply At.there))) ?_))))
            focus (
              refine sg hk (g_callO hk (hf := by kernel_rfl) (hc := right_any (bk := bk) (bs := bs) (ks := ks) f2.1 (hS.sub (.cons (by (repeat (first | exact At.here | apply At.there))) .refl))) (h := ?_)); clear hk hS a; rintro _ w ⟨rfl, hS⟩ a hk
              (repeat' (first | (show wpListIn _ _ _ _ _ (_ :: _) _ _; first | (refine wx1 ?_; clear hk a; intro a hk) | (refine wx2 ?_ ?_ <;> (intro hp; clear hk a; intro a hk)) | (refine wx3 ?_; clear hk hS a; intro w b hS a hk) | (refine wx4 ?_; clear hk hS a; intro w hS a hk) | (refine wx5 ?_; clear hk hS a; intro w v hS a hk) | fail) | refine wx0 ?_ | (refine s_end hk ?_; clear hk a; intro a hk) | fail))
              exact ⟨h40, (ks, max H d), hk.sd, hS.sub (by (repeat (first | exact Sub.nil | exact Sub.refl | refine Sub.cons (by (repeat (first | exact At.here | apply At.there))) ?_))), f2⟩
            )
          · have c4 : c ≠ 4 := by assumption
            have c9 : c ≠ 9 := by assumption
            obtain ⟨f1, f2⟩ := hM.call (c := c) (dur := d) (dx := x) (dy := y) (once := once) hg (by omega) (by omega) (by omega) c4 c9
            have hl3 := call_hk ks.s c d x y once
            generalize ho : callP ks.s c d x y once = o at f1 f2 hl3
            refine wp_drawn 7 mixed (by kernel_rfl) hk hS ?_; clear hk hS a
            (repeat' (first | (show ObxE _ _ _ _ _ _ _ _ _ (_ :: _) _ _ _; first | refine ox1 ?_ | (refine ox2 ?_ ?_ <;> intro hp) | fail) | fail))
            refine' obe_res (fun us a w hk hd hS => ?_) ?_; rotate_left; focus (have hk := Kn.vw hk (by repeat (first | exact VW.nil | apply VW.val rfl | apply VW.base rfl rfl | apply VW.res rfl | apply VW.upd rfl | apply VW.cpy rfl | apply VW.dep rfl | apply VW.fn rfl | apply VW.lnd rfl | apply VW.tak rfl)); exact g_callO (R := fun v w' => St w [poH o v] w') hk (hf := by kernel_rfl) (hc := do21_any ks.s c d x y once w [] w (St.refl w)) (h := fun v w' hh => by rw [ho] at hh; obtain ⟨h, e, hh⟩ := hh; exact bagH.of (A := fun h : Hd => [OwT 3 o.hk h.v]) (p := fun h => v = ouV o h) (x := h) hh e))
            refine obe_nil ⟨rfl, ?_⟩; intro us a w hk hS
            simp only [resE, List.cons_append, List.nil_append] at hS
            replace hk := Kn.kp [1, 2, 3, 4, 5, 73, 79] hk
            simp only [HV.of, Nat.zero_add, Nat.reduceAdd] at hk hS
            obtain ⟨h6, e6, hS1⟩ := St.bag hS .here
            clear hS
            have hS := hS1
            clear hS1
            rw [e6] at hk
            clear e6
            simp only [List.cons_append, List.nil_append] at hS
            replace hS := hfold [OwT 3 o.hk h6.v, pts b6 [.int .i64 c, .int .i64 d, .int .i64 x, .int .i64 y, .bool once] 43, pts b1 [.bool fresh, .slice aa acts.length ca] 24] _ (hS.sub (by (repeat (first | exact Sub.nil | exact Sub.refl | refine Sub.cons (by (repeat (first | exact At.here | apply At.there))) ?_))))
            refine sg hk (g_callO hk (hf := by kernel_rfl) (hc := done_any (bk := bk) (bs := bs) (ks := ks) (o := o) (ho := h6) (L := [pts b6 [.int .i64 c, .int .i64 d, .int .i64 x, .int .i64 y, .bool once] 43, pts b1 [.bool fresh, .slice aa acts.length ca] 24]) f1 (by omega) (by omega) (by omega) (by omega) (hS.sub (by (repeat (first | exact Sub.nil | exact Sub.refl | refine Sub.cons (by (repeat (first | exact At.here | apply At.there))) ?_))))) (h := ?_)); clear hk hS a; intro _ w hS a hk
            (repeat' (first | (show wpListIn _ _ _ _ _ (_ :: _) _ _; first | (refine wx1 ?_; clear hk a; intro a hk) | (refine wx2 ?_ ?_ <;> (intro hp; clear hk a; intro a hk)) | (refine wx3 ?_; clear hk hS a; intro w b hS a hk) | (refine wx4 ?_; clear hk hS a; intro w hS a hk) | (refine wx5 ?_; clear hk hS a; intro w v hS a hk) | fail) | refine wx0 ?_ | (refine s_end hk ?_; clear hk a; intro a hk) | fail))
            focus (
              refine sg hk (g_callO hk (hf := by kernel_rfl) (hc := right_any (bk := bk) (bs := bs) (ks := doneK ks o) f2.1 (hS.sub (.cons (by (repeat (first | exact At.here | apply At.there))) .refl))) (h := ?_)); clear hk hS a; rintro _ w ⟨rfl, hS⟩ a hk
              (repeat' (first | (show wpListIn _ _ _ _ _ (_ :: _) _ _; first | (refine wx1 ?_; clear hk a; intro a hk) | (refine wx2 ?_ ?_ <;> (intro hp; clear hk a; intro a hk)) | (refine wx3 ?_; clear hk hS a; intro w b hS a hk) | (refine wx4 ?_; clear hk hS a; intro w hS a hk) | (refine wx5 ?_; clear hk hS a; intro w v hS a hk) | fail) | refine wx0 ?_ | (refine s_end hk ?_; clear hk a; intro a hk) | fail))
              exact ⟨h40, (doneK ks o, max H d), hk.sd, hS.sub (by (repeat (first | exact Sub.nil | exact Sub.refl | refine Sub.cons (by (repeat (first | exact At.here | apply At.there))) ?_))), f2⟩
            )
      · (repeat' (first | (show wpListIn _ _ _ _ _ (_ :: _) _ _; first | (refine wx1 ?_; clear hk a; intro a hk) | (refine wx2 ?_ ?_ <;> (intro hp; clear hk a; intro a hk)) | (refine wx3 ?_; clear hk hS a; intro w b hS a hk) | (refine wx4 ?_; clear hk hS a; intro w hS a hk) | (refine wx5 ?_; clear hk hS a; intro w v hS a hk) | fail) | refine wx0 ?_ | (refine s_end hk ?_; clear hk a; intro a hk) | fail))
        exact ⟨ks, H, hk.sub (by repeat (first | exact trivial | refine ⟨rfl, ?_⟩)), hback _ hS, hout⟩
    · (repeat' (first | (show wpListIn _ _ _ _ _ (_ :: _) _ _; first | (refine wx1 ?_; clear hk a; intro a hk) | (refine wx2 ?_ ?_ <;> (intro hp; clear hk a; intro a hk)) | (refine wx3 ?_; clear hk hS a; intro w b hS a hk) | (refine wx4 ?_; clear hk hS a; intro w hS a hk) | (refine wx5 ?_; clear hk hS a; intro w v hS a hk) | fail) | refine wx0 ?_ | (refine s_end hk ?_; clear hk a; intro a hk) | fail))
      exact ⟨ks, H, hk.sub (by repeat (first | exact trivial | refine ⟨rfl, ?_⟩)), hback _ hS, hout⟩
  · clear hk hS a h0 hf0 hf1
    rintro a w ⟨ks, H, hk, hS, hN⟩
    have hR : Rst (tickK (frameK (frameK ks)) H) := rest_end hN.2.1.1 hN.2.2.1.1 hN.1
    obtain ⟨f1, g1⟩ := hN.frame
    obtain ⟨f2, g2⟩ := g1.frame
    obtain ⟨f3, g3⟩ := g2.tick (n := H) hN.2.1.1 hN.2.1.2
    obtain ⟨-, ⟨m0, m1⟩, m2, m3, m4, m5⟩ := hN
    (repeat' (first | (show wpListIn _ _ _ _ _ (_ :: _) _ _; first | (refine wx1 ?_; clear hk a; intro a hk) | (refine wx2 ?_ ?_ <;> (intro hp; clear hk a; intro a hk)) | (refine wx3 ?_; clear hk hS a; intro w b hS a hk) | (refine wx4 ?_; clear hk hS a; intro w hS a hk) | (refine wx5 ?_; clear hk hS a; intro w v hS a hk) | fail) | refine wx0 ?_ | (refine s_end hk ?_; clear hk a; intro a hk) | fail))
    refine sg hk (g_callO hk (hf := by kernel_rfl) (hc := kframe_any (bk := bk) (bs := bs) (ks := ks) f1 (by omega) (by omega) (by omega) hS) (h := ?_)); clear hk hS a; intro _ w hS a hk
    clear m2 m3 m4 m5
    obtain ⟨-, -, m2, m3, m4, m5⟩ := g1
    (repeat' (first | (show wpListIn _ _ _ _ _ (_ :: _) _ _; first | (refine wx1 ?_; clear hk a; intro a hk) | (refine wx2 ?_ ?_ <;> (intro hp; clear hk a; intro a hk)) | (refine wx3 ?_; clear hk hS a; intro w b hS a hk) | (refine wx4 ?_; clear hk hS a; intro w hS a hk) | (refine wx5 ?_; clear hk hS a; intro w v hS a hk) | fail) | refine wx0 ?_ | (refine s_end hk ?_; clear hk a; intro a hk) | fail))
    refine sg hk (g_callO hk (hf := by kernel_rfl) (hc := kframe_any (bk := bk) (bs := bs) (ks := frameK ks) f2 (by omega) (by omega) (by omega) hS) (h := ?_)); clear hk hS a; intro _ w hS a hk
    clear m2 m3 m4 m5
    obtain ⟨-, -, m2, m3, m4, m5⟩ := g2
    (repeat' (first | (show wpListIn _ _ _ _ _ (_ :: _) _ _; first | (refine wx1 ?_; clear hk a; intro a hk) | (refine wx2 ?_ ?_ <;> (intro hp; clear hk a; intro a hk)) | (refine wx3 ?_; clear hk hS a; intro w b hS a hk) | (refine wx4 ?_; clear hk hS a; intro w hS a hk) | (refine wx5 ?_; clear hk hS a; intro w v hS a hk) | fail) | refine wx0 ?_ | (refine s_end hk ?_; clear hk a; intro a hk) | fail))
    refine sg hk (g_callO hk (hf := by kernel_rfl) (hc := ktick_any (bk := bk) (bs := bs) (ks := frameK (frameK ks)) (n := H) f3 (by omega) (by omega) (by omega) (by omega) (by omega) (by omega) hS) (h := ?_)); clear hk hS a; intro _ w hS a hk
    clear m2 m3 m4 m5 f1 f2 f3
    generalize tickK (frameK (frameK ks)) H = k3 at hS hR g3
    obtain ⟨hK, -, -, -, -, hto⟩ := g3
    have hrun := hK.run
    obtain ⟨h5, hS1⟩ := hS.kid (bk := bk) (bs := bs) (ks := k3) (by (repeat (first | exact At.here | apply At.there)))
    clear hS
    have hS := hS1
    clear hS1
    simp only [kidL, kidF, List.cons_append, List.nil_append] at hS
    rw [hR.1] at hS
    have hq := hR.2
    clear hK hR
    cases hg : k3.gone with
    | true =>
      rw [hg] at hS
      (repeat' (first | (show wpListIn _ _ _ _ _ (_ :: _) _ _; first | (refine wx1 ?_; clear hk a; intro a hk) | (refine wx2 ?_ ?_ <;> (intro hp; clear hk a; intro a hk)) | (refine wx3 ?_; clear hk hS a; intro w b hS a hk) | (refine wx4 ?_; clear hk hS a; intro w hS a hk) | (refine wx5 ?_; clear hk hS a; intro w v hS a hk) | fail) | refine wx0 ?_ | (refine s_end hk ?_; clear hk a; intro a hk) | fail))
      refine sg hk (g_callO hk (hf := by kernel_rfl) (hc := slen_any (bs := bs) (now := k3.now) (wl := k3.wl) (ql := k3.ql) (x := .no) _ (hS.rd (by (repeat (first | exact At.here | apply At.there))))) (h := ?_)); clear hk a; rintro _ w ⟨rfl, hS1⟩ a hk; replace hS := hS.call0 hS1; clear hS1
      simp only [cntW] at hk
      (repeat' (first | (show wpListIn _ _ _ _ _ (_ :: _) _ _; first | (refine wx1 ?_; clear hk a; intro a hk) | (refine wx2 ?_ ?_ <;> (intro hp; clear hk a; intro a hk)) | (refine wx3 ?_; clear hk hS a; intro w b hS a hk) | (refine wx4 ?_; clear hk hS a; intro w hS a hk) | (refine wx5 ?_; clear hk hS a; intro w v hS a hk) | fail) | refine wx0 ?_ | (refine s_end hk ?_; clear hk a; intro a hk) | fail))
      refine sg hk (g_callO hk (hf := by kernel_rfl) (hc := run_any k3.told h5.v _ (OwT.rd (hS.rd (A := OwT 3 k3.told h5.v) (by (repeat (first | exact At.here | apply At.there))))) (by omega)) (h := ?_)); clear hk a; rintro _ w ⟨rfl, hS1⟩ a hk; replace hS := hS.call0 hS1; clear hS1
      (repeat' (first | (show wpListIn _ _ _ _ _ (_ :: _) _ _; first | (refine wx1 ?_; clear hk a; intro a hk) | (refine wx2 ?_ ?_ <;> (intro hp; clear hk a; intro a hk)) | (refine wx3 ?_; clear hk hS a; intro w b hS a hk) | (refine wx4 ?_; clear hk hS a; intro w hS a hk) | (refine wx5 ?_; clear hk hS a; intro w v hS a hk) | fail) | refine wx0 ?_ | (refine s_end hk ?_; clear hk a; intro a hk) | fail))
      exact done1 hk (h := ⟨rfl, hS.sub .nil⟩)
    | false =>
      rw [hg] at hS
      obtain ⟨q1, q2⟩ := hq hg
      clear hq hg
      generalize k3.s = s at hS q1 q2
      obtain ⟨k, m, x, y, d, e⟩ := s
      simp only at hS q1 q2
      subst q2
      rcases q1 with rfl | rfl | rfl
      all_goals (
        (repeat' (first | (show wpListIn _ _ _ _ _ (_ :: _) _ _; first | (refine wx1 ?_; clear hk a; intro a hk) | (refine wx2 ?_ ?_ <;> (intro hp; clear hk a; intro a hk)) | (refine wx3 ?_; clear hk hS a; intro w b hS a hk) | (refine wx4 ?_; clear hk hS a; intro w hS a hk) | (refine wx5 ?_; clear hk hS a; intro w v hS a hk) | fail) | refine wx0 ?_ | (refine s_end hk ?_; clear hk a; intro a hk) | fail))
        refine sg hk (g_callO hk (hf := by kernel_rfl) (hc := slen_any (bs := bs) (now := k3.now) (wl := k3.wl) (ql := k3.ql) (x := .no) _ (hS.rd (by (repeat (first | exact At.here | apply At.there))))) (h := ?_)); clear hk a; rintro _ w ⟨rfl, hS1⟩ a hk; replace hS := hS.call0 hS1; clear hS1
        simp only [cntW] at hk
        (repeat' (first | (show wpListIn _ _ _ _ _ (_ :: _) _ _; first | (refine wx1 ?_; clear hk a; intro a hk) | (refine wx2 ?_ ?_ <;> (intro hp; clear hk a; intro a hk)) | (refine wx3 ?_; clear hk hS a; intro w b hS a hk) | (refine wx4 ?_; clear hk hS a; intro w hS a hk) | (refine wx5 ?_; clear hk hS a; intro w v hS a hk) | fail) | refine wx0 ?_ | (refine s_end hk ?_; clear hk a; intro a hk) | fail))
        refine sg hk (g_callO hk (hf := by kernel_rfl) (hc := run_any k3.told h5.v _ (OwT.rd (hS.rd (A := OwT 3 k3.told h5.v) (by (repeat (first | exact At.here | apply At.there))))) (by omega)) (h := ?_)); clear hk a; rintro _ w ⟨rfl, hS1⟩ a hk; replace hS := hS.call0 hS1; clear hS1
        (repeat' (first | (show wpListIn _ _ _ _ _ (_ :: _) _ _; first | (refine wx1 ?_; clear hk a; intro a hk) | (refine wx2 ?_ ?_ <;> (intro hp; clear hk a; intro a hk)) | (refine wx3 ?_; clear hk hS a; intro w b hS a hk) | (refine wx4 ?_; clear hk hS a; intro w hS a hk) | (refine wx5 ?_; clear hk hS a; intro w v hS a hk) | fail) | refine wx0 ?_ | (refine s_end hk ?_; clear hk a; intro a hk) | fail))
        refine sg hk (g_callO hk (hf := by kernel_rfl) (hc := put3 _ _ x y (cl := []) (sl := []) (il := []) (vc := .slice none 0 0) (vs := .slice none 0 0) (vi := .slice none 0 0) (SlT.nil _) (SlT.nil _) (SlT.nil _) (by simp) (by simp) (by simp)) (h := ?_)); clear hk a; intro vp w hS1 a hk; replace hS := hS.call hS1; clear hS1
        rw [List.cons_append, List.nil_append] at hS
        obtain ⟨⟨va, vb, vc⟩, rfl, hS1⟩ := St.bag hS .here
        clear hS
        have hS := hS1
        clear hS1
        simp only [List.cons_append, List.nil_append] at hS
        rw [show snapF nmI (movP 0 x y) = [] from rfl] at hS
        (repeat' (first | (show wpListIn _ _ _ _ _ (_ :: _) _ _; first | (refine wx1 ?_; clear hk a; intro a hk) | (refine wx2 ?_ ?_ <;> (intro hp; clear hk a; intro a hk)) | (refine wx3 ?_; clear hk hS a; intro w b hS a hk) | (refine wx4 ?_; clear hk hS a; intro w hS a hk) | (refine wx5 ?_; clear hk hS a; intro w v hS a hk) | fail) | refine wx0 ?_ | (refine s_end hk ?_; clear hk a; intro a hk) | fail))
        exact done1 hk (h := ⟨rfl, hS.sub .nil⟩))
end Go.Proofs.YthodcfdgahfniaaGreat
namespace Go.Proofs.YthodcfdgahfniaaGreat
open Go.RowKit
set_option maxRecDepth 100000
attribute [local irreducible] Go.Code.wpIn Go.wpListIn Go.Calls Gives Go.Exit.then Go.Exit.inBlock Done ObxE

theorem walk_ScrimLives (W : World) (vs : List Value) (h : Args Tryz.prog W [24] vs) : Calls Tryz.prog 3 vs.toArray W (Ret fun v w => v = .bool true ∧ St W [] w) := by
  obtain ⟨_, rfl, ha⟩ := args1 h
  obtain ⟨cs, rfl⟩ := ha.2.1 (aT rfl)
  have hr : Rdg Tryz.prog W 8 24 cs := by simpa [Value.cells] using ha.1
  have hl := rdg_len Tryz.underlying24 hr (zT rfl)
  obtain ⟨f, h0⟩ := rdg_bool Tryz.underlying4 (rdg_fld Tryz.underlying24 hr (i := 0) rfl (zT rfl))
  obtain ⟨v1, l1, h1, g1⟩ := SlT.of_rdgF (α := ActT) (D := 6) (rdg_fld Tryz.underlying24 hr (i := 1) rfl (zT rfl)) (eT rfl) (zT rfl) (kT rfl) (by decide)
  match cs, hl with
  | [u0, u1], _ =>
    simp at h0 h1
    subst h0 h1
    exact lives_any f l1 _ W g1
end Go.Proofs.YthodcfdgahfniaaGreat
