/- Layer 20: what is put, and what is one's own. The top, a kid's life: all is as it should be. The top, a kid's life: all is as it should be, of any kid. -/
import Derived.Test.YthodcfdgahfniaaGreatV17
import Derived.Test.YthodcfdgahfniaaGreatV11
import Derived.Test.YthodcfdgahfniaaGreatV16
import Derived.Test.YthodcfdgahfniaaGreatV14
set_option linter.all false
namespace Go.Proofs.YthodcfdgahfniaaGreat
open Go.RowKit
set_option maxRecDepth 100000
attribute [local irreducible] Go.Code.wpIn Go.wpListIn Go.Calls Gives Go.Exit.then Go.Exit.inBlock Done ObxE

abbrev own3 (E1 E2 E3 : TypeId) (cl : List ByteArray) (sl : List PrS) (il : List PrI) (v : Value) : HP :=
  bagH (fun (u : Value × Value × Value) => [OwT E1 cl u.1, OwT E2 sl u.2.1, OwT E3 il u.2.2]) (fun u => v = .agg #[u.1, u.2.1, u.2.2])
theorem put3 {cl : List ByteArray} {sl : List PrS} {il : List PrI} (k m x y : Int) {vc vs vi : Value} {w0 : World} (hc : SlT cl vc w0) (hs : SlT sl vs w0) (hi : SlT il vi w0)
    (hcl : cl.length ≤ 800) (hsl : sl.length ≤ 800) (hil : il.length ≤ 800) :
    Calls Tryz.prog 15 #[.agg #[.int .i64 k, .int .i64 m, .int .i64 x, .int .i64 y], .agg #[vc, vs, vi]] w0
      (Ret fun v w => St w0 [own3 9 119 122 (clnC (cl ++ clsL k m)) (snapF nmS (sl ++ ghoP k)) (snapF nmI (il ++ movP m x y)) v] w) :=
  Calls.mono (put_any cl sl il k m x y _ _ _ w0 hc hs hi hcl hsl hil) (fun _ _ h => h.mono (fun v w ⟨a, b, c, e, h⟩ => bagH.of (x := (a, b, c)) h e))
set_option maxHeartbeats 1000000 in
theorem idxC_any (p : ByteArray → Bool) (s : List ByteArray) (f : FuncId) (cap : List Value) (v : Value) {B : Bs} {L : List HP} (w : World) (hS : St B L w) (hv : SlT s v w) (hl : s.length ≤ 1000) (hf : callable Tryz.prog f = true)
    (hc : ∀ (x : ByteArray) (w' : World), x ∈ s → St B L w' → Calls Tryz.prog f (.string x :: cap).toArray w' (Ret fun v w'' => v = .bool (p x) ∧ St w' [] w'')) :
    Calls Tryz.prog 113 #[v, .func (.func f) #[] cap.toArray] w (Ret fun v w' => ∃ r : Int, v = .int .i64 r ∧ (r = -1 ∧ (∀ i (h : i < s.length), p s[i] = false) ∨ ∃ (k : Nat) (h : k < s.length), r = k ∧ (∀ i (h : i < s.length), i < k → p s[i] = false) ∧ p s[k] = true) ∧ St w [] w') := by
  have hS0 := hS
  clear hS
  refine enter Tryz.func113 rfl Tryz.ntmps113 rfl (fun a hk => ?_)
  have hS := St.refl w
  have hw0 : w = w := rfl
  (repeat' (first | (show wpListIn _ _ _ _ _ (_ :: _) _ _; first | (refine wx1 ?_; clear hk a; intro a hk) | (refine wx2 ?_ ?_ <;> (intro hp; clear hk a; intro a hk)) | (refine wx3 ?_; clear hk hS a; intro w b hS a hk) | (refine wx4 ?_; clear hk hS a; intro w hS a hk) | (refine wx5 ?_; clear hk hS a; intro w v hS a hk) | fail) | refine wx0 ?_ | (refine s_end hk ?_; clear hk a; intro a hk) | fail))
  replace hk := Kn.kp [0, 1, 7, 8] hk
  refine wp_for s.length (fun i _ => [(8, .int .i64 (i : Int))]) (fun _ _ => []) (fun i _ => ∀ j (h : j < s.length), j < i → p s[j] = false) () hk (by repeat (first | exact trivial | refine ⟨rfl, ?_⟩)) hS (fun j h hj => by omega) ?_
  clear hk hS a
  rintro i - a w1 hi hk hS hF
  by_cases hil : i < s.length
  · (repeat' (first | (show wpListIn _ _ _ _ _ (_ :: _) _ _; first | (refine wx1 ?_; clear hk a; intro a hk) | (refine wx2 ?_ ?_ <;> (intro hp; clear hk a; intro a hk)) | (refine wx3 ?_; clear hk hS a; intro w b hS a hk) | (refine wx4 ?_; clear hk hS a; intro w hS a hk) | (refine wx5 ?_; clear hk hS a; intro w v hS a hk) | fail) | refine wx0 ?_ | (refine s_end hk ?_; clear hk a; intro a hk) | fail))
    refine sg hk (g_callvO (first := []) (cap := cap) hk (hf := hf) (hc := hc _ _ (List.getElem_mem _) (hS0.call hS)) (h := ?_)); clear hk a; rintro _ w2 ⟨rfl, hS1⟩ a hk; replace hS := hS.call0 hS1; clear hS1
    cases hp : p s[i] with
    | true =>
      rw [hp] at hk
      (repeat' (first | (show wpListIn _ _ _ _ _ (_ :: _) _ _; first | (refine wx1 ?_; clear hk a; intro a hk) | (refine wx2 ?_ ?_ <;> (intro hp; clear hk a; intro a hk)) | (refine wx3 ?_; clear hk hS a; intro w b hS a hk) | (refine wx4 ?_; clear hk hS a; intro w hS a hk) | (refine wx5 ?_; clear hk hS a; intro w v hS a hk) | fail) | refine wx0 ?_ | (refine s_end hk ?_; clear hk a; intro a hk) | fail))
      exact done1 hk (h := ⟨i, rfl, .inr ⟨i, hil, rfl, hF, hp⟩, hS.nil⟩)
    | false =>
      rw [hp] at hk
      (repeat' (first | (show wpListIn _ _ _ _ _ (_ :: _) _ _; first | (refine wx1 ?_; clear hk a; intro a hk) | (refine wx2 ?_ ?_ <;> (intro hp; clear hk a; intro a hk)) | (refine wx3 ?_; clear hk hS a; intro w b hS a hk) | (refine wx4 ?_; clear hk hS a; intro w hS a hk) | (refine wx5 ?_; clear hk hS a; intro w v hS a hk) | fail) | refine wx0 ?_ | (refine s_end hk ?_; clear hk a; intro a hk) | fail))
      refine ⟨hil, (), hk.sd, hS, fun j h hj => ?_⟩
      by_cases e : j = i
      · subst e; exact hp
      · exact hF j h (by omega)
  · (repeat' (first | (show wpListIn _ _ _ _ _ (_ :: _) _ _; first | (refine wx1 ?_; clear hk a; intro a hk) | (refine wx2 ?_ ?_ <;> (intro hp; clear hk a; intro a hk)) | (refine wx3 ?_; clear hk hS a; intro w b hS a hk) | (refine wx4 ?_; clear hk hS a; intro w hS a hk) | (refine wx5 ?_; clear hk hS a; intro w v hS a hk) | fail) | refine wx0 ?_ | (refine s_end hk ?_; clear hk a; intro a hk) | fail))
    exact done1 hk (h := ⟨-1, rfl, .inl ⟨rfl, fun i h => hF i h (by omega)⟩, hS.nil⟩)

set_option maxHeartbeats 2000000 in
theorem delC_any (p : ByteArray → Bool) {s : List ByteArray} (f : FuncId) (cap : List Value) {v : Value} {B : Bs} {L : List HP} {w : World} (hS : St B (OwT 9 s v :: L) w) (hl : s.length ≤ 1000) (hf : callable Tryz.prog f = true)
    (hc : ∀ (x : ByteArray) (w' : World), x ∈ s → St B L w' → Calls Tryz.prog f (.string x :: cap).toArray w' (Ret fun v w'' => v = .bool (p x) ∧ St w' [] w'')) :
    Calls Tryz.prog 99 #[v, .func (.func f) #[] cap.toArray] w (Ret fun v' w' => St B (OwT 9 (s.filter (fun x => !p x)) v' :: L) w') := by
  refine enter Tryz.func99 rfl Tryz.ntmps99 rfl (fun a hk => ?_)
  (repeat' (first | (show wpListIn _ _ _ _ _ (_ :: _) _ _; first | (refine wx1 ?_; clear hk a; intro a hk) | (refine wx2 ?_ ?_ <;> (intro hp; clear hk a; intro a hk)) | (refine wx3 ?_; clear hk hS a; intro w b hS a hk) | (refine wx4 ?_; clear hk hS a; intro w hS a hk) | (refine wx5 ?_; clear hk hS a; intro w v hS a hk) | fail) | refine wx0 ?_ | (refine s_end hk ?_; clear hk a; intro a hk) | fail))
  refine sg hk (g_callO hk (hf := by kernel_rfl) (hc := idxC_any p s f cap v _ (hS.sub Sub.cons_drop) (by first | exact St.rdT hS (by assumption) | exact OwT.rd (hS.rd (A := OwT _ _ _) (by (repeat (first | exact At.here | apply At.there)))) | assumption) hl hf hc) (h := ?_)); clear hk a; rintro vr w ⟨r, rfl, hr, hS1⟩ a hk; replace hS := hS.call hS1; clear hS1
  rcases hr with ⟨rfl, hn⟩ | ⟨k, hk0, rfl, hn, hp⟩
  · (repeat' (first | (show wpListIn _ _ _ _ _ (_ :: _) _ _; first | (refine wx1 ?_; clear hk a; intro a hk) | (refine wx2 ?_ ?_ <;> (intro hp; clear hk a; intro a hk)) | (refine wx3 ?_; clear hk hS a; intro w b hS a hk) | (refine wx4 ?_; clear hk hS a; intro w hS a hk) | (refine wx5 ?_; clear hk hS a; intro w v hS a hk) | fail) | refine wx0 ?_ | (refine s_end hk ?_; clear hk a; intro a hk) | fail))
    rw [filter_none p hn]
    exact done1 hk (h := hS)
  · (repeat' (first | (show wpListIn _ _ _ _ _ (_ :: _) _ _; first | (refine wx1 ?_; clear hk a; intro a hk) | (refine wx2 ?_ ?_ <;> (intro hp; clear hk a; intro a hk)) | (refine wx3 ?_; clear hk hS a; intro w b hS a hk) | (refine wx4 ?_; clear hk hS a; intro w hS a hk) | (refine wx5 ?_; clear hk hS a; intro w v hS a hk) | fail) | refine wx0 ?_ | (refine s_end hk ?_; clear hk a; intro a hk) | fail))
    replace hk := Kn.kp [0, 1, 5, 6] hk
    refine wp_while (fun x : Nat × Nat × List ByteArray => [(5, .int .i64 (x.1 : Int)), (6, .int .i64 (x.2.1 : Int))]) (fun x => OwT 9 x.2.2 v :: L) (fun x => Sieve p s x.2.2 x.1 x.2.1 ∧ x.2.1 ≤ s.length) (fun x => s.length - x.2.1) (k, k + 1, s) hk (by repeat (first | exact trivial | refine ⟨rfl, ?_⟩)) hS ⟨Sieve.start p hk0 hn hp, hk0⟩ ?_
    clear hk hS a hn hp
    rintro ⟨i, j, ys⟩ a w hk hS ⟨hF, hj⟩
    simp only at hk hS hF hj
    have hyl := hF.len
    have hij := hF.le
    by_cases hjl : j < s.length
    · have hget := hF.get p hjl
      (repeat' (first | (show wpListIn _ _ _ _ _ (_ :: _) _ _; first | (refine wx1 ?_; clear hk a; intro a hk) | (refine wx2 ?_ ?_ <;> (intro hp; clear hk a; intro a hk)) | (refine wx3 ?_; clear hk hS a; intro w b hS a hk) | (refine wx4 ?_; clear hk hS a; intro w hS a hk) | (refine wx5 ?_; clear hk hS a; intro w v hS a hk) | fail) | refine wx0 ?_ | (refine s_end hk ?_; clear hk a; intro a hk) | fail))
      refine sg hk (g_callvO (first := []) (cap := cap) hk (hf := hf) (hc := hc s[j] _ (List.getElem_mem _) (hS.sub Sub.cons_drop)) (h := ?_)); clear hk a; rintro _ w2 ⟨rfl, hS1⟩ a hk; replace hS := hS.call0 hS1; clear hS1
      cases hp : p s[j] with
      | true =>
        rw [hp] at hk
        (repeat' (first | (show wpListIn _ _ _ _ _ (_ :: _) _ _; first | (refine wx1 ?_; clear hk a; intro a hk) | (refine wx2 ?_ ?_ <;> (intro hp; clear hk a; intro a hk)) | (refine wx3 ?_; clear hk hS a; intro w b hS a hk) | (refine wx4 ?_; clear hk hS a; intro w hS a hk) | (refine wx5 ?_; clear hk hS a; intro w v hS a hk) | fail) | refine wx0 ?_ | (refine s_end hk ?_; clear hk a; intro a hk) | fail))
        exact ⟨(i, j + 1, ys), by simp only; omega, hk.subD (by (repeat (first | exact trivial | refine ⟨rfl, ?_⟩ | refine ⟨trivial, ?_⟩)); fail_if_success focus skip), hS.sb, hF.drop_ p hjl hp, hjl⟩
      | false =>
        rw [hp] at hk
        (repeat' (first | (show wpListIn _ _ _ _ _ (_ :: _) _ _; first | (refine wx1 ?_; clear hk a; intro a hk) | (refine wx2 ?_ ?_ <;> (intro hp; clear hk a; intro a hk)) | (refine wx3 ?_; clear hk hS a; intro w b hS a hk) | (refine wx4 ?_; clear hk hS a; intro w hS a hk) | (refine wx5 ?_; clear hk hS a; intro w v hS a hk) | fail) | refine wx0 ?_ | (refine s_end hk ?_; clear hk a; intro a hk) | fail))
        exact ⟨(i + 1, j + 1, ys.set i s[j]), by simp only; omega, hk.subD (by (repeat (first | exact trivial | refine ⟨rfl, ?_⟩ | refine ⟨trivial, ?_⟩)); fail_if_success focus skip), hS.sb, hF.keep p hjl hp, hjl⟩
    · have hje : j = s.length := by omega
      subst hje
      have hhd := hF.head
      rw [List.take_length] at hhd
      (repeat' (first | (show wpListIn _ _ _ _ _ (_ :: _) _ _; first | (refine wx1 ?_; clear hk a; intro a hk) | (refine wx2 ?_ ?_ <;> (intro hp; clear hk a; intro a hk)) | (refine wx3 ?_; clear hk hS a; intro w b hS a hk) | (refine wx4 ?_; clear hk hS a; intro w hS a hk) | (refine wx5 ?_; clear hk hS a; intro w v hS a hk) | fail) | refine wx0 ?_ | (refine s_end hk ?_; clear hk a; intro a hk) | fail))
      obtain ⟨b, off, c, rfl, _, _⟩ := hS.ownCells (E := 9) (xs := ys) At.here (by intro h; subst h; simp at hyl; omega)
      obtain ⟨vs, hS1, hvl, hnc, hcm, hcl, hvs⟩ := hS.ownPts At.here
      replace hS := hS1
      clear hS1
      have e1 : ys.length * (Enc.k ByteArray + 1) = i * (Enc.k ByteArray + 1) + (ys.length - i) * (Enc.k ByteArray + 1) := by rw [← Nat.add_mul]; congr 1; omega
      have e2 : ys.length * (Enc.k ByteArray + 1) ≤ c * (Enc.k ByteArray + 1) := Nat.mul_le_mul_right _ hnc
      refine sg hk (g_slFc i (k := Enc.k ByteArray) hk ?_ (ht := eT rfl) (hE := zT rfl) (hp := rfl) (him := by omega) (hc := by omega)); clear hk a; intro a hk
      refine su hk (g_clear (k := Enc.k ByteArray) hk hS ?_ (ht := eT rfl) (hz := oT rfl) (hzs := rfl) (hz1 := by decide) (hfit := by omega))
      clear hk hS a
      intro w zs hzl hS a hk
      (repeat' (first | (show wpListIn _ _ _ _ _ (_ :: _) _ _; first | (refine wx1 ?_; clear hk a; intro a hk) | (refine wx2 ?_ ?_ <;> (intro hp; clear hk a; intro a hk)) | (refine wx3 ?_; clear hk hS a; intro w b hS a hk) | (refine wx4 ?_; clear hk hS a; intro w hS a hk) | (refine wx5 ?_; clear hk hS a; intro w v hS a hk) | fail) | refine wx0 ?_ | (refine s_end hk ?_; clear hk a; intro a hk) | fail))
      refine sg hk (g_slTc i (k := Enc.k ByteArray) hk ?_ (ht := eT rfl) (hE := zT rfl) (hp := rfl) (hj := by omega)); clear hk a; intro a hk
      (repeat' (first | (show wpListIn _ _ _ _ _ (_ :: _) _ _; first | (refine wx1 ?_; clear hk a; intro a hk) | (refine wx2 ?_ ?_ <;> (intro hp; clear hk a; intro a hk)) | (refine wx3 ?_; clear hk hS a; intro w b hS a hk) | (refine wx4 ?_; clear hk hS a; intro w hS a hk) | (refine wx5 ?_; clear hk hS a; intro w v hS a hk) | fail) | refine wx0 ?_ | (refine s_end hk ?_; clear hk a; intro a hk) | fail))
      have hF2 := hS.toTake (ys := ys) At.here (by omega) hnc hcm hvl hzl hvs
      rw [hhd] at hF2
      exact done1 hk (h := hF2)

def mineC (l : List ByteArray) : List ByteArray := l.filter (fun x => !rsvS x)
theorem minec1_any (x : ByteArray) (w0 : World) : Calls Tryz.prog 83 #[.string x] w0 (Ret fun v w => v = .bool (rsvS x) ∧ St w0 [] w) := by
  refine enter Tryz.func83 rfl Tryz.ntmps83 rfl (fun a hk => ?_); have hS := St.refl w0
  (repeat' (first | (show wpListIn _ _ _ _ _ (_ :: _) _ _; first | (refine wx1 ?_; clear hk a; intro a hk) | (refine wx2 ?_ ?_ <;> (intro hp; clear hk a; intro a hk)) | (refine wx3 ?_; clear hk hS a; intro w b hS a hk) | (refine wx4 ?_; clear hk hS a; intro w hS a hk) | (refine wx5 ?_; clear hk hS a; intro w v hS a hk) | fail) | refine wx0 ?_ | (refine s_end hk ?_; clear hk a; intro a hk) | fail))
  refine sg hk (g_callO hk (hf := by kernel_rfl) (hc := hasPrefix_any x ⟨#[116, 45]⟩ _) (h := ?_)); clear hk a; rintro _ w ⟨rfl, hS1⟩ a hk; replace hS := hS.call0 hS1; clear hS1
  (repeat' (first | (show wpListIn _ _ _ _ _ (_ :: _) _ _; first | (refine wx1 ?_; clear hk a; intro a hk) | (refine wx2 ?_ ?_ <;> (intro hp; clear hk a; intro a hk)) | (refine wx3 ?_; clear hk hS a; intro w b hS a hk) | (refine wx4 ?_; clear hk hS a; intro w hS a hk) | (refine wx5 ?_; clear hk hS a; intro w v hS a hk) | fail) | refine wx0 ?_ | (refine s_end hk ?_; clear hk a; intro a hk) | fail))
  exact done1 hk (h := ⟨rfl, hS.nil⟩)
theorem without_any (l : List ByteArray) (v : Value) (w0 : World) (hv : SlT l v w0) (hl : l.length ≤ 900) :
    Calls Tryz.prog 82 #[v, .func (.func 83) #[] #[]] w0 (Ret fun v w => St w0 [OwT 9 (mineC l) v] w) := by
  refine enter Tryz.func82 rfl Tryz.ntmps82 rfl (fun a hk => ?_); have hS := St.refl w0
  (repeat' (first | (show wpListIn _ _ _ _ _ (_ :: _) _ _; first | (refine wx1 ?_; clear hk a; intro a hk) | (refine wx2 ?_ ?_ <;> (intro hp; clear hk a; intro a hk)) | (refine wx3 ?_; clear hk hS a; intro w b hS a hk) | (refine wx4 ?_; clear hk hS a; intro w hS a hk) | (refine wx5 ?_; clear hk hS a; intro w v hS a hk) | fail) | refine wx0 ?_ | (refine s_end hk ?_; clear hk a; intro a hk) | fail))
  refine sg hk (g_callO hk (hf := by kernel_rfl) (hc := cloneS_any l v _ (hS.rdT hv) (by omega)) (h := ?_)); clear hk a; rintro vs w hS1 a hk; replace hS := hS.call hS1; clear hS1
  (repeat' (first | (show wpListIn _ _ _ _ _ (_ :: _) _ _; first | (refine wx1 ?_; clear hk a; intro a hk) | (refine wx2 ?_ ?_ <;> (intro hp; clear hk a; intro a hk)) | (refine wx3 ?_; clear hk hS a; intro w b hS a hk) | (refine wx4 ?_; clear hk hS a; intro w hS a hk) | (refine wx5 ?_; clear hk hS a; intro w v hS a hk) | fail) | refine wx0 ?_ | (refine s_end hk ?_; clear hk a; intro a hk) | fail))
  refine sg hk (g_callO hk (hf := by kernel_rfl) (hc := delC_any rsvS 83 [] (L := []) (hS.sub (by (repeat (first | exact Sub.nil | exact Sub.refl | refine Sub.cons (by (repeat (first | exact At.here | apply At.there))) ?_)))) (by omega) (by kernel_rfl) (fun x w' _ h => minec1_any x w')) (h := ?_)); clear hk hS a; intro vr w hS a hk
  (repeat' (first | (show wpListIn _ _ _ _ _ (_ :: _) _ _; first | (refine wx1 ?_; clear hk a; intro a hk) | (refine wx2 ?_ ?_ <;> (intro hp; clear hk a; intro a hk)) | (refine wx3 ?_; clear hk hS a; intro w b hS a hk) | (refine wx4 ?_; clear hk hS a; intro w hS a hk) | (refine wx5 ?_; clear hk hS a; intro w v hS a hk) | fail) | refine wx0 ?_ | (refine s_end hk ?_; clear hk a; intro a hk) | fail))
  exact done1 hk (h := hS.sb)
theorem minec_any (l : List ByteArray) (v : Value) (w0 : World) (hv : SlT l v w0) (hl : l.length ≤ 900) :
    Calls Tryz.prog 62 #[v] w0 (Ret fun v w => St w0 [OwT 9 (mineC l) v] w) := by
  refine enter Tryz.func62 rfl Tryz.ntmps62 rfl (fun a hk => ?_); have hS := St.refl w0
  (repeat' (first | (show wpListIn _ _ _ _ _ (_ :: _) _ _; first | (refine wx1 ?_; clear hk a; intro a hk) | (refine wx2 ?_ ?_ <;> (intro hp; clear hk a; intro a hk)) | (refine wx3 ?_; clear hk hS a; intro w b hS a hk) | (refine wx4 ?_; clear hk hS a; intro w hS a hk) | (refine wx5 ?_; clear hk hS a; intro w v hS a hk) | fail) | refine wx0 ?_ | (refine s_end hk ?_; clear hk a; intro a hk) | fail))
  refine sg hk (g_callO hk (hf := by kernel_rfl) (hc := without_any l v _ (hS.rdT hv) hl) (h := ?_)); clear hk a; rintro vs w hS1 a hk; replace hS := hS.call hS1; clear hS1
  (repeat' (first | (show wpListIn _ _ _ _ _ (_ :: _) _ _; first | (refine wx1 ?_; clear hk a; intro a hk) | (refine wx2 ?_ ?_ <;> (intro hp; clear hk a; intro a hk)) | (refine wx3 ?_; clear hk hS a; intro w b hS a hk) | (refine wx4 ?_; clear hk hS a; intro w hS a hk) | (refine wx5 ?_; clear hk hS a; intro w v hS a hk) | fail) | refine wx0 ?_ | (refine s_end hk ?_; clear hk a; intro a hk) | fail))
  exact done1 hk (h := hS.sb)
set_option maxHeartbeats 1000000 in
theorem idxBI_any (p : PrI → Bool) (s : List PrI) (f : FuncId) (cap : List Value) (v : Value) {B : Bs} {L : List HP} (w : World) (hS : St B L w) (hv : SlT s v w) (hl : s.length ≤ 1000) (hf : callable Tryz.prog f = true)
    (hc : ∀ (x : PrI) (w' : World), St B L w' → Calls Tryz.prog f (.agg (Enc.f x).toArray :: cap).toArray w' (Ret fun v w'' => v = .bool (p x) ∧ St w' [] w'')) :
    Calls Tryz.prog 115 #[v, .func (.func f) #[] cap.toArray] w (Ret fun v w' => ∃ r : Int, v = .int .i64 r ∧ (r = -1 ∧ (∀ i (h : i < s.length), p s[i] = false) ∨ ∃ (k : Nat) (h : k < s.length), r = k ∧ (∀ i (h : i < s.length), i < k → p s[i] = false) ∧ p s[k] = true) ∧ St w [] w') := by
  have hS0 := hS
  clear hS
  refine enter Tryz.func115 rfl Tryz.ntmps115 rfl (fun a hk => ?_)
  have hS := St.refl w
  have hw0 : w = w := rfl
  (repeat' (first | (show wpListIn _ _ _ _ _ (_ :: _) _ _; first | (refine wx1 ?_; clear hk a; intro a hk) | (refine wx2 ?_ ?_ <;> (intro hp; clear hk a; intro a hk)) | (refine wx3 ?_; clear hk hS a; intro w b hS a hk) | (refine wx4 ?_; clear hk hS a; intro w hS a hk) | (refine wx5 ?_; clear hk hS a; intro w v hS a hk) | fail) | refine wx0 ?_ | (refine s_end hk ?_; clear hk a; intro a hk) | fail))
  replace hk := Kn.kp [0, 1, 7, 8] hk
  refine wp_for s.length (fun i _ => [(8, .int .i64 (i : Int))]) (fun _ _ => []) (fun i _ => ∀ j (h : j < s.length), j < i → p s[j] = false) () hk (by repeat (first | exact trivial | refine ⟨rfl, ?_⟩)) hS (fun j h hj => by omega) ?_
  clear hk hS a
  rintro i - a w1 hi hk hS hF
  by_cases hil : i < s.length
  · (repeat' (first | (show wpListIn _ _ _ _ _ (_ :: _) _ _; first | (refine wx1 ?_; clear hk a; intro a hk) | (refine wx2 ?_ ?_ <;> (intro hp; clear hk a; intro a hk)) | (refine wx3 ?_; clear hk hS a; intro w b hS a hk) | (refine wx4 ?_; clear hk hS a; intro w hS a hk) | (refine wx5 ?_; clear hk hS a; intro w v hS a hk) | fail) | refine wx0 ?_ | (refine s_end hk ?_; clear hk a; intro a hk) | fail))
    refine sg hk (g_callvO (first := []) (cap := cap) hk (hf := hf) (hc := hc _ _ (hS0.call hS)) (h := ?_)); clear hk a; rintro _ w2 ⟨rfl, hS1⟩ a hk; replace hS := hS.call0 hS1; clear hS1
    cases hp : p s[i] with
    | true =>
      rw [hp] at hk
      (repeat' (first | (show wpListIn _ _ _ _ _ (_ :: _) _ _; first | (refine wx1 ?_; clear hk a; intro a hk) | (refine wx2 ?_ ?_ <;> (intro hp; clear hk a; intro a hk)) | (refine wx3 ?_; clear hk hS a; intro w b hS a hk) | (refine wx4 ?_; clear hk hS a; intro w hS a hk) | (refine wx5 ?_; clear hk hS a; intro w v hS a hk) | fail) | refine wx0 ?_ | (refine s_end hk ?_; clear hk a; intro a hk) | fail))
      exact done1 hk (h := ⟨i, rfl, .inr ⟨i, hil, rfl, hF, hp⟩, hS.nil⟩)
    | false =>
      rw [hp] at hk
      (repeat' (first | (show wpListIn _ _ _ _ _ (_ :: _) _ _; first | (refine wx1 ?_; clear hk a; intro a hk) | (refine wx2 ?_ ?_ <;> (intro hp; clear hk a; intro a hk)) | (refine wx3 ?_; clear hk hS a; intro w b hS a hk) | (refine wx4 ?_; clear hk hS a; intro w hS a hk) | (refine wx5 ?_; clear hk hS a; intro w v hS a hk) | fail) | refine wx0 ?_ | (refine s_end hk ?_; clear hk a; intro a hk) | fail))
      refine ⟨hil, (), hk.sd, hS, fun j h hj => ?_⟩
      by_cases e : j = i
      · subst e; exact hp
      · exact hF j h (by omega)
  · (repeat' (first | (show wpListIn _ _ _ _ _ (_ :: _) _ _; first | (refine wx1 ?_; clear hk a; intro a hk) | (refine wx2 ?_ ?_ <;> (intro hp; clear hk a; intro a hk)) | (refine wx3 ?_; clear hk hS a; intro w b hS a hk) | (refine wx4 ?_; clear hk hS a; intro w hS a hk) | (refine wx5 ?_; clear hk hS a; intro w v hS a hk) | fail) | refine wx0 ?_ | (refine s_end hk ?_; clear hk a; intro a hk) | fail))
    exact done1 hk (h := ⟨-1, rfl, .inl ⟨rfl, fun i h => hF i h (by omega)⟩, hS.nil⟩)

set_option maxHeartbeats 2000000 in
theorem delI_any (p : PrI → Bool) {s : List PrI} (f : FuncId) (cap : List Value) {v : Value} {B : Bs} {L : List HP} {w : World} (hS : St B (OwT 122 s v :: L) w) (hl : s.length ≤ 1000) (hf : callable Tryz.prog f = true)
    (hc : ∀ (x : PrI) (w' : World), St B L w' → Calls Tryz.prog f (.agg (Enc.f x).toArray :: cap).toArray w' (Ret fun v w'' => v = .bool (p x) ∧ St w' [] w'')) :
    Calls Tryz.prog 102 #[v, .func (.func f) #[] cap.toArray] w (Ret fun v' w' => St B (OwT 122 (s.filter (fun x => !p x)) v' :: L) w') := by
  refine enter Tryz.func102 rfl Tryz.ntmps102 rfl (fun a hk => ?_)
  (repeat' (first | (show wpListIn _ _ _ _ _ (_ :: _) _ _; first | (refine wx1 ?_; clear hk a; intro a hk) | (refine wx2 ?_ ?_ <;> (intro hp; clear hk a; intro a hk)) | (refine wx3 ?_; clear hk hS a; intro w b hS a hk) | (refine wx4 ?_; clear hk hS a; intro w hS a hk) | (refine wx5 ?_; clear hk hS a; intro w v hS a hk) | fail) | refine wx0 ?_ | (refine s_end hk ?_; clear hk a; intro a hk) | fail))
  refine sg hk (g_callO hk (hf := by kernel_rfl) (hc := idxBI_any p s f cap v _ (hS.sub Sub.cons_drop) (by first | exact St.rdT hS (by assumption) | exact OwT.rd (hS.rd (A := OwT _ _ _) (by (repeat (first | exact At.here | apply At.there)))) | assumption) hl hf hc) (h := ?_)); clear hk a; rintro vr w ⟨r, rfl, hr, hS1⟩ a hk; replace hS := hS.call hS1; clear hS1
  rcases hr with ⟨rfl, hn⟩ | ⟨k, hk0, rfl, hn, hp⟩
  · (repeat' (first | (show wpListIn _ _ _ _ _ (_ :: _) _ _; first | (refine wx1 ?_; clear hk a; intro a hk) | (refine wx2 ?_ ?_ <;> (intro hp; clear hk a; intro a hk)) | (refine wx3 ?_; clear hk hS a; intro w b hS a hk) | (refine wx4 ?_; clear hk hS a; intro w hS a hk) | (refine wx5 ?_; clear hk hS a; intro w v hS a hk) | fail) | refine wx0 ?_ | (refine s_end hk ?_; clear hk a; intro a hk) | fail))
    rw [filter_none p hn]
    exact done1 hk (h := hS)
  · (repeat' (first | (show wpListIn _ _ _ _ _ (_ :: _) _ _; first | (refine wx1 ?_; clear hk a; intro a hk) | (refine wx2 ?_ ?_ <;> (intro hp; clear hk a; intro a hk)) | (refine wx3 ?_; clear hk hS a; intro w b hS a hk) | (refine wx4 ?_; clear hk hS a; intro w hS a hk) | (refine wx5 ?_; clear hk hS a; intro w v hS a hk) | fail) | refine wx0 ?_ | (refine s_end hk ?_; clear hk a; intro a hk) | fail))
    replace hk := Kn.kp [0, 1, 5, 6] hk
    refine wp_while (fun x : Nat × Nat × List PrI => [(5, .int .i64 (x.1 : Int)), (6, .int .i64 (x.2.1 : Int))]) (fun x => OwT 122 x.2.2 v :: L) (fun x => Sieve p s x.2.2 x.1 x.2.1 ∧ x.2.1 ≤ s.length) (fun x => s.length - x.2.1) (k, k + 1, s) hk (by repeat (first | exact trivial | refine ⟨rfl, ?_⟩)) hS ⟨Sieve.start p hk0 hn hp, hk0⟩ ?_
    clear hk hS a hn hp
    rintro ⟨i, j, ys⟩ a w hk hS ⟨hF, hj⟩
    simp only at hk hS hF hj
    have hyl := hF.len
    have hij := hF.le
    by_cases hjl : j < s.length
    · have hget := hF.get p hjl
      (repeat' (first | (show wpListIn _ _ _ _ _ (_ :: _) _ _; first | (refine wx1 ?_; clear hk a; intro a hk) | (refine wx2 ?_ ?_ <;> (intro hp; clear hk a; intro a hk)) | (refine wx3 ?_; clear hk hS a; intro w b hS a hk) | (refine wx4 ?_; clear hk hS a; intro w hS a hk) | (refine wx5 ?_; clear hk hS a; intro w v hS a hk) | fail) | refine wx0 ?_ | (refine s_end hk ?_; clear hk a; intro a hk) | fail))
      refine sg hk (g_callvO (first := []) (cap := cap) hk (hf := hf) (hc := hc s[j] _ (hS.sub (Sub.under Sub.cons_drop))) (h := ?_)); clear hk a; rintro _ w2 ⟨rfl, hS1⟩ a hk; replace hS := hS.call0 hS1; clear hS1
      cases hp : p s[j] with
      | true =>
        rw [hp] at hk
        (repeat' (first | (show wpListIn _ _ _ _ _ (_ :: _) _ _; first | (refine wx1 ?_; clear hk a; intro a hk) | (refine wx2 ?_ ?_ <;> (intro hp; clear hk a; intro a hk)) | (refine wx3 ?_; clear hk hS a; intro w b hS a hk) | (refine wx4 ?_; clear hk hS a; intro w hS a hk) | (refine wx5 ?_; clear hk hS a; intro w v hS a hk) | fail) | refine wx0 ?_ | (refine s_end hk ?_; clear hk a; intro a hk) | fail))
        exact ⟨(i, j + 1, ys), by simp only; omega, hk.subD (by (repeat (first | exact trivial | refine ⟨rfl, ?_⟩ | refine ⟨trivial, ?_⟩)); fail_if_success focus skip), hS.sub Sub.cons_drop, hF.drop_ p hjl hp, hjl⟩
      | false =>
        rw [hp] at hk
        (repeat' (first | (show wpListIn _ _ _ _ _ (_ :: _) _ _; first | (refine wx1 ?_; clear hk a; intro a hk) | (refine wx2 ?_ ?_ <;> (intro hp; clear hk a; intro a hk)) | (refine wx3 ?_; clear hk hS a; intro w b hS a hk) | (refine wx4 ?_; clear hk hS a; intro w hS a hk) | (refine wx5 ?_; clear hk hS a; intro w v hS a hk) | fail) | refine wx0 ?_ | (refine s_end hk ?_; clear hk a; intro a hk) | fail))
        refine su hk (g_stT (xs := ys) (z := s[j]) hk hS ?_ (hsz := zT rfl) (hi := by omega))
        clear hk hS a
        intro w hS a hk
        (repeat' (first | (show wpListIn _ _ _ _ _ (_ :: _) _ _; first | (refine wx1 ?_; clear hk a; intro a hk) | (refine wx2 ?_ ?_ <;> (intro hp; clear hk a; intro a hk)) | (refine wx3 ?_; clear hk hS a; intro w b hS a hk) | (refine wx4 ?_; clear hk hS a; intro w hS a hk) | (refine wx5 ?_; clear hk hS a; intro w v hS a hk) | fail) | refine wx0 ?_ | (refine s_end hk ?_; clear hk a; intro a hk) | fail))
        exact ⟨(i + 1, j + 1, ys.set i s[j]), by simp only; omega, hk.subD (by (repeat (first | exact trivial | refine ⟨rfl, ?_⟩ | refine ⟨trivial, ?_⟩)); fail_if_success focus skip), hS.sub (.cons .here (Sub.under .refl)), hF.keep p hjl hp, hjl⟩
    · have hje : j = s.length := by omega
      subst hje
      have hhd := hF.head
      rw [List.take_length] at hhd
      (repeat' (first | (show wpListIn _ _ _ _ _ (_ :: _) _ _; first | (refine wx1 ?_; clear hk a; intro a hk) | (refine wx2 ?_ ?_ <;> (intro hp; clear hk a; intro a hk)) | (refine wx3 ?_; clear hk hS a; intro w b hS a hk) | (refine wx4 ?_; clear hk hS a; intro w hS a hk) | (refine wx5 ?_; clear hk hS a; intro w v hS a hk) | fail) | refine wx0 ?_ | (refine s_end hk ?_; clear hk a; intro a hk) | fail))
      obtain ⟨b, off, c, rfl, _, _⟩ := hS.ownCells (E := 122) (xs := ys) At.here (by intro h; subst h; simp at hyl; omega)
      obtain ⟨vs, hS1, hvl, hnc, hcm, hcl, hvs⟩ := hS.ownPts At.here
      replace hS := hS1
      clear hS1
      have e1 : ys.length * (Enc.k PrI + 1) = i * (Enc.k PrI + 1) + (ys.length - i) * (Enc.k PrI + 1) := by rw [← Nat.add_mul]; congr 1; omega
      have e2 : ys.length * (Enc.k PrI + 1) ≤ c * (Enc.k PrI + 1) := Nat.mul_le_mul_right _ hnc
      refine sg hk (g_slFc i (k := Enc.k PrI) hk ?_ (ht := eT rfl) (hE := zT rfl) (hp := rfl) (him := by omega) (hc := by omega)); clear hk a; intro a hk
      refine su hk (g_clear (k := Enc.k PrI) hk hS ?_ (ht := eT rfl) (hz := oT rfl) (hzs := rfl) (hz1 := by decide) (hfit := by omega))
      clear hk hS a
      intro w zs hzl hS a hk
      (repeat' (first | (show wpListIn _ _ _ _ _ (_ :: _) _ _; first | (refine wx1 ?_; clear hk a; intro a hk) | (refine wx2 ?_ ?_ <;> (intro hp; clear hk a; intro a hk)) | (refine wx3 ?_; clear hk hS a; intro w b hS a hk) | (refine wx4 ?_; clear hk hS a; intro w hS a hk) | (refine wx5 ?_; clear hk hS a; intro w v hS a hk) | fail) | refine wx0 ?_ | (refine s_end hk ?_; clear hk a; intro a hk) | fail))
      refine sg hk (g_slTc i (k := Enc.k PrI) hk ?_ (ht := eT rfl) (hE := zT rfl) (hp := rfl) (hj := by omega)); clear hk a; intro a hk
      (repeat' (first | (show wpListIn _ _ _ _ _ (_ :: _) _ _; first | (refine wx1 ?_; clear hk a; intro a hk) | (refine wx2 ?_ ?_ <;> (intro hp; clear hk a; intro a hk)) | (refine wx3 ?_; clear hk hS a; intro w b hS a hk) | (refine wx4 ?_; clear hk hS a; intro w hS a hk) | (refine wx5 ?_; clear hk hS a; intro w v hS a hk) | fail) | refine wx0 ?_ | (refine s_end hk ?_; clear hk a; intro a hk) | fail))
      have hF2 := hS.toTake (ys := ys) At.here (by omega) hnc hcm hvl hzl hvs
      rw [hhd] at hF2
      exact done1 hk (h := hF2)

theorem butI_any (p : PrI → Bool) (l : List PrI) (f : FuncId) (cap : List Value) (v : Value) (w0 : World) (hv : SlT l v w0) (hl : l.length ≤ 1000) (hf : callable Tryz.prog f = true)
    (hc : ∀ (x : PrI) (w' : World), Below w0.heap.size w0 w' → Calls Tryz.prog f (.agg (Enc.f x).toArray :: cap).toArray w' (Ret fun v w'' => v = .bool (p x) ∧ St w' [] w'')) :
    Calls Tryz.prog 87 #[v, .func (.func f) #[] cap.toArray] w0 (Ret fun v w => St w0 [OwT 122 ((snapF nmI l).filter (fun x => !p x)) v] w) := by
  have hsl := snap_len nmI l
  refine enter Tryz.func87 rfl Tryz.ntmps87 rfl (fun a hk => ?_); have hS := St.refl w0
  (repeat' (first | (show wpListIn _ _ _ _ _ (_ :: _) _ _; first | (refine wx1 ?_; clear hk a; intro a hk) | (refine wx2 ?_ ?_ <;> (intro hp; clear hk a; intro a hk)) | (refine wx3 ?_; clear hk hS a; intro w b hS a hk) | (refine wx4 ?_; clear hk hS a; intro w hS a hk) | (refine wx5 ?_; clear hk hS a; intro w v hS a hk) | fail) | refine wx0 ?_ | (refine s_end hk ?_; clear hk a; intro a hk) | fail))
  refine sg hk (g_callO hk (hf := by kernel_rfl) (hc := ofI_any l v _ (hS.rdT hv) hl) (h := ?_)); clear hk a; rintro vs w hS1 a hk; replace hS := hS.call hS1; clear hS1
  (repeat' (first | (show wpListIn _ _ _ _ _ (_ :: _) _ _; first | (refine wx1 ?_; clear hk a; intro a hk) | (refine wx2 ?_ ?_ <;> (intro hp; clear hk a; intro a hk)) | (refine wx3 ?_; clear hk hS a; intro w b hS a hk) | (refine wx4 ?_; clear hk hS a; intro w hS a hk) | (refine wx5 ?_; clear hk hS a; intro w v hS a hk) | fail) | refine wx0 ?_ | (refine s_end hk ?_; clear hk a; intro a hk) | fail))
  refine sg hk (g_callO hk (hf := by kernel_rfl) (hc := delI_any p f cap (L := []) (hS.sub (by (repeat (first | exact Sub.nil | exact Sub.refl | refine Sub.cons (by (repeat (first | exact At.here | apply At.there))) ?_)))) (by omega) hf (fun x w' h => hc x w' h.below)) (h := ?_)); clear hk hS a; intro vr w hS a hk
  (repeat' (first | (show wpListIn _ _ _ _ _ (_ :: _) _ _; first | (refine wx1 ?_; clear hk a; intro a hk) | (refine wx2 ?_ ?_ <;> (intro hp; clear hk a; intro a hk)) | (refine wx3 ?_; clear hk hS a; intro w b hS a hk) | (refine wx4 ?_; clear hk hS a; intro w hS a hk) | (refine wx5 ?_; clear hk hS a; intro w v hS a hk) | fail) | refine wx0 ?_ | (refine s_end hk ?_; clear hk a; intro a hk) | fail))
  exact done1 hk (h := hS.sb)

def mineI (l : List PrI) : List PrI := (snapF nmI l).filter (fun x => !rsvS x.1)
theorem mine1I_any (x : PrI) (w0 : World) : Calls Tryz.prog 88 #[.agg (Enc.f x).toArray] w0 (Ret fun v w => v = .bool (rsvS x.1) ∧ St w0 [] w) := by
  obtain ⟨n, x⟩ := x
  refine enter Tryz.func88 rfl Tryz.ntmps88 rfl (fun a hk => ?_); have hS := St.refl w0
  (repeat' (first | (show wpListIn _ _ _ _ _ (_ :: _) _ _; first | (refine wx1 ?_; clear hk a; intro a hk) | (refine wx2 ?_ ?_ <;> (intro hp; clear hk a; intro a hk)) | (refine wx3 ?_; clear hk hS a; intro w b hS a hk) | (refine wx4 ?_; clear hk hS a; intro w hS a hk) | (refine wx5 ?_; clear hk hS a; intro w v hS a hk) | fail) | refine wx0 ?_ | (refine s_end hk ?_; clear hk a; intro a hk) | fail))
  refine sg hk (g_callO hk (hf := by kernel_rfl) (hc := hasPrefix_any n ⟨#[116, 45]⟩ _) (h := ?_)); clear hk a; rintro _ w ⟨rfl, hS1⟩ a hk; replace hS := hS.call0 hS1; clear hS1
  (repeat' (first | (show wpListIn _ _ _ _ _ (_ :: _) _ _; first | (refine wx1 ?_; clear hk a; intro a hk) | (refine wx2 ?_ ?_ <;> (intro hp; clear hk a; intro a hk)) | (refine wx3 ?_; clear hk hS a; intro w b hS a hk) | (refine wx4 ?_; clear hk hS a; intro w hS a hk) | (refine wx5 ?_; clear hk hS a; intro w v hS a hk) | fail) | refine wx0 ?_ | (refine s_end hk ?_; clear hk a; intro a hk) | fail))
  exact done1 hk (h := ⟨rfl, hS.nil⟩)
theorem mineI_any (l : List PrI) (v : Value) (w0 : World) (hv : SlT l v w0) (hl : l.length ≤ 1000) :
    Calls Tryz.prog 64 #[v] w0 (Ret fun v w => St w0 [OwT 122 (mineI l) v] w) := by
  refine enter Tryz.func64 rfl Tryz.ntmps64 rfl (fun a hk => ?_); have hS := St.refl w0
  (repeat' (first | (show wpListIn _ _ _ _ _ (_ :: _) _ _; first | (refine wx1 ?_; clear hk a; intro a hk) | (refine wx2 ?_ ?_ <;> (intro hp; clear hk a; intro a hk)) | (refine wx3 ?_; clear hk hS a; intro w b hS a hk) | (refine wx4 ?_; clear hk hS a; intro w hS a hk) | (refine wx5 ?_; clear hk hS a; intro w v hS a hk) | fail) | refine wx0 ?_ | (refine s_end hk ?_; clear hk a; intro a hk) | fail))
  refine sg hk (g_callO hk (hf := by kernel_rfl) (hc := butI_any (fun x => rsvS x.1) l 88 [] v _ (hS.rdT hv) hl (by kernel_rfl) (fun x w' _ => mine1I_any x w')) (h := ?_)); clear hk a; rintro vn w hS1 a hk; replace hS := hS.call hS1; clear hS1
  (repeat' (first | (show wpListIn _ _ _ _ _ (_ :: _) _ _; first | (refine wx1 ?_; clear hk a; intro a hk) | (refine wx2 ?_ ?_ <;> (intro hp; clear hk a; intro a hk)) | (refine wx3 ?_; clear hk hS a; intro w b hS a hk) | (refine wx4 ?_; clear hk hS a; intro w hS a hk) | (refine wx5 ?_; clear hk hS a; intro w v hS a hk) | fail) | refine wx0 ?_ | (refine s_end hk ?_; clear hk a; intro a hk) | fail))
  exact done1 hk (h := hS.sb)

set_option maxHeartbeats 1000000 in
theorem idxBS_any (p : PrS → Bool) (s : List PrS) (f : FuncId) (cap : List Value) (v : Value) {B : Bs} {L : List HP} (w : World) (hS : St B L w) (hv : SlT s v w) (hl : s.length ≤ 1000) (hf : callable Tryz.prog f = true)
    (hc : ∀ (x : PrS) (w' : World), St B L w' → Calls Tryz.prog f (.agg (Enc.f x).toArray :: cap).toArray w' (Ret fun v w'' => v = .bool (p x) ∧ St w' [] w'')) :
    Calls Tryz.prog 114 #[v, .func (.func f) #[] cap.toArray] w (Ret fun v w' => ∃ r : Int, v = .int .i64 r ∧ (r = -1 ∧ (∀ i (h : i < s.length), p s[i] = false) ∨ ∃ (k : Nat) (h : k < s.length), r = k ∧ (∀ i (h : i < s.length), i < k → p s[i] = false) ∧ p s[k] = true) ∧ St w [] w') := by
  have hS0 := hS
  clear hS
  refine enter Tryz.func114 rfl Tryz.ntmps114 rfl (fun a hk => ?_)
  have hS := St.refl w
  have hw0 : w = w := rfl
  (repeat' (first | (show wpListIn _ _ _ _ _ (_ :: _) _ _; first | (refine wx1 ?_; clear hk a; intro a hk) | (refine wx2 ?_ ?_ <;> (intro hp; clear hk a; intro a hk)) | (refine wx3 ?_; clear hk hS a; intro w b hS a hk) | (refine wx4 ?_; clear hk hS a; intro w hS a hk) | (refine wx5 ?_; clear hk hS a; intro w v hS a hk) | fail) | refine wx0 ?_ | (refine s_end hk ?_; clear hk a; intro a hk) | fail))
  replace hk := Kn.kp [0, 1, 7, 8] hk
  refine wp_for s.length (fun i _ => [(8, .int .i64 (i : Int))]) (fun _ _ => []) (fun i _ => ∀ j (h : j < s.length), j < i → p s[j] = false) () hk (by repeat (first | exact trivial | refine ⟨rfl, ?_⟩)) hS (fun j h hj => by omega) ?_
  clear hk hS a
  rintro i - a w1 hi hk hS hF
  by_cases hil : i < s.length
  · (repeat' (first | (show wpListIn _ _ _ _ _ (_ :: _) _ _; first | (refine wx1 ?_; clear hk a; intro a hk) | (refine wx2 ?_ ?_ <;> (intro hp; clear hk a; intro a hk)) | (refine wx3 ?_; clear hk hS a; intro w b hS a hk) | (refine wx4 ?_; clear hk hS a; intro w hS a hk) | (refine wx5 ?_; clear hk hS a; intro w v hS a hk) | fail) | refine wx0 ?_ | (refine s_end hk ?_; clear hk a; intro a hk) | fail))
    refine sg hk (g_callvO (first := []) (cap := cap) hk (hf := hf) (hc := hc _ _ (hS0.call hS)) (h := ?_)); clear hk a; rintro _ w2 ⟨rfl, hS1⟩ a hk; replace hS := hS.call0 hS1; clear hS1
    cases hp : p s[i] with
    | true =>
      rw [hp] at hk
      (repeat' (first | (show wpListIn _ _ _ _ _ (_ :: _) _ _; first | (refine wx1 ?_; clear hk a; intro a hk) | (refine wx2 ?_ ?_ <;> (intro hp; clear hk a; intro a hk)) | (refine wx3 ?_; clear hk hS a; intro w b hS a hk) | (refine wx4 ?_; clear hk hS a; intro w hS a hk) | (refine wx5 ?_; clear hk hS a; intro w v hS a hk) | fail) | refine wx0 ?_ | (refine s_end hk ?_; clear hk a; intro a hk) | fail))
      exact done1 hk (h := ⟨i, rfl, .inr ⟨i, hil, rfl, hF, hp⟩, hS.nil⟩)
    | false =>
      rw [hp] at hk
      (repeat' (first | (show wpListIn _ _ _ _ _ (_ :: _) _ _; first | (refine wx1 ?_; clear hk a; intro a hk) | (refine wx2 ?_ ?_ <;> (intro hp; clear hk a; intro a hk)) | (refine wx3 ?_; clear hk hS a; intro w b hS a hk) | (refine wx4 ?_; clear hk hS a; intro w hS a hk) | (refine wx5 ?_; clear hk hS a; intro w v hS a hk) | fail) | refine wx0 ?_ | (refine s_end hk ?_; clear hk a; intro a hk) | fail))
      refine ⟨hil, (), hk.sd, hS, fun j h hj => ?_⟩
      by_cases e : j = i
      · subst e; exact hp
      · exact hF j h (by omega)
  · (repeat' (first | (show wpListIn _ _ _ _ _ (_ :: _) _ _; first | (refine wx1 ?_; clear hk a; intro a hk) | (refine wx2 ?_ ?_ <;> (intro hp; clear hk a; intro a hk)) | (refine wx3 ?_; clear hk hS a; intro w b hS a hk) | (refine wx4 ?_; clear hk hS a; intro w hS a hk) | (refine wx5 ?_; clear hk hS a; intro w v hS a hk) | fail) | refine wx0 ?_ | (refine s_end hk ?_; clear hk a; intro a hk) | fail))
    exact done1 hk (h := ⟨-1, rfl, .inl ⟨rfl, fun i h => hF i h (by omega)⟩, hS.nil⟩)

set_option maxHeartbeats 2000000 in
theorem delS_any (p : PrS → Bool) {s : List PrS} (f : FuncId) (cap : List Value) {v : Value} {B : Bs} {L : List HP} {w : World} (hS : St B (OwT 119 s v :: L) w) (hl : s.length ≤ 1000) (hf : callable Tryz.prog f = true)
    (hc : ∀ (x : PrS) (w' : World), St B L w' → Calls Tryz.prog f (.agg (Enc.f x).toArray :: cap).toArray w' (Ret fun v w'' => v = .bool (p x) ∧ St w' [] w'')) :
    Calls Tryz.prog 101 #[v, .func (.func f) #[] cap.toArray] w (Ret fun v' w' => St B (OwT 119 (s.filter (fun x => !p x)) v' :: L) w') := by
  refine enter Tryz.func101 rfl Tryz.ntmps101 rfl (fun a hk => ?_)
  (repeat' (first | (show wpListIn _ _ _ _ _ (_ :: _) _ _; first | (refine wx1 ?_; clear hk a; intro a hk) | (refine wx2 ?_ ?_ <;> (intro hp; clear hk a; intro a hk)) | (refine wx3 ?_; clear hk hS a; intro w b hS a hk) | (refine wx4 ?_; clear hk hS a; intro w hS a hk) | (refine wx5 ?_; clear hk hS a; intro w v hS a hk) | fail) | refine wx0 ?_ | (refine s_end hk ?_; clear hk a; intro a hk) | fail))
  refine sg hk (g_callO hk (hf := by kernel_rfl) (hc := idxBS_any p s f cap v _ (hS.sub Sub.cons_drop) (by first | exact St.rdT hS (by assumption) | exact OwT.rd (hS.rd (A := OwT _ _ _) (by (repeat (first | exact At.here | apply At.there)))) | assumption) hl hf hc) (h := ?_)); clear hk a; rintro vr w ⟨r, rfl, hr, hS1⟩ a hk; replace hS := hS.call hS1; clear hS1
  rcases hr with ⟨rfl, hn⟩ | ⟨k, hk0, rfl, hn, hp⟩
  · (repeat' (first | (show wpListIn _ _ _ _ _ (_ :: _) _ _; first | (refine wx1 ?_; clear hk a; intro a hk) | (refine wx2 ?_ ?_ <;> (intro hp; clear hk a; intro a hk)) | (refine wx3 ?_; clear hk hS a; intro w b hS a hk) | (refine wx4 ?_; clear hk hS a; intro w hS a hk) | (refine wx5 ?_; clear hk hS a; intro w v hS a hk) | fail) | refine wx0 ?_ | (refine s_end hk ?_; clear hk a; intro a hk) | fail))
    rw [filter_none p hn]
    exact done1 hk (h := hS)
  · (repeat' (first | (show wpListIn _ _ _ _ _ (_ :: _) _ _; first | (refine wx1 ?_; clear hk a; intro a hk) | (refine wx2 ?_ ?_ <;> (intro hp; clear hk a; intro a hk)) | (refine wx3 ?_; clear hk hS a; intro w b hS a hk) | (refine wx4 ?_; clear hk hS a; intro w hS a hk) | (refine wx5 ?_; clear hk hS a; intro w v hS a hk) | fail) | refine wx0 ?_ | (refine s_end hk ?_; clear hk a; intro a hk) | fail))
    replace hk := Kn.kp [0, 1, 5, 6] hk
    refine wp_while (fun x : Nat × Nat × List PrS => [(5, .int .i64 (x.1 : Int)), (6, .int .i64 (x.2.1 : Int))]) (fun x => OwT 119 x.2.2 v :: L) (fun x => Sieve p s x.2.2 x.1 x.2.1 ∧ x.2.1 ≤ s.length) (fun x => s.length - x.2.1) (k, k + 1, s) hk (by repeat (first | exact trivial | refine ⟨rfl, ?_⟩)) hS ⟨Sieve.start p hk0 hn hp, hk0⟩ ?_
    clear hk hS a hn hp
    rintro ⟨i, j, ys⟩ a w hk hS ⟨hF, hj⟩
    simp only at hk hS hF hj
    have hyl := hF.len
    have hij := hF.le
    by_cases hjl : j < s.length
    · have hget := hF.get p hjl
      (repeat' (first | (show wpListIn _ _ _ _ _ (_ :: _) _ _; first | (refine wx1 ?_; clear hk a; intro a hk) | (refine wx2 ?_ ?_ <;> (intro hp; clear hk a; intro a hk)) | (refine wx3 ?_; clear hk hS a; intro w b hS a hk) | (refine wx4 ?_; clear hk hS a; intro w hS a hk) | (refine wx5 ?_; clear hk hS a; intro w v hS a hk) | fail) | refine wx0 ?_ | (refine s_end hk ?_; clear hk a; intro a hk) | fail))
      refine sg hk (g_callvO (first := []) (cap := cap) hk (hf := hf) (hc := hc s[j] _ (hS.sub (Sub.under Sub.cons_drop))) (h := ?_)); clear hk a; rintro _ w2 ⟨rfl, hS1⟩ a hk; replace hS := hS.call0 hS1; clear hS1
      cases hp : p s[j] with
      | true =>
        rw [hp] at hk
        (repeat' (first | (show wpListIn _ _ _ _ _ (_ :: _) _ _; first | (refine wx1 ?_; clear hk a; intro a hk) | (refine wx2 ?_ ?_ <;> (intro hp; clear hk a; intro a hk)) | (refine wx3 ?_; clear hk hS a; intro w b hS a hk) | (refine wx4 ?_; clear hk hS a; intro w hS a hk) | (refine wx5 ?_; clear hk hS a; intro w v hS a hk) | fail) | refine wx0 ?_ | (refine s_end hk ?_; clear hk a; intro a hk) | fail))
        exact ⟨(i, j + 1, ys), by simp only; omega, hk.subD (by (repeat (first | exact trivial | refine ⟨rfl, ?_⟩ | refine ⟨trivial, ?_⟩)); fail_if_success focus skip), hS.sub Sub.cons_drop, hF.drop_ p hjl hp, hjl⟩
      | false =>
        rw [hp] at hk
        (repeat' (first | (show wpListIn _ _ _ _ _ (_ :: _) _ _; first | (refine wx1 ?_; clear hk a; intro a hk) | (refine wx2 ?_ ?_ <;> (intro hp; clear hk a; intro a hk)) | (refine wx3 ?_; clear hk hS a; intro w b hS a hk) | (refine wx4 ?_; clear hk hS a; intro w hS a hk) | (refine wx5 ?_; clear hk hS a; intro w v hS a hk) | fail) | refine wx0 ?_ | (refine s_end hk ?_; clear hk a; intro a hk) | fail))
        refine su hk (g_stT (xs := ys) (z := s[j]) hk hS ?_ (hsz := zT rfl) (hi := by omega))
        clear hk hS a
        intro w hS a hk
        (repeat' (first | (show wpListIn _ _ _ _ _ (_ :: _) _ _; first | (refine wx1 ?_; clear hk a; intro a hk) | (refine wx2 ?_ ?_ <;> (intro hp; clear hk a; intro a hk)) | (refine wx3 ?_; clear hk hS a; intro w b hS a hk) | (refine wx4 ?_; clear hk hS a; intro w hS a hk) | (refine wx5 ?_; clear hk hS a; intro w v hS a hk) | fail) | refine wx0 ?_ | (refine s_end hk ?_; clear hk a; intro a hk) | fail))
        exact ⟨(i + 1, j + 1, ys.set i s[j]), by simp only; omega, hk.subD (by (repeat (first | exact trivial | refine ⟨rfl, ?_⟩ | refine ⟨trivial, ?_⟩)); fail_if_success focus skip), hS.sub (.cons .here (Sub.under .refl)), hF.keep p hjl hp, hjl⟩
    · have hje : j = s.length := by omega
      subst hje
      have hhd := hF.head
      rw [List.take_length] at hhd
      (repeat' (first | (show wpListIn _ _ _ _ _ (_ :: _) _ _; first | (refine wx1 ?_; clear hk a; intro a hk) | (refine wx2 ?_ ?_ <;> (intro hp; clear hk a; intro a hk)) | (refine wx3 ?_; clear hk hS a; intro w b hS a hk) | (refine wx4 ?_; clear hk hS a; intro w hS a hk) | (refine wx5 ?_; clear hk hS a; intro w v hS a hk) | fail) | refine wx0 ?_ | (refine s_end hk ?_; clear hk a; intro a hk) | fail))
      obtain ⟨b, off, c, rfl, _, _⟩ := hS.ownCells (E := 119) (xs := ys) At.here (by intro h; subst h; simp at hyl; omega)
      obtain ⟨vs, hS1, hvl, hnc, hcm, hcl, hvs⟩ := hS.ownPts At.here
      replace hS := hS1
      clear hS1
      have e1 : ys.length * (Enc.k PrS + 1) = i * (Enc.k PrS + 1) + (ys.length - i) * (Enc.k PrS + 1) := by rw [← Nat.add_mul]; congr 1; omega
      have e2 : ys.length * (Enc.k PrS + 1) ≤ c * (Enc.k PrS + 1) := Nat.mul_le_mul_right _ hnc
      refine sg hk (g_slFc i (k := Enc.k PrS) hk ?_ (ht := eT rfl) (hE := zT rfl) (hp := rfl) (him := by omega) (hc := by omega)); clear hk a; intro a hk
      refine su hk (g_clear (k := Enc.k PrS) hk hS ?_ (ht := eT rfl) (hz := oT rfl) (hzs := rfl) (hz1 := by decide) (hfit := by omega))
      clear hk hS a
      intro w zs hzl hS a hk
      (repeat' (first | (show wpListIn _ _ _ _ _ (_ :: _) _ _; first | (refine wx1 ?_; clear hk a; intro a hk) | (refine wx2 ?_ ?_ <;> (intro hp; clear hk a; intro a hk)) | (refine wx3 ?_; clear hk hS a; intro w b hS a hk) | (refine wx4 ?_; clear hk hS a; intro w hS a hk) | (refine wx5 ?_; clear hk hS a; intro w v hS a hk) | fail) | refine wx0 ?_ | (refine s_end hk ?_; clear hk a; intro a hk) | fail))
      refine sg hk (g_slTc i (k := Enc.k PrS) hk ?_ (ht := eT rfl) (hE := zT rfl) (hp := rfl) (hj := by omega)); clear hk a; intro a hk
      (repeat' (first | (show wpListIn _ _ _ _ _ (_ :: _) _ _; first | (refine wx1 ?_; clear hk a; intro a hk) | (refine wx2 ?_ ?_ <;> (intro hp; clear hk a; intro a hk)) | (refine wx3 ?_; clear hk hS a; intro w b hS a hk) | (refine wx4 ?_; clear hk hS a; intro w hS a hk) | (refine wx5 ?_; clear hk hS a; intro w v hS a hk) | fail) | refine wx0 ?_ | (refine s_end hk ?_; clear hk a; intro a hk) | fail))
      have hF2 := hS.toTake (ys := ys) At.here (by omega) hnc hcm hvl hzl hvs
      rw [hhd] at hF2
      exact done1 hk (h := hF2)

theorem butS_any (p : PrS → Bool) (l : List PrS) (f : FuncId) (cap : List Value) (v : Value) (w0 : World) (hv : SlT l v w0) (hl : l.length ≤ 1000) (hf : callable Tryz.prog f = true)
    (hc : ∀ (x : PrS) (w' : World), Below w0.heap.size w0 w' → Calls Tryz.prog f (.agg (Enc.f x).toArray :: cap).toArray w' (Ret fun v w'' => v = .bool (p x) ∧ St w' [] w'')) :
    Calls Tryz.prog 85 #[v, .func (.func f) #[] cap.toArray] w0 (Ret fun v w => St w0 [OwT 119 ((snapF nmS l).filter (fun x => !p x)) v] w) := by
  have hsl := snap_len nmS l
  refine enter Tryz.func85 rfl Tryz.ntmps85 rfl (fun a hk => ?_); have hS := St.refl w0
  (repeat' (first | (show wpListIn _ _ _ _ _ (_ :: _) _ _; first | (refine wx1 ?_; clear hk a; intro a hk) | (refine wx2 ?_ ?_ <;> (intro hp; clear hk a; intro a hk)) | (refine wx3 ?_; clear hk hS a; intro w b hS a hk) | (refine wx4 ?_; clear hk hS a; intro w hS a hk) | (refine wx5 ?_; clear hk hS a; intro w v hS a hk) | fail) | refine wx0 ?_ | (refine s_end hk ?_; clear hk a; intro a hk) | fail))
  refine sg hk (g_callO hk (hf := by kernel_rfl) (hc := ofS_any l v _ (hS.rdT hv) hl) (h := ?_)); clear hk a; rintro vs w hS1 a hk; replace hS := hS.call hS1; clear hS1
  (repeat' (first | (show wpListIn _ _ _ _ _ (_ :: _) _ _; first | (refine wx1 ?_; clear hk a; intro a hk) | (refine wx2 ?_ ?_ <;> (intro hp; clear hk a; intro a hk)) | (refine wx3 ?_; clear hk hS a; intro w b hS a hk) | (refine wx4 ?_; clear hk hS a; intro w hS a hk) | (refine wx5 ?_; clear hk hS a; intro w v hS a hk) | fail) | refine wx0 ?_ | (refine s_end hk ?_; clear hk a; intro a hk) | fail))
  refine sg hk (g_callO hk (hf := by kernel_rfl) (hc := delS_any p f cap (L := []) (hS.sub (by (repeat (first | exact Sub.nil | exact Sub.refl | refine Sub.cons (by (repeat (first | exact At.here | apply At.there))) ?_)))) (by omega) hf (fun x w' h => hc x w' h.below)) (h := ?_)); clear hk hS a; intro vr w hS a hk
  (repeat' (first | (show wpListIn _ _ _ _ _ (_ :: _) _ _; first | (refine wx1 ?_; clear hk a; intro a hk) | (refine wx2 ?_ ?_ <;> (intro hp; clear hk a; intro a hk)) | (refine wx3 ?_; clear hk hS a; intro w b hS a hk) | (refine wx4 ?_; clear hk hS a; intro w hS a hk) | (refine wx5 ?_; clear hk hS a; intro w v hS a hk) | fail) | refine wx0 ?_ | (refine s_end hk ?_; clear hk a; intro a hk) | fail))
  exact done1 hk (h := hS.sb)

def mineS (l : List PrS) : List PrS := (snapF nmS l).filter (fun x => !rsvS x.1)
theorem mine1S_any (x : PrS) (w0 : World) : Calls Tryz.prog 86 #[.agg (Enc.f x).toArray] w0 (Ret fun v w => v = .bool (rsvS x.1) ∧ St w0 [] w) := by
  obtain ⟨n, x⟩ := x
  refine enter Tryz.func86 rfl Tryz.ntmps86 rfl (fun a hk => ?_); have hS := St.refl w0
  (repeat' (first | (show wpListIn _ _ _ _ _ (_ :: _) _ _; first | (refine wx1 ?_; clear hk a; intro a hk) | (refine wx2 ?_ ?_ <;> (intro hp; clear hk a; intro a hk)) | (refine wx3 ?_; clear hk hS a; intro w b hS a hk) | (refine wx4 ?_; clear hk hS a; intro w hS a hk) | (refine wx5 ?_; clear hk hS a; intro w v hS a hk) | fail) | refine wx0 ?_ | (refine s_end hk ?_; clear hk a; intro a hk) | fail))
  refine sg hk (g_callO hk (hf := by kernel_rfl) (hc := hasPrefix_any n ⟨#[116, 45]⟩ _) (h := ?_)); clear hk a; rintro _ w ⟨rfl, hS1⟩ a hk; replace hS := hS.call0 hS1; clear hS1
  (repeat' (first | (show wpListIn _ _ _ _ _ (_ :: _) _ _; first | (refine wx1 ?_; clear hk a; intro a hk) | (refine wx2 ?_ ?_ <;> (intro hp; clear hk a; intro a hk)) | (refine wx3 ?_; clear hk hS a; intro w b hS a hk) | (refine wx4 ?_; clear hk hS a; intro w hS a hk) | (refine wx5 ?_; clear hk hS a; intro w v hS a hk) | fail) | refine wx0 ?_ | (refine s_end hk ?_; clear hk a; intro a hk) | fail))
  exact done1 hk (h := ⟨rfl, hS.nil⟩)
theorem mineS_any (l : List PrS) (v : Value) (w0 : World) (hv : SlT l v w0) (hl : l.length ≤ 1000) :
    Calls Tryz.prog 63 #[v] w0 (Ret fun v w => St w0 [OwT 119 (mineS l) v] w) := by
  refine enter Tryz.func63 rfl Tryz.ntmps63 rfl (fun a hk => ?_); have hS := St.refl w0
  (repeat' (first | (show wpListIn _ _ _ _ _ (_ :: _) _ _; first | (refine wx1 ?_; clear hk a; intro a hk) | (refine wx2 ?_ ?_ <;> (intro hp; clear hk a; intro a hk)) | (refine wx3 ?_; clear hk hS a; intro w b hS a hk) | (refine wx4 ?_; clear hk hS a; intro w hS a hk) | (refine wx5 ?_; clear hk hS a; intro w v hS a hk) | fail) | refine wx0 ?_ | (refine s_end hk ?_; clear hk a; intro a hk) | fail))
  refine sg hk (g_callO hk (hf := by kernel_rfl) (hc := butS_any (fun x => rsvS x.1) l 86 [] v _ (hS.rdT hv) hl (by kernel_rfl) (fun x w' _ => mine1S_any x w')) (h := ?_)); clear hk a; rintro vn w hS1 a hk; replace hS := hS.call hS1; clear hS1
  (repeat' (first | (show wpListIn _ _ _ _ _ (_ :: _) _ _; first | (refine wx1 ?_; clear hk a; intro a hk) | (refine wx2 ?_ ?_ <;> (intro hp; clear hk a; intro a hk)) | (refine wx3 ?_; clear hk hS a; intro w b hS a hk) | (refine wx4 ?_; clear hk hS a; intro w hS a hk) | (refine wx5 ?_; clear hk hS a; intro w v hS a hk) | fail) | refine wx0 ?_ | (refine s_end hk ?_; clear hk a; intro a hk) | fail))
  exact done1 hk (h := hS.sb)

set_option maxHeartbeats 4000000 in
theorem take3 {cl : List ByteArray} {sl : List PrS} {il : List PrI} {vc vs vi : Value} {w0 : World} (hc : SlT cl vc w0) (hs : SlT sl vs w0) (hi : SlT il vi w0)
    (hcl : cl.length ≤ 800) (hsl : sl.length ≤ 800) (hil : il.length ≤ 800) :
    Calls Tryz.prog 38 #[.agg #[vc, vs, vi]] w0
      (Ret fun v w => St w0 [own3 9 119 122 (mineC cl) (mineS sl) (mineI il) v] w) := by
  obtain ⟨x1, y1, rfl, _⟩ := hc.shape
  obtain ⟨x2, y2, rfl, _⟩ := hs.shape
  obtain ⟨x3, y3, rfl, _⟩ := hi.shape
  refine enter Tryz.func38 rfl Tryz.ntmps38 rfl (fun a hk => ?_); have hS := St.refl w0
  (repeat' (first | (show wpListIn _ _ _ _ _ (_ :: _) _ _; first | (refine wx1 ?_; clear hk a; intro a hk) | (refine wx2 ?_ ?_ <;> (intro hp; clear hk a; intro a hk)) | (refine wx3 ?_; clear hk hS a; intro w b hS a hk) | (refine wx4 ?_; clear hk hS a; intro w hS a hk) | (refine wx5 ?_; clear hk hS a; intro w v hS a hk) | fail) | refine wx0 ?_ | (refine s_end hk ?_; clear hk a; intro a hk) | fail))
  rename_i b1
  rename Nat => b2
  refine wp_drawn 9 mixed (by kernel_rfl) hk hS ?_; clear hk hS a
  (repeat' (first | (show ObxE _ _ _ _ _ _ _ _ _ (_ :: _) _ _ _; first | refine ox1 ?_ | (refine ox2 ?_ ?_ <;> intro hp) | fail) | fail))
  refine' obe_res (fun us a w hk hd hS => ?_) ?_; rotate_left; focus (have hk := Kn.vw hk (by repeat (first | exact VW.nil | apply VW.val rfl | apply VW.base rfl rfl | apply VW.res rfl | apply VW.upd rfl | apply VW.cpy rfl | apply VW.dep rfl | apply VW.fn rfl | apply VW.lnd rfl | apply VW.tak rfl)); exact g_callO hk (hf := by kernel_rfl) (hc := minec_any cl _ _ (hS.rdT hc) (by omega)) (h := fun _ _ h => h))
  (repeat' (first | (show ObxE _ _ _ _ _ _ _ _ _ (_ :: _) _ _ _; first | refine ox1 ?_ | (refine ox2 ?_ ?_ <;> intro hp) | fail) | fail))
  refine' obe_res (fun us a w hk hd hS => ?_) ?_; rotate_left; focus (have hk := Kn.vw hk (by repeat (first | exact VW.nil | apply VW.val rfl | apply VW.base rfl rfl | apply VW.res rfl | apply VW.upd rfl | apply VW.cpy rfl | apply VW.dep rfl | apply VW.fn rfl | apply VW.lnd rfl | apply VW.tak rfl)); exact g_callO hk (hf := by kernel_rfl) (hc := mineS_any sl _ _ (hS.rdT hs) (by omega)) (h := fun _ _ h => h))
  (repeat' (first | (show ObxE _ _ _ _ _ _ _ _ _ (_ :: _) _ _ _; first | refine ox1 ?_ | (refine ox2 ?_ ?_ <;> intro hp) | fail) | fail))
  refine' obe_res (fun us a w hk hd hS => ?_) ?_; rotate_left; focus (have hk := Kn.vw hk (by repeat (first | exact VW.nil | apply VW.val rfl | apply VW.base rfl rfl | apply VW.res rfl | apply VW.upd rfl | apply VW.cpy rfl | apply VW.dep rfl | apply VW.fn rfl | apply VW.lnd rfl | apply VW.tak rfl)); exact g_callO hk (hf := by kernel_rfl) (hc := mineI_any il _ _ (hS.rdT hi) (by omega)) (h := fun _ _ h => h))
  (repeat' (first | (show ObxE _ _ _ _ _ _ _ _ _ (_ :: _) _ _ _; first | refine ox1 ?_ | (refine ox2 ?_ ?_ <;> intro hp) | fail) | fail))
  refine obe_nil ⟨rfl, ?_⟩; intro us a w hk hS
  simp only [resE, List.cons_append, List.nil_append, Nat.zero_add, Nat.reduceAdd] at hS
  replace hk := Kn.kp [2, 5, 8, 11] hk
  simp only [HV.of, Nat.zero_add, Nat.reduceAdd] at hk
  generalize us 2 = v9 at hS hk
  generalize us 5 = v12 at hS hk
  generalize us 8 = v15 at hS hk
  obtain ⟨aov9, cv9, hshp, _⟩ := (OwT.rd (hS.rd (A := OwT 9 _ v9) (by (repeat (first | exact At.here | apply At.there))))).shape; subst hshp
  obtain ⟨aov12, cv12, hshp, _⟩ := (OwT.rd (hS.rd (A := OwT 119 _ v12) (by (repeat (first | exact At.here | apply At.there))))).shape; subst hshp
  obtain ⟨aov15, cv15, hshp, _⟩ := (OwT.rd (hS.rd (A := OwT 122 _ v15) (by (repeat (first | exact At.here | apply At.there))))).shape; subst hshp
  (repeat' (first | (show wpListIn _ _ _ _ _ (_ :: _) _ _; first | (refine wx1 ?_; clear hk a; intro a hk) | (refine wx2 ?_ ?_ <;> (intro hp; clear hk a; intro a hk)) | (refine wx3 ?_; clear hk hS a; intro w b hS a hk) | (refine wx4 ?_; clear hk hS a; intro w hS a hk) | (refine wx5 ?_; clear hk hS a; intro w v hS a hk) | fail) | refine wx0 ?_ | (refine s_end hk ?_; clear hk a; intro a hk) | fail))
  refine done1R hk rfl (.str hS (hT := aT rfl) (hs := zT rfl)) (h := ?_)
  exact bagH.of (A := fun (u : Value × Value × Value) => [OwT 9 (mineC cl) u.1, OwT 119 (mineS sl) u.2.1, OwT 122 (mineI il) u.2.2]) (x := (_, _, _)) (hS.sub (by (repeat (first | exact Sub.nil | exact Sub.refl | refine Sub.cons (by (repeat (first | exact At.here | apply At.there))) ?_)))) rfl
end Go.Proofs.YthodcfdgahfniaaGreat
namespace Go.Proofs.YthodcfdgahfniaaGreat
open Go.RowKit
set_option maxRecDepth 100000
attribute [local irreducible] Go.Code.wpIn Go.wpListIn Go.Calls Gives Go.Exit.then Go.Exit.inBlock Done ObxE

theorem cls_rsv (k m : Int) : ∀ c ∈ clsL k m, rsvS c = true := by
  intro c hc
  unfold clsL at hc
  rcases List.mem_append.1 hc with h | h
  · unfold mkL at h
    repeat' split at h
    all_goals simp only [List.mem_cons, List.not_mem_nil, or_false] at h
    all_goals first
      | (subst h; decide +kernel)
      | (rcases h with rfl | rfl <;> decide +kernel)
  · split at h
    · simp at h
    · simp only [List.mem_cons, List.not_mem_nil, or_false] at h
      subst h; decide +kernel
open Classical in
theorem cln_sub (l : List ByteArray) : ∀ c ∈ clnC l, c ∈ l := by
  have : ∀ r : List ByteArray, ∀ c ∈ clnC r.reverse, c ∈ r.reverse := by
    intro r
    induction r with
    | nil => simp [clnC]
    | cons x r ih =>
      intro c hc
      rw [List.reverse_cons, clnC_snoc] at hc
      rw [List.reverse_cons]
      unfold addC at hc
      split at hc
      · exact List.mem_append_left _ (ih c hc)
      · rcases List.mem_append.1 hc with h | h
        · exact List.mem_append_left _ (ih c h)
        · exact List.mem_append_right _ h
  have := this l.reverse
  rwa [List.reverse_reverse] at this
theorem flt_cls (A B : List ByteArray) (hA : ∀ c ∈ A, rsvS c = false) (hB : ∀ c ∈ B, rsvS c = true) : mineC (clnC (A ++ B)) = clnC A := by
  have : ∀ r : List ByteArray, (∀ c ∈ r, rsvS c = true) → mineC (clnC (A ++ r.reverse)) = clnC A := by
    intro r
    induction r with
    | nil =>
      intro _
      rw [List.reverse_nil, List.append_nil]
      unfold mineC
      rw [List.filter_eq_self]
      intro c hc
      rw [hA c (cln_sub A c hc)]; rfl
    | cons c r ih =>
      intro h
      have ih := ih fun c hc => h c (by simp [hc])
      rw [List.reverse_cons, ← List.append_assoc, clnC_snoc]
      unfold addC
      split
      · exact ih
      · unfold mineC at *
        rw [List.filter_append, ih]
        have := h c (by simp)
        simp [this]
  have := this B.reverse (fun c hc => hB c (by simpa using hc))
  rwa [List.reverse_reverse] at this
abbrev onS : ByteArray := ⟨#[111, 110]⟩
theorem mine_on (k m : Int) : mineC (clnC ([onS] ++ clsL k m)) = [onS] := by
  have h0 : clnC [onS] = [onS] := by simp [clnC, addC]
  have hon : rsvS onS = false := by decide +kernel
  rw [flt_cls [onS] (clsL k m) (fun c hc => by rw [List.mem_singleton] at hc; subst hc; exact hon) (cls_rsv k m), h0]
section
variable {B : Bs} {w : World} {L L' : List HP}
set_option maxHeartbeats 4000000 in
theorem rightP_any {bk bs : Nat} {now wl ql k m x y d e n : Int} {wt : Wt} {job mv : Bool × Int} {h : Hd} {A : HP} (hc : cntW wt = n) (hm : mayL k m x y = true)
    (hn : (k = 0 ∧ m = 0 ∧ n = 0) ∨ (k = 0 ∧ m = 1 ∧ n = 1) ∨ (k = 0 ∧ m = 2 ∧ n = 1) ∨ (k = 1 ∧ m = 0 ∧ n = 0) ∨ (k = 2 ∧ m = 0 ∧ n = 1) ∨ (k = 3 ∧ m = 0 ∧ n = 1) ∨ (k = 4 ∧ m = 0 ∧ n = 0) ∨ (k = 5 ∧ m = 0 ∧ n = 1) ∨ (k = 6 ∧ m = 0 ∧ n = 1))
    (hS : St B (pts bk (kidF bs ⟨k, m, x, y, d, e⟩ job mv h.v false) 37 :: A :: schedH bs now wl ql wt :: L) w) :
    Calls Tryz.prog 12 #[ptV bk] w (Ret fun v w' => v = .bool true ∧ St B (pts bk (kidF bs ⟨k, m, x, y, d, e⟩ job mv h.v false) 37 :: A :: schedH bs now wl ql wt :: L) w') := by
  simp only [kidF] at hS ⊢
  have hcl : mineC (clnC (onS :: clsL k m)) = [onS] := mine_on k m
  have q1 : (clnC (onS :: clsL k m)).length ≤ 800 := by
    have h1 := clnC_len (onS :: clsL k m) (onS :: clsL k m).length
    rw [List.take_length] at h1
    have h2 := cls_len k m
    rw [List.length_cons] at h1
    omega
  have q2 : (snapF nmS (ghoP k)).length ≤ 800 := by have := snap_len nmS (ghoP k); have : (ghoP k).length ≤ 1 := (by unfold ghoP; split <;> simp); omega
  have q3 : (snapF nmI (movP m x y)).length ≤ 800 := by have := snap_len nmI (movP m x y); have : (movP m x y).length ≤ 2 := (by unfold movP; split <;> simp); omega
  have hl0 := cls_len k m
  rcases hn with ⟨rfl, rfl, rfl⟩ | ⟨rfl, rfl, rfl⟩ | ⟨rfl, rfl, rfl⟩ | ⟨rfl, rfl, rfl⟩ | ⟨rfl, rfl, rfl⟩ | ⟨rfl, rfl, rfl⟩ | ⟨rfl, rfl, rfl⟩ | ⟨rfl, rfl, rfl⟩ | ⟨rfl, rfl, rfl⟩
  all_goals (
    refine enter Tryz.func12 rfl Tryz.ntmps12 rfl (fun a hk => ?_)
    (repeat' (first | (show wpListIn _ _ _ _ _ (_ :: _) _ _; first | (refine wx1 ?_; clear hk a; intro a hk) | (refine wx2 ?_ ?_ <;> (intro hp; clear hk a; intro a hk)) | (refine wx3 ?_; clear hk hS a; intro w b hS a hk) | (refine wx4 ?_; clear hk hS a; intro w hS a hk) | (refine wx5 ?_; clear hk hS a; intro w v hS a hk) | fail) | refine wx0 ?_ | (refine s_end hk ?_; clear hk a; intro a hk) | fail))
    refine sg hk (g_callO hk (hf := by kernel_rfl) (hc := slen_any (bs := bs) (now := now) (wl := wl) (ql := ql) (x := wt) _ (hS.rd (by (repeat (first | exact At.here | apply At.there))))) (h := ?_)); clear hk a; rintro _ w ⟨rfl, hS1⟩ a hk; replace hS := hS.call0 hS1; clear hS1
    rw [hc] at hk
    (repeat' (first | (show wpListIn _ _ _ _ _ (_ :: _) _ _; first | (refine wx1 ?_; clear hk a; intro a hk) | (refine wx2 ?_ ?_ <;> (intro hp; clear hk a; intro a hk)) | (refine wx3 ?_; clear hk hS a; intro w b hS a hk) | (refine wx4 ?_; clear hk hS a; intro w hS a hk) | (refine wx5 ?_; clear hk hS a; intro w v hS a hk) | fail) | refine wx0 ?_ | (refine s_end hk ?_; clear hk a; intro a hk) | fail))
    refine sg hk (g_callO hk (hf := by kernel_rfl) (hc := may_any _ _ x y _) (h := ?_)); clear hk a; rintro _ w ⟨rfl, hS1⟩ a hk; replace hS := hS.call0 hS1; clear hS1
    rw [hm] at hk
    (repeat' (first | (show wpListIn _ _ _ _ _ (_ :: _) _ _; first | (refine wx1 ?_; clear hk a; intro a hk) | (refine wx2 ?_ ?_ <;> (intro hp; clear hk a; intro a hk)) | (refine wx3 ?_; clear hk hS a; intro w b hS a hk) | (refine wx4 ?_; clear hk hS a; intro w hS a hk) | (refine wx5 ?_; clear hk hS a; intro w v hS a hk) | fail) | refine wx0 ?_ | (refine s_end hk ?_; clear hk a; intro a hk) | fail))
    rename Value => v57
    obtain ⟨aov57, cv57, hshp, _⟩ := (OwT.rd (hS.rd (A := OwT 9 _ v57) (by (repeat (first | exact At.here | apply At.there))))).shape; subst hshp
    (repeat' (first | (show wpListIn _ _ _ _ _ (_ :: _) _ _; first | (refine wx1 ?_; clear hk a; intro a hk) | (refine wx2 ?_ ?_ <;> (intro hp; clear hk a; intro a hk)) | (refine wx3 ?_; clear hk hS a; intro w b hS a hk) | (refine wx4 ?_; clear hk hS a; intro w hS a hk) | (refine wx5 ?_; clear hk hS a; intro w v hS a hk) | fail) | refine wx0 ?_ | (refine s_end hk ?_; clear hk a; intro a hk) | fail))
    refine sg hk (g_callO hk (hf := by kernel_rfl) (hc := put3 _ _ x y (cl := [onS]) (sl := []) (il := []) (vc := .slice aov57 1 cv57) (vs := .slice none 0 0) (vi := .slice none 0 0) (OwT.rd (hS.rd (A := OwT 9 [onS] (.slice aov57 1 cv57)) (by (repeat (first | exact At.here | apply At.there))))) (SlT.nil _) (SlT.nil _) (by simp) (by simp) (by simp)) (h := ?_)); clear hk a; intro vp w hS1 a hk; replace hS := hS.call hS1; clear hS1
    rw [List.cons_append, List.nil_append] at hS
    obtain ⟨⟨va, vb, vc⟩, rfl, hS1⟩ := St.bag hS .here
    clear hS
    have hS := hS1
    clear hS1
    simp only [List.cons_append, List.nil_append] at hS
    refine sg hk (g_callO hk (hf := by kernel_rfl) (hc := take3 (OwT.rd (hS.rd .here)) (OwT.rd (hS.rd (.there .here))) (OwT.rd (hS.rd (.there (.there .here)))) q1 q2 q3) (h := ?_))
    · clear hk a; intro vq w hS1 a hk; replace hS := hS.call hS1; clear hS1
      rw [List.cons_append, List.nil_append] at hS
      obtain ⟨⟨vd, ve, vf⟩, rfl, hS1⟩ := St.bag hS .here
      clear hS
      have hS := hS1
      clear hS1
      simp only [List.cons_append, List.nil_append] at hS
      rw [hcl] at hS
      (repeat' (first | (show wpListIn _ _ _ _ _ (_ :: _) _ _; first | (refine wx1 ?_; clear hk a; intro a hk) | (refine wx2 ?_ ?_ <;> (intro hp; clear hk a; intro a hk)) | (refine wx3 ?_; clear hk hS a; intro w b hS a hk) | (refine wx4 ?_; clear hk hS a; intro w hS a hk) | (refine wx5 ?_; clear hk hS a; intro w v hS a hk) | fail) | refine wx0 ?_ | (refine s_end hk ?_; clear hk a; intro a hk) | fail))
      exact done1 hk (h := ⟨rfl, hS.sub (.cons (by (repeat (first | exact At.here | apply At.there))) (.cons (by (repeat (first | exact At.here | apply At.there))) (.cons (by (repeat (first | exact At.here | apply At.there))) (by (repeat (first | exact Sub.refl | apply Sub.under))))))⟩))
end
end Go.Proofs.YthodcfdgahfniaaGreat
namespace Go.Proofs.YthodcfdgahfniaaGreat
open Go.RowKit
set_option maxRecDepth 100000
attribute [local irreducible] Go.Code.wpIn Go.wpListIn Go.Calls Gives Go.Exit.then Go.Exit.inBlock Done ObxE

theorem want9 {k m x y d e : Int} (h0 : 0 ≤ k) (h6 : k ≤ 6) (m0 : 0 ≤ m) (m2 : m ≤ 2) (hmk : m = 0 ∨ k = 0) : (k = 0 ∧ m = 0 ∧ wantN ⟨k, m, x, y, d, e⟩ = 0) ∨ (k = 0 ∧ m = 1 ∧ wantN ⟨k, m, x, y, d, e⟩ = 1) ∨ (k = 0 ∧ m = 2 ∧ wantN ⟨k, m, x, y, d, e⟩ = 1) ∨ (k = 1 ∧ m = 0 ∧ wantN ⟨k, m, x, y, d, e⟩ = 0) ∨ (k = 2 ∧ m = 0 ∧ wantN ⟨k, m, x, y, d, e⟩ = 1) ∨ (k = 3 ∧ m = 0 ∧ wantN ⟨k, m, x, y, d, e⟩ = 1) ∨ (k = 4 ∧ m = 0 ∧ wantN ⟨k, m, x, y, d, e⟩ = 0) ∨ (k = 5 ∧ m = 0 ∧ wantN ⟨k, m, x, y, d, e⟩ = 1) ∨ (k = 6 ∧ m = 0 ∧ wantN ⟨k, m, x, y, d, e⟩ = 1) := by
  have hk : k = 0 ∨ k = 1 ∨ k = 2 ∨ k = 3 ∨ k = 4 ∨ k = 5 ∨ k = 6 := by omega
  have hm : m = 0 ∨ m = 1 ∨ m = 2 := by omega
  rcases hk with rfl | rfl | rfl | rfl | rfl | rfl | rfl <;> rcases hm with rfl | rfl | rfl <;> first
    | (exfalso; omega)
    | simp [wantN]
section
variable {B : Bs} {w : World} {L L' : List HP}
theorem right_any {bk bs : Nat} {ks : KS} {H : Int} (hK : Kd H ks) (hS : St B (kidH bk bs ks :: L) w) :
    Calls Tryz.prog 12 #[ptV bk] w (Ret fun v w' => v = .bool true ∧ St B (kidH bk bs ks :: L) w') := by
  obtain ⟨h, hS1⟩ := hS.kid (bk := bk) (bs := bs) (ks := ks) (by (repeat (first | exact At.here | apply At.there)))
  clear hS
  have hS := hS1
  clear hS1
  simp only [kidL, List.cons_append, List.nil_append] at hS
  cases hg : ks.gone with
  | true =>
    have hw := (hK.no hg).1
    have hback : ∀ w', St B (pts bk (kidF bs ks.s ks.job ks.mv h.v true) 37 :: OwT 3 ks.told h.v :: schedH bs ks.now ks.wl ks.ql .no :: L) w' → St B (kidH bk bs ks :: L) w' := by
      intro w' hS'
      refine kidH.of (h := h) ?_
      simp only [kidL, List.cons_append, List.nil_append]
      rw [hg, hw]
      exact hS'
    rw [hg, hw] at hS
    simp only [kidF] at hS hback
    refine enter Tryz.func12 rfl Tryz.ntmps12 rfl (fun a hk => ?_)
    (repeat' (first | (show wpListIn _ _ _ _ _ (_ :: _) _ _; first | (refine wx1 ?_; clear hk a; intro a hk) | (refine wx2 ?_ ?_ <;> (intro hp; clear hk a; intro a hk)) | (refine wx3 ?_; clear hk hS a; intro w b hS a hk) | (refine wx4 ?_; clear hk hS a; intro w hS a hk) | (refine wx5 ?_; clear hk hS a; intro w v hS a hk) | fail) | refine wx0 ?_ | (refine s_end hk ?_; clear hk a; intro a hk) | fail))
    refine sg hk (g_callO hk (hf := by kernel_rfl) (hc := slen_any (bs := bs) (now := ks.now) (wl := ks.wl) (ql := ks.ql) (x := .no) _ (hS.rd (by (repeat (first | exact At.here | apply At.there))))) (h := ?_)); clear hk a; rintro _ w ⟨rfl, hS1⟩ a hk; replace hS := hS.call0 hS1; clear hS1
    simp only [cntW] at hk
    (repeat' (first | (show wpListIn _ _ _ _ _ (_ :: _) _ _; first | (refine wx1 ?_; clear hk a; intro a hk) | (refine wx2 ?_ ?_ <;> (intro hp; clear hk a; intro a hk)) | (refine wx3 ?_; clear hk hS a; intro w b hS a hk) | (refine wx4 ?_; clear hk hS a; intro w hS a hk) | (refine wx5 ?_; clear hk hS a; intro w v hS a hk) | fail) | refine wx0 ?_ | (refine s_end hk ?_; clear hk a; intro a hk) | fail))
    exact done1 hk (h := ⟨rfl, hback _ (hS.sub (by (repeat (first | exact Sub.nil | exact Sub.refl | refine Sub.cons (by (repeat (first | exact At.here | apply At.there))) ?_))))⟩)
  | false =>
    have hl := (hK.lk hg).want
    obtain ⟨hc, hm⟩ := hl
    have hback : ∀ w', St B (pts bk (kidF bs ks.s ks.job ks.mv h.v false) 37 :: OwT 3 ks.told h.v :: schedH bs ks.now ks.wl ks.ql ks.w :: L) w' → St B (kidH bk bs ks :: L) w' := by
      intro w' hS'
      refine kidH.of (h := h) ?_
      simp only [kidL, List.cons_append, List.nil_append]
      rw [hg]
      exact hS'
    rw [hg] at hS
    clear hK hg
    generalize ks.s = s at *
    obtain ⟨k, m, x, y, d, e⟩ := s
    simp only at hm
    have hn := want9 (x := x) (y := y) (d := d) (e := e) hm.1 hm.2.1 hm.2.2.1 hm.2.2.2.1 hm.2.2.2.2.1
    exact (rightP_any (n := wantN ⟨k, m, x, y, d, e⟩) (h := h) hc (decide_eq_true hm) hn hS).mono (fun e w' h => h.mono (fun v w' h => ⟨h.1, hback _ h.2⟩))
end
end Go.Proofs.YthodcfdgahfniaaGreat
