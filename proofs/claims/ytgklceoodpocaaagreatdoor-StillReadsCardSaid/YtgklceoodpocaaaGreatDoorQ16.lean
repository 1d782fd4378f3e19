/- Layer 5: nodes are changed. -/
import Derived.Test.YtgklceoodpocaaaGreatDoorQ12
import Derived.Test.YtgklceoodpocaaaGreatDoorQ15
set_option linter.all false
namespace Go.Proofs.YtgklceoodpocaaaGreatDoor
open Go.RowKit
set_option maxRecDepth 100000
attribute [local irreducible] Go.Code.wpIn Go.wpListIn Go.Calls Gives Go.Exit.then Go.Exit.inBlock Done ObxE
def getS (l : List PrS) (k : ByteArray) : ByteArray := ((lastF nmS l k).getD (k, (⟨#[]⟩ : ByteArray))).2
theorem getS_any (l : List PrS) (k : ByteArray) (v : Value) (w0 : World) (hv : SlT l v w0) (hl : l.length ≤ 1000) :
  Calls Tryz.prog 100 #[v, .string k] w0 (Ret fun v w => v = .tuple #[.string (getS l k), .bool (lastF nmS l k).isSome] ∧ St w0 [] w) := by
 have hsl := snap_len nmS l
 have hsr := snap_rises nmS l
 unfold getS
 rw [← snap_last_eq nmS l k]
 refine enter Tryz.func100 rfl Tryz.ntmps100 rfl (fun a hk => ?_);have hS := St.refl w0
 (repeat' (first|((first|refine wx1 ?_|refine wx2 ?_ ?_<;>intro hp|refine s_end hk ?_)<;>(clear hk a;intro a hk))|((first|refine wx3 ?_;intro w b|refine wx4 ?_;intro w|refine wx5 ?_;intro w v);clear hk hS a;intro hS a hk)|refine wx0 ?_|fail))
 refine sg hk (g_callO hk (hf := by kernel_rfl) (hc := ofS_any l v _ (hS.rdT hv) hl) (h := ?_));clear hk a;rintro vs w hS1 a hk;replace hS := hS.call hS1;clear hS1
 generalize snapF nmS l = S at *
 (repeat' (first|((first|refine wx1 ?_|refine wx2 ?_ ?_<;>intro hp|refine s_end hk ?_)<;>(clear hk a;intro a hk))|((first|refine wx3 ?_;intro w b|refine wx4 ?_;intro w|refine wx5 ?_;intro w v);clear hk hS a;intro hS a hk)|refine wx0 ?_|fail))
 refine sg hk (g_callO hk (hf := by kernel_rfl) (hc := whereS_any S k vs _ (by first | exact St.rdT hS (by assumption) | exact OwT.rd (hS.rd (A := OwT _ _ _) atx) | assumption) (by omega) hsr) (h := ?_));clear hk a;rintro vr w ⟨n, f, rfl, hF, hS1⟩ a hk;replace hS := hS.call hS1;clear hS1
 have hlast := found_last nmS hsr hF
 cases f with
 | true =>
  obtain ⟨hn, _⟩ := hF.2.2.2.1 rfl
  rw [if_pos rfl, List.getElem?_eq_getElem hn] at hlast
  rw [hlast]
  (repeat' (first|((first|refine wx1 ?_|refine wx2 ?_ ?_<;>intro hp|refine s_end hk ?_)<;>(clear hk a;intro a hk))|((first|refine wx3 ?_;intro w b|refine wx4 ?_;intro w|refine wx5 ?_;intro w v);clear hk hS a;intro hS a hk)|refine wx0 ?_|fail))
  exact done2 hk (h := ⟨rfl, hS.nil⟩)
 | false =>
  rw [if_neg (by decide)] at hlast
  rw [hlast]
  (repeat' (first|((first|refine wx1 ?_|refine wx2 ?_ ?_<;>intro hp|refine s_end hk ?_)<;>(clear hk a;intro a hk))|((first|refine wx3 ?_;intro w b|refine wx4 ?_;intro w|refine wx5 ?_;intro w v);clear hk hS a;intro hS a hk)|refine wx0 ?_|fail))
  exact done2 hk (h := ⟨rfl, hS.nil⟩)
def getI (l : List PrI) (k : ByteArray) : Int := ((lastF nmI l k).getD (k, (0 : Int))).2
theorem getI_any (l : List PrI) (k : ByteArray) (v : Value) (w0 : World) (hv : SlT l v w0) (hl : l.length ≤ 1000) :
  Calls Tryz.prog 104 #[v, .string k] w0 (Ret fun v w => v = .tuple #[.int .i64 (getI l k), .bool (lastF nmI l k).isSome] ∧ St w0 [] w) := by
 have hsl := snap_len nmI l
 have hsr := snap_rises nmI l
 unfold getI
 rw [← snap_last_eq nmI l k]
 refine enter Tryz.func104 rfl Tryz.ntmps104 rfl (fun a hk => ?_);have hS := St.refl w0
 (repeat' (first|((first|refine wx1 ?_|refine wx2 ?_ ?_<;>intro hp|refine s_end hk ?_)<;>(clear hk a;intro a hk))|((first|refine wx3 ?_;intro w b|refine wx4 ?_;intro w|refine wx5 ?_;intro w v);clear hk hS a;intro hS a hk)|refine wx0 ?_|fail))
 refine sg hk (g_callO hk (hf := by kernel_rfl) (hc := ofI_any l v _ (hS.rdT hv) hl) (h := ?_));clear hk a;rintro vs w hS1 a hk;replace hS := hS.call hS1;clear hS1
 generalize snapF nmI l = S at *
 (repeat' (first|((first|refine wx1 ?_|refine wx2 ?_ ?_<;>intro hp|refine s_end hk ?_)<;>(clear hk a;intro a hk))|((first|refine wx3 ?_;intro w b|refine wx4 ?_;intro w|refine wx5 ?_;intro w v);clear hk hS a;intro hS a hk)|refine wx0 ?_|fail))
 refine sg hk (g_callO hk (hf := by kernel_rfl) (hc := whereI_any S k vs _ (by first | exact St.rdT hS (by assumption) | exact OwT.rd (hS.rd (A := OwT _ _ _) atx) | assumption) (by omega) hsr) (h := ?_));clear hk a;rintro vr w ⟨n, f, rfl, hF, hS1⟩ a hk;replace hS := hS.call hS1;clear hS1
 have hlast := found_last nmI hsr hF
 cases f with
 | true =>
  obtain ⟨hn, _⟩ := hF.2.2.2.1 rfl
  rw [if_pos rfl, List.getElem?_eq_getElem hn] at hlast
  rw [hlast]
  (repeat' (first|((first|refine wx1 ?_|refine wx2 ?_ ?_<;>intro hp|refine s_end hk ?_)<;>(clear hk a;intro a hk))|((first|refine wx3 ?_;intro w b|refine wx4 ?_;intro w|refine wx5 ?_;intro w v);clear hk hS a;intro hS a hk)|refine wx0 ?_|fail))
  exact done2 hk (h := ⟨rfl, hS.nil⟩)
 | false =>
  rw [if_neg (by decide)] at hlast
  rw [hlast]
  (repeat' (first|((first|refine wx1 ?_|refine wx2 ?_ ?_<;>intro hp|refine s_end hk ?_)<;>(clear hk a;intro a hk))|((first|refine wx3 ?_;intro w b|refine wx4 ?_;intro w|refine wx5 ?_;intro w v);clear hk hS a;intro hS a hk)|refine wx0 ?_|fail))
  exact done2 hk (h := ⟨rfl, hS.nil⟩)
set_option maxHeartbeats 1000000 in
theorem idxBI_any (p : PrI → Bool) (s : List PrI) (f : FuncId) (cap : List Value) (v : Value) {B : Bs} {L : List HP} (w : World) (hS : St B L w) (hv : SlT s v w) (hl : s.length ≤ 1000) (hf : callable Tryz.prog f = true)
  (hc : ∀ (x : PrI) (w' : World), St B L w' → Calls Tryz.prog f (.agg (Enc.f x).toArray :: cap).toArray w' (Ret fun v w'' => v = .bool (p x) ∧ St w' [] w'')) :
  Calls Tryz.prog 160 #[v, .func (.func f) #[] cap.toArray] w (Ret fun v w' => ∃ r : Int, v = .int .i64 r ∧ (r = -1 ∧ (∀ i (h : i < s.length), p s[i] = false) ∨ ∃ (k : Nat) (h : k < s.length), r = k ∧ (∀ i (h : i < s.length), i < k → p s[i] = false) ∧ p s[k] = true) ∧ St w [] w') := by
 have hS0 := hS
 clear hS
 refine enter Tryz.func160 rfl Tryz.ntmps160 rfl (fun a hk => ?_)
 have hS := St.refl w
 have hw0 : w = w := rfl
 (repeat' (first|((first|refine wx1 ?_|refine wx2 ?_ ?_<;>intro hp|refine s_end hk ?_)<;>(clear hk a;intro a hk))|((first|refine wx3 ?_;intro w b|refine wx4 ?_;intro w|refine wx5 ?_;intro w v);clear hk hS a;intro hS a hk)|refine wx0 ?_|fail))
 replace hk := Kn.kp [0, 1, 7, 8] hk
 refine wp_for s.length (fun i _ => [(8, .int .i64 (i : Int))]) (fun _ _ => []) (fun i _ => ∀ j (h : j < s.length), j < i → p s[j] = false) () hk skx hS (fun j h hj => by omega) ?_
 clear hk hS a
 rintro i - a w1 hi hk hS hF
 by_cases hil : i < s.length
 ·(repeat' (first|((first|refine wx1 ?_|refine wx2 ?_ ?_<;>intro hp|refine s_end hk ?_)<;>(clear hk a;intro a hk))|((first|refine wx3 ?_;intro w b|refine wx4 ?_;intro w|refine wx5 ?_;intro w v);clear hk hS a;intro hS a hk)|refine wx0 ?_|fail))
  refine sg hk (g_callvO (first := []) (cap := cap) hk (hf := hf) (hc := hc _ _ (hS0.call hS)) (h := ?_));clear hk a;rintro _ w2 ⟨rfl, hS1⟩ a hk;replace hS := hS.call0 hS1;clear hS1
  cases hp : p s[i] with
  | true =>
   rw [hp] at hk
   (repeat' (first|((first|refine wx1 ?_|refine wx2 ?_ ?_<;>intro hp|refine s_end hk ?_)<;>(clear hk a;intro a hk))|((first|refine wx3 ?_;intro w b|refine wx4 ?_;intro w|refine wx5 ?_;intro w v);clear hk hS a;intro hS a hk)|refine wx0 ?_|fail))
   exact done1 hk (h := ⟨i, rfl, .inr ⟨i, hil, rfl, hF, hp⟩, hS.nil⟩)
  | false =>
   rw [hp] at hk
   (repeat' (first|((first|refine wx1 ?_|refine wx2 ?_ ?_<;>intro hp|refine s_end hk ?_)<;>(clear hk a;intro a hk))|((first|refine wx3 ?_;intro w b|refine wx4 ?_;intro w|refine wx5 ?_;intro w v);clear hk hS a;intro hS a hk)|refine wx0 ?_|fail))
   refine ⟨hil, (), hk.sd, hS, fun j h hj => ?_⟩
   by_cases e : j = i
   ·subst e;exact hp
   ·exact hF j h (by omega)
 ·(repeat' (first|((first|refine wx1 ?_|refine wx2 ?_ ?_<;>intro hp|refine s_end hk ?_)<;>(clear hk a;intro a hk))|((first|refine wx3 ?_;intro w b|refine wx4 ?_;intro w|refine wx5 ?_;intro w v);clear hk hS a;intro hS a hk)|refine wx0 ?_|fail))
  exact done1 hk (h := ⟨-1, rfl, .inl ⟨rfl, fun i h => hF i h (by omega)⟩, hS.nil⟩)
set_option maxHeartbeats 2000000 in
theorem delI_any (p : PrI → Bool) {s : List PrI} (f : FuncId) (cap : List Value) {v : Value} {B : Bs} {L : List HP} {w : World} (hS : St B (OwT 100 s v :: L) w) (hl : s.length ≤ 1000) (hf : callable Tryz.prog f = true)
  (hc : ∀ (x : PrI) (w' : World), St B L w' → Calls Tryz.prog f (.agg (Enc.f x).toArray :: cap).toArray w' (Ret fun v w'' => v = .bool (p x) ∧ St w' [] w'')) :
  Calls Tryz.prog 146 #[v, .func (.func f) #[] cap.toArray] w (Ret fun v' w' => St B (OwT 100 (s.filter (fun x => !p x)) v' :: L) w') := by
 refine enter Tryz.func146 rfl Tryz.ntmps146 rfl (fun a hk => ?_)
 (repeat' (first|((first|refine wx1 ?_|refine wx2 ?_ ?_<;>intro hp|refine s_end hk ?_)<;>(clear hk a;intro a hk))|((first|refine wx3 ?_;intro w b|refine wx4 ?_;intro w|refine wx5 ?_;intro w v);clear hk hS a;intro hS a hk)|refine wx0 ?_|fail))
 refine sg hk (g_callO hk (hf := by kernel_rfl) (hc := idxBI_any p s f cap v _ (hS.sub Sub.cons_drop) (by first | exact St.rdT hS (by assumption) | exact OwT.rd (hS.rd (A := OwT _ _ _) atx) | assumption) hl hf hc) (h := ?_));clear hk a;rintro vr w ⟨r, rfl, hr, hS1⟩ a hk;replace hS := hS.call hS1;clear hS1
 rcases hr with ⟨rfl, hn⟩ | ⟨k, hk0, rfl, hn, hp⟩
 ·(repeat' (first|((first|refine wx1 ?_|refine wx2 ?_ ?_<;>intro hp|refine s_end hk ?_)<;>(clear hk a;intro a hk))|((first|refine wx3 ?_;intro w b|refine wx4 ?_;intro w|refine wx5 ?_;intro w v);clear hk hS a;intro hS a hk)|refine wx0 ?_|fail))
  rw [filter_none p hn]
  exact done1 hk (h := hS)
 ·(repeat' (first|((first|refine wx1 ?_|refine wx2 ?_ ?_<;>intro hp|refine s_end hk ?_)<;>(clear hk a;intro a hk))|((first|refine wx3 ?_;intro w b|refine wx4 ?_;intro w|refine wx5 ?_;intro w v);clear hk hS a;intro hS a hk)|refine wx0 ?_|fail))
  replace hk := Kn.kp [0, 1, 5, 6] hk
  refine wp_while (fun x : Nat × Nat × List PrI => [(5, .int .i64 (x.1 : Int)), (6, .int .i64 (x.2.1 : Int))]) (fun x => OwT 100 x.2.2 v :: L) (fun x => Sieve p s x.2.2 x.1 x.2.1 ∧ x.2.1 ≤ s.length) (fun x => s.length - x.2.1) (k, k + 1, s) hk skx hS ⟨Sieve.start p hk0 hn hp, hk0⟩ ?_
  clear hk hS a hn hp
  rintro ⟨i, j, ys⟩ a w hk hS ⟨hF, hj⟩
  simp only at hk hS hF hj
  have hyl := hF.len
  have hij := hF.le
  by_cases hjl : j < s.length
  ·have hget := hF.get p hjl
   (repeat' (first|((first|refine wx1 ?_|refine wx2 ?_ ?_<;>intro hp|refine s_end hk ?_)<;>(clear hk a;intro a hk))|((first|refine wx3 ?_;intro w b|refine wx4 ?_;intro w|refine wx5 ?_;intro w v);clear hk hS a;intro hS a hk)|refine wx0 ?_|fail))
   refine sg hk (g_callvO (first := []) (cap := cap) hk (hf := hf) (hc := hc s[j] _ (hS.sub (Sub.under Sub.cons_drop))) (h := ?_));clear hk a;rintro _ w2 ⟨rfl, hS1⟩ a hk;replace hS := hS.call0 hS1;clear hS1
   cases hp : p s[j] with
   | true =>
    rw [hp] at hk
    (repeat' (first|((first|refine wx1 ?_|refine wx2 ?_ ?_<;>intro hp|refine s_end hk ?_)<;>(clear hk a;intro a hk))|((first|refine wx3 ?_;intro w b|refine wx4 ?_;intro w|refine wx5 ?_;intro w v);clear hk hS a;intro hS a hk)|refine wx0 ?_|fail))
    exact ⟨(i, j + 1, ys), by simp only;omega, hk.subD (by (repeat (first | exact trivial | refine ⟨rfl, ?_⟩ | refine ⟨trivial, ?_⟩));fail_if_success focus skip), hS.sub Sub.cons_drop, hF.drop_ p hjl hp, hjl⟩
   | false =>
    rw [hp] at hk
    (repeat' (first|((first|refine wx1 ?_|refine wx2 ?_ ?_<;>intro hp|refine s_end hk ?_)<;>(clear hk a;intro a hk))|((first|refine wx3 ?_;intro w b|refine wx4 ?_;intro w|refine wx5 ?_;intro w v);clear hk hS a;intro hS a hk)|refine wx0 ?_|fail))
    refine su hk (g_stT (xs := ys) (z := s[j]) hk hS ?_ (hsz := zT rfl) (hi := by omega))
    clear hk hS a
    intro w hS a hk
    (repeat' (first|((first|refine wx1 ?_|refine wx2 ?_ ?_<;>intro hp|refine s_end hk ?_)<;>(clear hk a;intro a hk))|((first|refine wx3 ?_;intro w b|refine wx4 ?_;intro w|refine wx5 ?_;intro w v);clear hk hS a;intro hS a hk)|refine wx0 ?_|fail))
    exact ⟨(i + 1, j + 1, ys.set i s[j]), by simp only;omega, hk.subD (by (repeat (first | exact trivial | refine ⟨rfl, ?_⟩ | refine ⟨trivial, ?_⟩));fail_if_success focus skip), hS.sub (.cons .here (Sub.under .refl)), hF.keep p hjl hp, hjl⟩
  ·have hje : j = s.length := by omega
   subst hje
   have hhd := hF.head
   rw [List.take_length] at hhd
   (repeat' (first|((first|refine wx1 ?_|refine wx2 ?_ ?_<;>intro hp|refine s_end hk ?_)<;>(clear hk a;intro a hk))|((first|refine wx3 ?_;intro w b|refine wx4 ?_;intro w|refine wx5 ?_;intro w v);clear hk hS a;intro hS a hk)|refine wx0 ?_|fail))
   obtain ⟨b, off, c, rfl, _, _⟩ := hS.ownCells (E := 100) (xs := ys) At.here (by intro h;subst h;simp at hyl;omega)
   obtain ⟨vs, hS1, hvl, hnc, hcm, hcl, hvs⟩ := hS.ownPts At.here
   replace hS := hS1
   clear hS1
   have e1 : ys.length * (Enc.k PrI + 1) = i * (Enc.k PrI + 1) + (ys.length - i) * (Enc.k PrI + 1) := by rw [← Nat.add_mul];congr 1;omega
   have e2 : ys.length * (Enc.k PrI + 1) ≤ c * (Enc.k PrI + 1) := Nat.mul_le_mul_right _ hnc
   refine sg hk (g_slFc i (k := Enc.k PrI) hk ?_ (ht := eT rfl) (hE := zT rfl) (hp := rfl) (him := by omega) (hc := by omega));clear hk a;intro a hk
   refine su hk (g_clear (k := Enc.k PrI) hk hS ?_ (ht := eT rfl) (hz := oT rfl) (hzs := rfl) (hz1 := by decide) (hfit := by omega))
   clear hk hS a
   intro w zs hzl hS a hk
   (repeat' (first|((first|refine wx1 ?_|refine wx2 ?_ ?_<;>intro hp|refine s_end hk ?_)<;>(clear hk a;intro a hk))|((first|refine wx3 ?_;intro w b|refine wx4 ?_;intro w|refine wx5 ?_;intro w v);clear hk hS a;intro hS a hk)|refine wx0 ?_|fail))
   refine sg hk (g_slTc i (k := Enc.k PrI) hk ?_ (ht := eT rfl) (hE := zT rfl) (hp := rfl) (hj := by omega));clear hk a;intro a hk
   (repeat' (first|((first|refine wx1 ?_|refine wx2 ?_ ?_<;>intro hp|refine s_end hk ?_)<;>(clear hk a;intro a hk))|((first|refine wx3 ?_;intro w b|refine wx4 ?_;intro w|refine wx5 ?_;intro w v);clear hk hS a;intro hS a hk)|refine wx0 ?_|fail))
   have hF2 := hS.toTake (ys := ys) At.here (by omega) hnc hcm hvl hzl hvs
   rw [hhd] at hF2
   exact done1 hk (h := hF2)
theorem butI_any (p : PrI → Bool) (l : List PrI) (f : FuncId) (cap : List Value) (v : Value) (w0 : World) (hv : SlT l v w0) (hl : l.length ≤ 1000) (hf : callable Tryz.prog f = true)
  (hc : ∀ (x : PrI) (w' : World), Below w0.heap.size w0 w' → Calls Tryz.prog f (.agg (Enc.f x).toArray :: cap).toArray w' (Ret fun v w'' => v = .bool (p x) ∧ St w' [] w'')) :
  Calls Tryz.prog 125 #[v, .func (.func f) #[] cap.toArray] w0 (Ret fun v w => St w0 [OwT 100 ((snapF nmI l).filter (fun x => !p x)) v] w) := by
 have hsl := snap_len nmI l
 refine enter Tryz.func125 rfl Tryz.ntmps125 rfl (fun a hk => ?_);have hS := St.refl w0
 (repeat' (first|((first|refine wx1 ?_|refine wx2 ?_ ?_<;>intro hp|refine s_end hk ?_)<;>(clear hk a;intro a hk))|((first|refine wx3 ?_;intro w b|refine wx4 ?_;intro w|refine wx5 ?_;intro w v);clear hk hS a;intro hS a hk)|refine wx0 ?_|fail))
 refine sg hk (g_callO hk (hf := by kernel_rfl) (hc := ofI_any l v _ (hS.rdT hv) hl) (h := ?_));clear hk a;rintro vs w hS1 a hk;replace hS := hS.call hS1;clear hS1
 (repeat' (first|((first|refine wx1 ?_|refine wx2 ?_ ?_<;>intro hp|refine s_end hk ?_)<;>(clear hk a;intro a hk))|((first|refine wx3 ?_;intro w b|refine wx4 ?_;intro w|refine wx5 ?_;intro w v);clear hk hS a;intro hS a hk)|refine wx0 ?_|fail))
 refine sg hk (g_callO hk (hf := by kernel_rfl) (hc := delI_any p f cap (L := []) (hS.sub (by (repeat (first | exact Sub.nil | exact Sub.refl | refine Sub.cons atx ?_)))) (by omega) hf (fun x w' h => hc x w' h.below)) (h := ?_));clear hk hS a;intro vr w hS a hk
 (repeat' (first|((first|refine wx1 ?_|refine wx2 ?_ ?_<;>intro hp|refine s_end hk ?_)<;>(clear hk a;intro a hk))|((first|refine wx3 ?_;intro w b|refine wx4 ?_;intro w|refine wx5 ?_;intro w v);clear hk hS a;intro hS a hk)|refine wx0 ?_|fail))
 exact done1 hk (h := hS.sb)
set_option maxHeartbeats 1000000 in
theorem idxBS_any (p : PrS → Bool) (s : List PrS) (f : FuncId) (cap : List Value) (v : Value) {B : Bs} {L : List HP} (w : World) (hS : St B L w) (hv : SlT s v w) (hl : s.length ≤ 1000) (hf : callable Tryz.prog f = true)
  (hc : ∀ (x : PrS) (w' : World), St B L w' → Calls Tryz.prog f (.agg (Enc.f x).toArray :: cap).toArray w' (Ret fun v w'' => v = .bool (p x) ∧ St w' [] w'')) :
  Calls Tryz.prog 159 #[v, .func (.func f) #[] cap.toArray] w (Ret fun v w' => ∃ r : Int, v = .int .i64 r ∧ (r = -1 ∧ (∀ i (h : i < s.length), p s[i] = false) ∨ ∃ (k : Nat) (h : k < s.length), r = k ∧ (∀ i (h : i < s.length), i < k → p s[i] = false) ∧ p s[k] = true) ∧ St w [] w') := by
 have hS0 := hS
 clear hS
 refine enter Tryz.func159 rfl Tryz.ntmps159 rfl (fun a hk => ?_)
 have hS := St.refl w
 have hw0 : w = w := rfl
 (repeat' (first|((first|refine wx1 ?_|refine wx2 ?_ ?_<;>intro hp|refine s_end hk ?_)<;>(clear hk a;intro a hk))|((first|refine wx3 ?_;intro w b|refine wx4 ?_;intro w|refine wx5 ?_;intro w v);clear hk hS a;intro hS a hk)|refine wx0 ?_|fail))
 replace hk := Kn.kp [0, 1, 7, 8] hk
 refine wp_for s.length (fun i _ => [(8, .int .i64 (i : Int))]) (fun _ _ => []) (fun i _ => ∀ j (h : j < s.length), j < i → p s[j] = false) () hk skx hS (fun j h hj => by omega) ?_
 clear hk hS a
 rintro i - a w1 hi hk hS hF
 by_cases hil : i < s.length
 ·(repeat' (first|((first|refine wx1 ?_|refine wx2 ?_ ?_<;>intro hp|refine s_end hk ?_)<;>(clear hk a;intro a hk))|((first|refine wx3 ?_;intro w b|refine wx4 ?_;intro w|refine wx5 ?_;intro w v);clear hk hS a;intro hS a hk)|refine wx0 ?_|fail))
  refine sg hk (g_callvO (first := []) (cap := cap) hk (hf := hf) (hc := hc _ _ (hS0.call hS)) (h := ?_));clear hk a;rintro _ w2 ⟨rfl, hS1⟩ a hk;replace hS := hS.call0 hS1;clear hS1
  cases hp : p s[i] with
  | true =>
   rw [hp] at hk
   (repeat' (first|((first|refine wx1 ?_|refine wx2 ?_ ?_<;>intro hp|refine s_end hk ?_)<;>(clear hk a;intro a hk))|((first|refine wx3 ?_;intro w b|refine wx4 ?_;intro w|refine wx5 ?_;intro w v);clear hk hS a;intro hS a hk)|refine wx0 ?_|fail))
   exact done1 hk (h := ⟨i, rfl, .inr ⟨i, hil, rfl, hF, hp⟩, hS.nil⟩)
  | false =>
   rw [hp] at hk
   (repeat' (first|((first|refine wx1 ?_|refine wx2 ?_ ?_<;>intro hp|refine s_end hk ?_)<;>(clear hk a;intro a hk))|((first|refine wx3 ?_;intro w b|refine wx4 ?_;intro w|refine wx5 ?_;intro w v);clear hk hS a;intro hS a hk)|refine wx0 ?_|fail))
   refine ⟨hil, (), hk.sd, hS, fun j h hj => ?_⟩
   by_cases e : j = i
   ·subst e;exact hp
   ·exact hF j h (by omega)
 ·(repeat' (first|((first|refine wx1 ?_|refine wx2 ?_ ?_<;>intro hp|refine s_end hk ?_)<;>(clear hk a;intro a hk))|((first|refine wx3 ?_;intro w b|refine wx4 ?_;intro w|refine wx5 ?_;intro w v);clear hk hS a;intro hS a hk)|refine wx0 ?_|fail))
  exact done1 hk (h := ⟨-1, rfl, .inl ⟨rfl, fun i h => hF i h (by omega)⟩, hS.nil⟩)
set_option maxHeartbeats 2000000 in
theorem delS_any (p : PrS → Bool) {s : List PrS} (f : FuncId) (cap : List Value) {v : Value} {B : Bs} {L : List HP} {w : World} (hS : St B (OwT 98 s v :: L) w) (hl : s.length ≤ 1000) (hf : callable Tryz.prog f = true)
  (hc : ∀ (x : PrS) (w' : World), St B L w' → Calls Tryz.prog f (.agg (Enc.f x).toArray :: cap).toArray w' (Ret fun v w'' => v = .bool (p x) ∧ St w' [] w'')) :
  Calls Tryz.prog 143 #[v, .func (.func f) #[] cap.toArray] w (Ret fun v' w' => St B (OwT 98 (s.filter (fun x => !p x)) v' :: L) w') := by
 refine enter Tryz.func143 rfl Tryz.ntmps143 rfl (fun a hk => ?_)
 (repeat' (first|((first|refine wx1 ?_|refine wx2 ?_ ?_<;>intro hp|refine s_end hk ?_)<;>(clear hk a;intro a hk))|((first|refine wx3 ?_;intro w b|refine wx4 ?_;intro w|refine wx5 ?_;intro w v);clear hk hS a;intro hS a hk)|refine wx0 ?_|fail))
 refine sg hk (g_callO hk (hf := by kernel_rfl) (hc := idxBS_any p s f cap v _ (hS.sub Sub.cons_drop) (by first | exact St.rdT hS (by assumption) | exact OwT.rd (hS.rd (A := OwT _ _ _) atx) | assumption) hl hf hc) (h := ?_));clear hk a;rintro vr w ⟨r, rfl, hr, hS1⟩ a hk;replace hS := hS.call hS1;clear hS1
 rcases hr with ⟨rfl, hn⟩ | ⟨k, hk0, rfl, hn, hp⟩
 ·(repeat' (first|((first|refine wx1 ?_|refine wx2 ?_ ?_<;>intro hp|refine s_end hk ?_)<;>(clear hk a;intro a hk))|((first|refine wx3 ?_;intro w b|refine wx4 ?_;intro w|refine wx5 ?_;intro w v);clear hk hS a;intro hS a hk)|refine wx0 ?_|fail))
  rw [filter_none p hn]
  exact done1 hk (h := hS)
 ·(repeat' (first|((first|refine wx1 ?_|refine wx2 ?_ ?_<;>intro hp|refine s_end hk ?_)<;>(clear hk a;intro a hk))|((first|refine wx3 ?_;intro w b|refine wx4 ?_;intro w|refine wx5 ?_;intro w v);clear hk hS a;intro hS a hk)|refine wx0 ?_|fail))
  replace hk := Kn.kp [0, 1, 5, 6] hk
  refine wp_while (fun x : Nat × Nat × List PrS => [(5, .int .i64 (x.1 : Int)), (6, .int .i64 (x.2.1 : Int))]) (fun x => OwT 98 x.2.2 v :: L) (fun x => Sieve p s x.2.2 x.1 x.2.1 ∧ x.2.1 ≤ s.length) (fun x => s.length - x.2.1) (k, k + 1, s) hk skx hS ⟨Sieve.start p hk0 hn hp, hk0⟩ ?_
  clear hk hS a hn hp
  rintro ⟨i, j, ys⟩ a w hk hS ⟨hF, hj⟩
  simp only at hk hS hF hj
  have hyl := hF.len
  have hij := hF.le
  by_cases hjl : j < s.length
  ·have hget := hF.get p hjl
   (repeat' (first|((first|refine wx1 ?_|refine wx2 ?_ ?_<;>intro hp|refine s_end hk ?_)<;>(clear hk a;intro a hk))|((first|refine wx3 ?_;intro w b|refine wx4 ?_;intro w|refine wx5 ?_;intro w v);clear hk hS a;intro hS a hk)|refine wx0 ?_|fail))
   refine sg hk (g_callvO (first := []) (cap := cap) hk (hf := hf) (hc := hc s[j] _ (hS.sub (Sub.under Sub.cons_drop))) (h := ?_));clear hk a;rintro _ w2 ⟨rfl, hS1⟩ a hk;replace hS := hS.call0 hS1;clear hS1
   cases hp : p s[j] with
   | true =>
    rw [hp] at hk
    (repeat' (first|((first|refine wx1 ?_|refine wx2 ?_ ?_<;>intro hp|refine s_end hk ?_)<;>(clear hk a;intro a hk))|((first|refine wx3 ?_;intro w b|refine wx4 ?_;intro w|refine wx5 ?_;intro w v);clear hk hS a;intro hS a hk)|refine wx0 ?_|fail))
    exact ⟨(i, j + 1, ys), by simp only;omega, hk.subD (by (repeat (first | exact trivial | refine ⟨rfl, ?_⟩ | refine ⟨trivial, ?_⟩));fail_if_success focus skip), hS.sub Sub.cons_drop, hF.drop_ p hjl hp, hjl⟩
   | false =>
    rw [hp] at hk
    (repeat' (first|((first|refine wx1 ?_|refine wx2 ?_ ?_<;>intro hp|refine s_end hk ?_)<;>(clear hk a;intro a hk))|((first|refine wx3 ?_;intro w b|refine wx4 ?_;intro w|refine wx5 ?_;intro w v);clear hk hS a;intro hS a hk)|refine wx0 ?_|fail))
    refine su hk (g_stT (xs := ys) (z := s[j]) hk hS ?_ (hsz := zT rfl) (hi := by omega))
    clear hk hS a
    intro w hS a hk
    (repeat' (first|((first|refine wx1 ?_|refine wx2 ?_ ?_<;>intro hp|refine s_end hk ?_)<;>(clear hk a;intro a hk))|((first|refine wx3 ?_;intro w b|refine wx4 ?_;intro w|refine wx5 ?_;intro w v);clear hk hS a;intro hS a hk)|refine wx0 ?_|fail))
    exact ⟨(i + 1, j + 1, ys.set i s[j]), by simp only;omega, hk.subD (by (repeat (first | exact trivial | refine ⟨rfl, ?_⟩ | refine ⟨trivial, ?_⟩));fail_if_success focus skip), hS.sub (.cons .here (Sub.under .refl)), hF.keep p hjl hp, hjl⟩
  ·have hje : j = s.length := by omega
   subst hje
   have hhd := hF.head
   rw [List.take_length] at hhd
   (repeat' (first|((first|refine wx1 ?_|refine wx2 ?_ ?_<;>intro hp|refine s_end hk ?_)<;>(clear hk a;intro a hk))|((first|refine wx3 ?_;intro w b|refine wx4 ?_;intro w|refine wx5 ?_;intro w v);clear hk hS a;intro hS a hk)|refine wx0 ?_|fail))
   obtain ⟨b, off, c, rfl, _, _⟩ := hS.ownCells (E := 98) (xs := ys) At.here (by intro h;subst h;simp at hyl;omega)
   obtain ⟨vs, hS1, hvl, hnc, hcm, hcl, hvs⟩ := hS.ownPts At.here
   replace hS := hS1
   clear hS1
   have e1 : ys.length * (Enc.k PrS + 1) = i * (Enc.k PrS + 1) + (ys.length - i) * (Enc.k PrS + 1) := by rw [← Nat.add_mul];congr 1;omega
   have e2 : ys.length * (Enc.k PrS + 1) ≤ c * (Enc.k PrS + 1) := Nat.mul_le_mul_right _ hnc
   refine sg hk (g_slFc i (k := Enc.k PrS) hk ?_ (ht := eT rfl) (hE := zT rfl) (hp := rfl) (him := by omega) (hc := by omega));clear hk a;intro a hk
   refine su hk (g_clear (k := Enc.k PrS) hk hS ?_ (ht := eT rfl) (hz := oT rfl) (hzs := rfl) (hz1 := by decide) (hfit := by omega))
   clear hk hS a
   intro w zs hzl hS a hk
   (repeat' (first|((first|refine wx1 ?_|refine wx2 ?_ ?_<;>intro hp|refine s_end hk ?_)<;>(clear hk a;intro a hk))|((first|refine wx3 ?_;intro w b|refine wx4 ?_;intro w|refine wx5 ?_;intro w v);clear hk hS a;intro hS a hk)|refine wx0 ?_|fail))
   refine sg hk (g_slTc i (k := Enc.k PrS) hk ?_ (ht := eT rfl) (hE := zT rfl) (hp := rfl) (hj := by omega));clear hk a;intro a hk
   (repeat' (first|((first|refine wx1 ?_|refine wx2 ?_ ?_<;>intro hp|refine s_end hk ?_)<;>(clear hk a;intro a hk))|((first|refine wx3 ?_;intro w b|refine wx4 ?_;intro w|refine wx5 ?_;intro w v);clear hk hS a;intro hS a hk)|refine wx0 ?_|fail))
   have hF2 := hS.toTake (ys := ys) At.here (by omega) hnc hcm hvl hzl hvs
   rw [hhd] at hF2
   exact done1 hk (h := hF2)
theorem butS_any (p : PrS → Bool) (l : List PrS) (f : FuncId) (cap : List Value) (v : Value) (w0 : World) (hv : SlT l v w0) (hl : l.length ≤ 1000) (hf : callable Tryz.prog f = true)
  (hc : ∀ (x : PrS) (w' : World), Below w0.heap.size w0 w' → Calls Tryz.prog f (.agg (Enc.f x).toArray :: cap).toArray w' (Ret fun v w'' => v = .bool (p x) ∧ St w' [] w'')) :
  Calls Tryz.prog 122 #[v, .func (.func f) #[] cap.toArray] w0 (Ret fun v w => St w0 [OwT 98 ((snapF nmS l).filter (fun x => !p x)) v] w) := by
 have hsl := snap_len nmS l
 refine enter Tryz.func122 rfl Tryz.ntmps122 rfl (fun a hk => ?_);have hS := St.refl w0
 (repeat' (first|((first|refine wx1 ?_|refine wx2 ?_ ?_<;>intro hp|refine s_end hk ?_)<;>(clear hk a;intro a hk))|((first|refine wx3 ?_;intro w b|refine wx4 ?_;intro w|refine wx5 ?_;intro w v);clear hk hS a;intro hS a hk)|refine wx0 ?_|fail))
 refine sg hk (g_callO hk (hf := by kernel_rfl) (hc := ofS_any l v _ (hS.rdT hv) hl) (h := ?_));clear hk a;rintro vs w hS1 a hk;replace hS := hS.call hS1;clear hS1
 (repeat' (first|((first|refine wx1 ?_|refine wx2 ?_ ?_<;>intro hp|refine s_end hk ?_)<;>(clear hk a;intro a hk))|((first|refine wx3 ?_;intro w b|refine wx4 ?_;intro w|refine wx5 ?_;intro w v);clear hk hS a;intro hS a hk)|refine wx0 ?_|fail))
 refine sg hk (g_callO hk (hf := by kernel_rfl) (hc := delS_any p f cap (L := []) (hS.sub (by (repeat (first | exact Sub.nil | exact Sub.refl | refine Sub.cons atx ?_)))) (by omega) hf (fun x w' h => hc x w' h.below)) (h := ?_));clear hk hS a;intro vr w hS a hk
 (repeat' (first|((first|refine wx1 ?_|refine wx2 ?_ ?_<;>intro hp|refine s_end hk ?_)<;>(clear hk a;intro a hk))|((first|refine wx3 ?_;intro w b|refine wx4 ?_;intro w|refine wx5 ?_;intro w v);clear hk hS a;intro hS a hk)|refine wx0 ?_|fail))
 exact done1 hk (h := hS.sb)
def dropS (l : List PrS) (k : ByteArray) : List PrS := (snapF nmS l).filter (fun x => !decide (x.1 = k))
theorem dropS_any (l : List PrS) (k : ByteArray) (v : Value) (w0 : World) (hv : SlT l v w0) (hl : l.length ≤ 1000) :
  Calls Tryz.prog 101 #[v, .string k] w0 (Ret fun v w => St w0 [OwT 98 (dropS l k) v] w) := by
 have one : ∀ (x : PrS) (b : Nat) (w0 : World), (pts b [.string k] 9).rd w0 → Calls Tryz.prog 123 #[.agg (Enc.f x).toArray, .pointer (some ⟨b, 0, none⟩)] w0 (Ret fun v w' => v = .bool (decide (x.1 = k)) ∧ St w0 [] w') := by
  rintro ⟨n, x⟩ b w0 hb
  refine enter Tryz.func123 rfl Tryz.ntmps123 rfl (fun a hk => ?_);have hS := St.refl w0
  (repeat' (first|((first|refine wx1 ?_|refine wx2 ?_ ?_<;>intro hp|refine s_end hk ?_)<;>(clear hk a;intro a hk))|((first|refine wx3 ?_;intro w b|refine wx4 ?_;intro w|refine wx5 ?_;intro w v);clear hk hS a;intro hS a hk)|refine wx0 ?_|fail))
  ·exact done1 hk (h := ⟨by rw [decide_eq_true (by assumption)], hS.nil⟩)
  ·exact done1 hk (h := ⟨by rw [decide_eq_false (by assumption)], hS.nil⟩)
 refine enter Tryz.func101 rfl Tryz.ntmps101 rfl (fun a hk => ?_);have hS := St.refl w0
 (repeat' (first|((first|refine wx1 ?_|refine wx2 ?_ ?_<;>intro hp|refine s_end hk ?_)<;>(clear hk a;intro a hk))|((first|refine wx3 ?_;intro w b|refine wx4 ?_;intro w|refine wx5 ?_;intro w v);clear hk hS a;intro hS a hk)|refine wx0 ?_|fail))
 refine sg hk (g_callO hk (hf := by kernel_rfl) (hc := butS_any (fun x => decide (x.1 = k)) l 123 [.pointer (some ⟨b, 0, none⟩)] v _ (hS.rdT hv) hl (by kernel_rfl) (fun x w' h => one x b w' ((hS.rd (A := pts b [.string k] 9) atx).mono h))) (h := ?_));clear hk a;rintro vr w hS1 a hk;replace hS := hS.call hS1;clear hS1
 (repeat' (first|((first|refine wx1 ?_|refine wx2 ?_ ?_<;>intro hp|refine s_end hk ?_)<;>(clear hk a;intro a hk))|((first|refine wx3 ?_;intro w b|refine wx4 ?_;intro w|refine wx5 ?_;intro w v);clear hk hS a;intro hS a hk)|refine wx0 ?_|fail))
 exact done1 hk (h := hS.sb)
def dropI (l : List PrI) (k : ByteArray) : List PrI := (snapF nmI l).filter (fun x => !decide (x.1 = k))
theorem dropI_any (l : List PrI) (k : ByteArray) (v : Value) (w0 : World) (hv : SlT l v w0) (hl : l.length ≤ 1000) :
  Calls Tryz.prog 105 #[v, .string k] w0 (Ret fun v w => St w0 [OwT 100 (dropI l k) v] w) := by
 have one : ∀ (x : PrI) (b : Nat) (w0 : World), (pts b [.string k] 9).rd w0 → Calls Tryz.prog 126 #[.agg (Enc.f x).toArray, .pointer (some ⟨b, 0, none⟩)] w0 (Ret fun v w' => v = .bool (decide (x.1 = k)) ∧ St w0 [] w') := by
  rintro ⟨n, x⟩ b w0 hb
  refine enter Tryz.func126 rfl Tryz.ntmps126 rfl (fun a hk => ?_);have hS := St.refl w0
  (repeat' (first|((first|refine wx1 ?_|refine wx2 ?_ ?_<;>intro hp|refine s_end hk ?_)<;>(clear hk a;intro a hk))|((first|refine wx3 ?_;intro w b|refine wx4 ?_;intro w|refine wx5 ?_;intro w v);clear hk hS a;intro hS a hk)|refine wx0 ?_|fail))
  ·exact done1 hk (h := ⟨by rw [decide_eq_true (by assumption)], hS.nil⟩)
  ·exact done1 hk (h := ⟨by rw [decide_eq_false (by assumption)], hS.nil⟩)
 refine enter Tryz.func105 rfl Tryz.ntmps105 rfl (fun a hk => ?_);have hS := St.refl w0
 (repeat' (first|((first|refine wx1 ?_|refine wx2 ?_ ?_<;>intro hp|refine s_end hk ?_)<;>(clear hk a;intro a hk))|((first|refine wx3 ?_;intro w b|refine wx4 ?_;intro w|refine wx5 ?_;intro w v);clear hk hS a;intro hS a hk)|refine wx0 ?_|fail))
 refine sg hk (g_callO hk (hf := by kernel_rfl) (hc := butI_any (fun x => decide (x.1 = k)) l 126 [.pointer (some ⟨b, 0, none⟩)] v _ (hS.rdT hv) hl (by kernel_rfl) (fun x w' h => one x b w' ((hS.rd (A := pts b [.string k] 9) atx).mono h))) (h := ?_));clear hk a;rintro vr w hS1 a hk;replace hS := hS.call hS1;clear hS1
 (repeat' (first|((first|refine wx1 ?_|refine wx2 ?_ ?_<;>intro hp|refine s_end hk ?_)<;>(clear hk a;intro a hk))|((first|refine wx3 ?_;intro w b|refine wx4 ?_;intro w|refine wx5 ?_;intro w v);clear hk hS a;intro hS a hk)|refine wx0 ?_|fail))
 exact done1 hk (h := hS.sb)
set_option maxHeartbeats 1000000 in
theorem idxC_any (p : ByteArray → Bool) (s : List ByteArray) (f : FuncId) (cap : List Value) (v : Value) {B : Bs} {L : List HP} (w : World) (hS : St B L w) (hv : SlT s v w) (hl : s.length ≤ 1000) (hf : callable Tryz.prog f = true)
  (hc : ∀ (x : ByteArray) (w' : World), x ∈ s → St B L w' → Calls Tryz.prog f (.string x :: cap).toArray w' (Ret fun v w'' => v = .bool (p x) ∧ St w' [] w'')) :
  Calls Tryz.prog 161 #[v, .func (.func f) #[] cap.toArray] w (Ret fun v w' => ∃ r : Int, v = .int .i64 r ∧ (r = -1 ∧ (∀ i (h : i < s.length), p s[i] = false) ∨ ∃ (k : Nat) (h : k < s.length), r = k ∧ (∀ i (h : i < s.length), i < k → p s[i] = false) ∧ p s[k] = true) ∧ St w [] w') := by
 have hS0 := hS
 clear hS
 refine enter Tryz.func161 rfl Tryz.ntmps161 rfl (fun a hk => ?_)
 have hS := St.refl w
 have hw0 : w = w := rfl
 (repeat' (first|((first|refine wx1 ?_|refine wx2 ?_ ?_<;>intro hp|refine s_end hk ?_)<;>(clear hk a;intro a hk))|((first|refine wx3 ?_;intro w b|refine wx4 ?_;intro w|refine wx5 ?_;intro w v);clear hk hS a;intro hS a hk)|refine wx0 ?_|fail))
 replace hk := Kn.kp [0, 1, 7, 8] hk
 refine wp_for s.length (fun i _ => [(8, .int .i64 (i : Int))]) (fun _ _ => []) (fun i _ => ∀ j (h : j < s.length), j < i → p s[j] = false) () hk skx hS (fun j h hj => by omega) ?_
 clear hk hS a
 rintro i - a w1 hi hk hS hF
 by_cases hil : i < s.length
 ·(repeat' (first|((first|refine wx1 ?_|refine wx2 ?_ ?_<;>intro hp|refine s_end hk ?_)<;>(clear hk a;intro a hk))|((first|refine wx3 ?_;intro w b|refine wx4 ?_;intro w|refine wx5 ?_;intro w v);clear hk hS a;intro hS a hk)|refine wx0 ?_|fail))
  refine sg hk (g_callvO (first := []) (cap := cap) hk (hf := hf) (hc := hc _ _ (List.getElem_mem _) (hS0.call hS)) (h := ?_));clear hk a;rintro _ w2 ⟨rfl, hS1⟩ a hk;replace hS := hS.call0 hS1;clear hS1
  cases hp : p s[i] with
  | true =>
   rw [hp] at hk
   (repeat' (first|((first|refine wx1 ?_|refine wx2 ?_ ?_<;>intro hp|refine s_end hk ?_)<;>(clear hk a;intro a hk))|((first|refine wx3 ?_;intro w b|refine wx4 ?_;intro w|refine wx5 ?_;intro w v);clear hk hS a;intro hS a hk)|refine wx0 ?_|fail))
   exact done1 hk (h := ⟨i, rfl, .inr ⟨i, hil, rfl, hF, hp⟩, hS.nil⟩)
  | false =>
   rw [hp] at hk
   (repeat' (first|((first|refine wx1 ?_|refine wx2 ?_ ?_<;>intro hp|refine s_end hk ?_)<;>(clear hk a;intro a hk))|((first|refine wx3 ?_;intro w b|refine wx4 ?_;intro w|refine wx5 ?_;intro w v);clear hk hS a;intro hS a hk)|refine wx0 ?_|fail))
   refine ⟨hil, (), hk.sd, hS, fun j h hj => ?_⟩
   by_cases e : j = i
   ·subst e;exact hp
   ·exact hF j h (by omega)
 ·(repeat' (first|((first|refine wx1 ?_|refine wx2 ?_ ?_<;>intro hp|refine s_end hk ?_)<;>(clear hk a;intro a hk))|((first|refine wx3 ?_;intro w b|refine wx4 ?_;intro w|refine wx5 ?_;intro w v);clear hk hS a;intro hS a hk)|refine wx0 ?_|fail))
  exact done1 hk (h := ⟨-1, rfl, .inl ⟨rfl, fun i h => hF i h (by omega)⟩, hS.nil⟩)
set_option maxHeartbeats 2000000 in
theorem delC_any (p : ByteArray → Bool) {s : List ByteArray} (f : FuncId) (cap : List Value) {v : Value} {B : Bs} {L : List HP} {w : World} (hS : St B (OwT 9 s v :: L) w) (hl : s.length ≤ 1000) (hf : callable Tryz.prog f = true)
  (hc : ∀ (x : ByteArray) (w' : World), x ∈ s → St B L w' → Calls Tryz.prog f (.string x :: cap).toArray w' (Ret fun v w'' => v = .bool (p x) ∧ St w' [] w'')) :
  Calls Tryz.prog 148 #[v, .func (.func f) #[] cap.toArray] w (Ret fun v' w' => St B (OwT 9 (s.filter (fun x => !p x)) v' :: L) w') := by
 refine enter Tryz.func148 rfl Tryz.ntmps148 rfl (fun a hk => ?_)
 (repeat' (first|((first|refine wx1 ?_|refine wx2 ?_ ?_<;>intro hp|refine s_end hk ?_)<;>(clear hk a;intro a hk))|((first|refine wx3 ?_;intro w b|refine wx4 ?_;intro w|refine wx5 ?_;intro w v);clear hk hS a;intro hS a hk)|refine wx0 ?_|fail))
 refine sg hk (g_callO hk (hf := by kernel_rfl) (hc := idxC_any p s f cap v _ (hS.sub Sub.cons_drop) (by first | exact St.rdT hS (by assumption) | exact OwT.rd (hS.rd (A := OwT _ _ _) atx) | assumption) hl hf hc) (h := ?_));clear hk a;rintro vr w ⟨r, rfl, hr, hS1⟩ a hk;replace hS := hS.call hS1;clear hS1
 rcases hr with ⟨rfl, hn⟩ | ⟨k, hk0, rfl, hn, hp⟩
 ·(repeat' (first|((first|refine wx1 ?_|refine wx2 ?_ ?_<;>intro hp|refine s_end hk ?_)<;>(clear hk a;intro a hk))|((first|refine wx3 ?_;intro w b|refine wx4 ?_;intro w|refine wx5 ?_;intro w v);clear hk hS a;intro hS a hk)|refine wx0 ?_|fail))
  rw [filter_none p hn]
  exact done1 hk (h := hS)
 ·(repeat' (first|((first|refine wx1 ?_|refine wx2 ?_ ?_<;>intro hp|refine s_end hk ?_)<;>(clear hk a;intro a hk))|((first|refine wx3 ?_;intro w b|refine wx4 ?_;intro w|refine wx5 ?_;intro w v);clear hk hS a;intro hS a hk)|refine wx0 ?_|fail))
  replace hk := Kn.kp [0, 1, 5, 6] hk
  refine wp_while (fun x : Nat × Nat × List ByteArray => [(5, .int .i64 (x.1 : Int)), (6, .int .i64 (x.2.1 : Int))]) (fun x => OwT 9 x.2.2 v :: L) (fun x => Sieve p s x.2.2 x.1 x.2.1 ∧ x.2.1 ≤ s.length) (fun x => s.length - x.2.1) (k, k + 1, s) hk skx hS ⟨Sieve.start p hk0 hn hp, hk0⟩ ?_
  clear hk hS a hn hp
  rintro ⟨i, j, ys⟩ a w hk hS ⟨hF, hj⟩
  simp only at hk hS hF hj
  have hyl := hF.len
  have hij := hF.le
  by_cases hjl : j < s.length
  ·have hget := hF.get p hjl
   (repeat' (first|((first|refine wx1 ?_|refine wx2 ?_ ?_<;>intro hp|refine s_end hk ?_)<;>(clear hk a;intro a hk))|((first|refine wx3 ?_;intro w b|refine wx4 ?_;intro w|refine wx5 ?_;intro w v);clear hk hS a;intro hS a hk)|refine wx0 ?_|fail))
   refine sg hk (g_callvO (first := []) (cap := cap) hk (hf := hf) (hc := hc s[j] _ (List.getElem_mem _) (hS.sub Sub.cons_drop)) (h := ?_));clear hk a;rintro _ w2 ⟨rfl, hS1⟩ a hk;replace hS := hS.call0 hS1;clear hS1
   cases hp : p s[j] with
   | true =>
    rw [hp] at hk
    (repeat' (first|((first|refine wx1 ?_|refine wx2 ?_ ?_<;>intro hp|refine s_end hk ?_)<;>(clear hk a;intro a hk))|((first|refine wx3 ?_;intro w b|refine wx4 ?_;intro w|refine wx5 ?_;intro w v);clear hk hS a;intro hS a hk)|refine wx0 ?_|fail))
    exact ⟨(i, j + 1, ys), by simp only;omega, hk.subD (by (repeat (first | exact trivial | refine ⟨rfl, ?_⟩ | refine ⟨trivial, ?_⟩));fail_if_success focus skip), hS.sb, hF.drop_ p hjl hp, hjl⟩
   | false =>
    rw [hp] at hk
    (repeat' (first|((first|refine wx1 ?_|refine wx2 ?_ ?_<;>intro hp|refine s_end hk ?_)<;>(clear hk a;intro a hk))|((first|refine wx3 ?_;intro w b|refine wx4 ?_;intro w|refine wx5 ?_;intro w v);clear hk hS a;intro hS a hk)|refine wx0 ?_|fail))
    exact ⟨(i + 1, j + 1, ys.set i s[j]), by simp only;omega, hk.subD (by (repeat (first | exact trivial | refine ⟨rfl, ?_⟩ | refine ⟨trivial, ?_⟩));fail_if_success focus skip), hS.sb, hF.keep p hjl hp, hjl⟩
  ·have hje : j = s.length := by omega
   subst hje
   have hhd := hF.head
   rw [List.take_length] at hhd
   (repeat' (first|((first|refine wx1 ?_|refine wx2 ?_ ?_<;>intro hp|refine s_end hk ?_)<;>(clear hk a;intro a hk))|((first|refine wx3 ?_;intro w b|refine wx4 ?_;intro w|refine wx5 ?_;intro w v);clear hk hS a;intro hS a hk)|refine wx0 ?_|fail))
   obtain ⟨b, off, c, rfl, _, _⟩ := hS.ownCells (E := 9) (xs := ys) At.here (by intro h;subst h;simp at hyl;omega)
   obtain ⟨vs, hS1, hvl, hnc, hcm, hcl, hvs⟩ := hS.ownPts At.here
   replace hS := hS1
   clear hS1
   have e1 : ys.length * (Enc.k ByteArray + 1) = i * (Enc.k ByteArray + 1) + (ys.length - i) * (Enc.k ByteArray + 1) := by rw [← Nat.add_mul];congr 1;omega
   have e2 : ys.length * (Enc.k ByteArray + 1) ≤ c * (Enc.k ByteArray + 1) := Nat.mul_le_mul_right _ hnc
   refine sg hk (g_slFc i (k := Enc.k ByteArray) hk ?_ (ht := eT rfl) (hE := zT rfl) (hp := rfl) (him := by omega) (hc := by omega));clear hk a;intro a hk
   refine su hk (g_clear (k := Enc.k ByteArray) hk hS ?_ (ht := eT rfl) (hz := oT rfl) (hzs := rfl) (hz1 := by decide) (hfit := by omega))
   clear hk hS a
   intro w zs hzl hS a hk
   (repeat' (first|((first|refine wx1 ?_|refine wx2 ?_ ?_<;>intro hp|refine s_end hk ?_)<;>(clear hk a;intro a hk))|((first|refine wx3 ?_;intro w b|refine wx4 ?_;intro w|refine wx5 ?_;intro w v);clear hk hS a;intro hS a hk)|refine wx0 ?_|fail))
   refine sg hk (g_slTc i (k := Enc.k ByteArray) hk ?_ (ht := eT rfl) (hE := zT rfl) (hp := rfl) (hj := by omega));clear hk a;intro a hk
   (repeat' (first|((first|refine wx1 ?_|refine wx2 ?_ ?_<;>intro hp|refine s_end hk ?_)<;>(clear hk a;intro a hk))|((first|refine wx3 ?_;intro w b|refine wx4 ?_;intro w|refine wx5 ?_;intro w v);clear hk hS a;intro hS a hk)|refine wx0 ?_|fail))
   have hF2 := hS.toTake (ys := ys) At.here (by omega) hnc hcm hvl hzl hvs
   rw [hhd] at hF2
   exact done1 hk (h := hF2)
theorem dropc_any (l : List ByteArray) (c : ByteArray) (v : Value) (w0 : World) (hv : SlT l v w0) (hl : l.length ≤ 900) :
  Calls Tryz.prog 108 #[v, .string c] w0 (Ret fun v w => St w0 [OwT 9 (l.filter (fun x => !decide (x = c))) v] w) := by
 have one : ∀ (x : ByteArray) (b : Nat) (w0 : World), (pts b [.string c] 9).rd w0 → Calls Tryz.prog 129 #[.string x, .pointer (some ⟨b, 0, none⟩)] w0 (Ret fun v w' => v = .bool (decide (x = c)) ∧ St w0 [] w') := by
  intro x b w0 hb
  refine enter Tryz.func129 rfl Tryz.ntmps129 rfl (fun a hk => ?_);have hS := St.refl w0
  (repeat' (first|((first|refine wx1 ?_|refine wx2 ?_ ?_<;>intro hp|refine s_end hk ?_)<;>(clear hk a;intro a hk))|((first|refine wx3 ?_;intro w b|refine wx4 ?_;intro w|refine wx5 ?_;intro w v);clear hk hS a;intro hS a hk)|refine wx0 ?_|fail))
  ·exact done1 hk (h := ⟨by simp [*], hS.nil⟩)
  ·exact done1 hk (h := ⟨by simp [*], hS.nil⟩)
 have wo : ∀ (b : Nat) (v : Value) (w0 : World), SlT l v w0 → (pts b [.string c] 9).rd w0 → Calls Tryz.prog 128 #[v, .func (.func 129) #[] #[.pointer (some ⟨b, 0, none⟩)]] w0 (Ret fun v w => St w0 [OwT 9 (l.filter (fun x => !decide (x = c))) v] w) := by
  intro b v w0 hv hb
  refine enter Tryz.func128 rfl Tryz.ntmps128 rfl (fun a hk => ?_);have hS := St.refl w0
  (repeat' (first|((first|refine wx1 ?_|refine wx2 ?_ ?_<;>intro hp|refine s_end hk ?_)<;>(clear hk a;intro a hk))|((first|refine wx3 ?_;intro w b|refine wx4 ?_;intro w|refine wx5 ?_;intro w v);clear hk hS a;intro hS a hk)|refine wx0 ?_|fail))
  refine sg hk (g_callO hk (hf := by kernel_rfl) (hc := cloneS_any l v _ (hS.rdT hv) (by omega)) (h := ?_));clear hk a;rintro vs w hS1 a hk;replace hS := hS.call hS1;clear hS1
  (repeat' (first|((first|refine wx1 ?_|refine wx2 ?_ ?_<;>intro hp|refine s_end hk ?_)<;>(clear hk a;intro a hk))|((first|refine wx3 ?_;intro w b|refine wx4 ?_;intro w|refine wx5 ?_;intro w v);clear hk hS a;intro hS a hk)|refine wx0 ?_|fail))
  refine sg hk (g_callO hk (hf := by kernel_rfl) (hc := delC_any (fun x => decide (x = c)) 129 [.pointer (some ⟨b, 0, none⟩)] (L := []) (hS.sub (by (repeat (first | exact Sub.nil | exact Sub.refl | refine Sub.cons atx ?_)))) (by omega) (by kernel_rfl) (fun x w' _ h => one x b w' (hb.mono h.below))) (h := ?_));clear hk hS a;intro vr w hS a hk
  (repeat' (first|((first|refine wx1 ?_|refine wx2 ?_ ?_<;>intro hp|refine s_end hk ?_)<;>(clear hk a;intro a hk))|((first|refine wx3 ?_;intro w b|refine wx4 ?_;intro w|refine wx5 ?_;intro w v);clear hk hS a;intro hS a hk)|refine wx0 ?_|fail))
  exact done1 hk (h := hS.sb)
 refine enter Tryz.func108 rfl Tryz.ntmps108 rfl (fun a hk => ?_);have hS := St.refl w0
 (repeat' (first|((first|refine wx1 ?_|refine wx2 ?_ ?_<;>intro hp|refine s_end hk ?_)<;>(clear hk a;intro a hk))|((first|refine wx3 ?_;intro w b|refine wx4 ?_;intro w|refine wx5 ?_;intro w v);clear hk hS a;intro hS a hk)|refine wx0 ?_|fail))
 rename Nat => b3
 refine sg hk (g_callO hk (hf := by kernel_rfl) (hc := wo b3 v _ (hS.rdT hv) (hS.rd (A := pts b3 [.string c] 9) atx)) (h := ?_));clear hk a;rintro vs w hS1 a hk;replace hS := hS.call hS1;clear hS1
 rw [List.cons_append, List.nil_append] at hS
 (repeat' (first|((first|refine wx1 ?_|refine wx2 ?_ ?_<;>intro hp|refine s_end hk ?_)<;>(clear hk a;intro a hk))|((first|refine wx3 ?_;intro w b|refine wx4 ?_;intro w|refine wx5 ?_;intro w v);clear hk hS a;intro hS a hk)|refine wx0 ?_|fail))
 exact done1 hk (h := hS.sub (by (repeat (first | exact Sub.nil | exact Sub.refl | refine Sub.cons atx ?_))))
open Classical in
theorem addC_no {l : List ByteArray} {c : ByteArray} (h : c ∉ l) : addC l c = l ++ [c] := by unfold addC; rw [if_neg h]
section
variable {D : DomP} {kind id num : Int} {name v : ByteArray} {n n' : NodeP}
theorem setP_some (hn : D.f id = some n) (h : ownP D id (kndC kind) name = 0) (hc : chgP kind n name v num = some n') : setP D kind id name v num = ({ D with l := putP D.l n' }, 0) := by
 rw [setP_is hn h, hc]
theorem setP_non (hn : D.f id = some n) (h : ownP D id (kndC kind) name = 0) (hc : chgP kind n name v num = none) : setP D kind id name v num = (D, 1) := by
 rw [setP_is hn h, hc]
theorem own_one (D : DomP) (id : Int) (name name' : ByteArray) : ownP D id 1 name = ownP D id 1 name' := by
 unfold ownP
 split
 ·rfl
 ·split
  ·rfl
  ·split
   ·rfl
   ·rw [if_neg (fun h => by have := h.1;omega), if_neg (fun h => by have := h.1;omega)]
end
section
variable {B : Bs} {w : World} {L : List HP} {bd : Nat} {D : DomP} {K : Nat}
set_option maxHeartbeats 4000000 in
theorem setTag_any (id : Int) (name v : ByteArray) (num : Int) (hW : WfD D) (hb : Bnd K D) (hK : K ≤ 800) (hl : name.size ≤ 1000000) (hS : St B (domH bd D :: L) w) :
  Calls Tryz.prog 59 #[pA bd, .int .i64 id, .string name] w (Ret fun r w' => r = .int .i64 (setP D 0 id name v num).2 ∧ St B (domH bd (setP D 0 id name v num).1 :: L) w') := by
 obtain ⟨bm, bl, hS1⟩ := hS.dom (bd := bd) (D := D) .here
 clear hS
 have hS := hS1
 clear hS1
 refine enter Tryz.func59 rfl Tryz.ntmps59 rfl (fun a hk => ?_)
 (repeat' (first|((first|refine wx1 ?_|refine wx2 ?_ ?_<;>intro hp|refine s_end hk ?_)<;>(clear hk a;intro a hk))|((first|refine wx3 ?_;intro w b|refine wx4 ?_;intro w|refine wx5 ?_;intro w v);clear hk hS a;intro hS a hk)|refine wx0 ?_|fail))
 refine sg hk (g_callO hk (hf := by kernel_rfl) (hc := own5_any (bd := bd) (bm := bm) (bl := bl) (D := D) id 2 name hl _ ⟨hS.rd .here, hS.rd (.there .here), hS.rd (.there (.there .here))⟩) (h := ?_));clear hk a;rintro _ w ⟨rfl, hS1⟩ a hk;replace hS := hS.call0 hS1;clear hS1
 by_cases h0 : ownP D id 2 name = 0
 ·obtain ⟨n, hn, -⟩ := own_zero h0
  rw [h0, if_pos rfl] at hk
  have hnb := hb.get hn
  have b1 := hnb.cls
  have b2 := hnb.att
  have b3 := hnb.sty
  have r2 := hnb.ra
  have r3 := hnb.rs
  clear hnb
  have hS1 := hS.outD hW.uni hn
  clear hS
  obtain ⟨a1, c1, a2, c2, a3, c3, a4, c4, hS⟩ := hS1.nod (b := bl id) (n := n) .here
  clear hS1
  simp only [nodeL, nodC, domO, domC5, List.cons_append, List.nil_append] at hS
  (repeat' (first|((first|refine wx1 ?_|refine wx2 ?_ ?_<;>intro hp|refine s_end hk ?_)<;>(clear hk a;intro a hk))|((first|refine wx3 ?_;intro w b|refine wx4 ?_;intro w|refine wx5 ?_;intro w v);clear hk hS a;intro hS a hk)|refine wx0 ?_|fail))
  rw [setP_some (kind := 0) (n' := { n with tag := name }) hn h0 (by simp [chgP])]
  refine done1 hk (h := ⟨rfl, ?_⟩)
  refine domH.put' (bm := bm) (bl := bl) (n' := { n with tag := name }) hW.uni hn (show n.id = id from fnd_id hn) (nodH.of (y := ((a1, c1), (a2, c2), (a3, c3), (a4, c4))) (L := domO bd D bm bl id ++ L) ?_)
  simp only [nodeL, nodC, domO, domC5, List.cons_append, List.nil_append]
  exact hS.sub (.cons atx (.cons atx (.cons atx (.cons atx (.cons atx (.cons atx (.cons atx (.cons atx (by repeat (first | exact Sub.refl | apply Sub.under))))))))))
 ·rw [setP_no (kind := 0) h0]
  rw [if_neg h0] at hk
  (repeat' (first|((first|refine wx1 ?_|refine wx2 ?_ ?_<;>intro hp|refine s_end hk ?_)<;>(clear hk a;intro a hk))|((first|refine wx3 ?_;intro w b|refine wx4 ?_;intro w|refine wx5 ?_;intro w v);clear hk hS a;intro hS a hk)|refine wx0 ?_|fail))
  exact done1 hk (h := ⟨rfl, domH.of hS⟩)
set_option maxHeartbeats 4000000 in
theorem setText_any (id : Int) (name v : ByteArray) (num : Int) (hW : WfD D) (hb : Bnd K D) (hK : K ≤ 800) (hS : St B (domH bd D :: L) w) :
  Calls Tryz.prog 60 #[pA bd, .int .i64 id, .string v] w (Ret fun r w' => r = .int .i64 (setP D 1 id name v num).2 ∧ St B (domH bd (setP D 1 id name v num).1 :: L) w') := by
 obtain ⟨bm, bl, hS1⟩ := hS.dom (bd := bd) (D := D) .here
 clear hS
 have hS := hS1
 clear hS1
 refine enter Tryz.func60 rfl Tryz.ntmps60 rfl (fun a hk => ?_)
 (repeat' (first|((first|refine wx1 ?_|refine wx2 ?_ ?_<;>intro hp|refine s_end hk ?_)<;>(clear hk a;intro a hk))|((first|refine wx3 ?_;intro w b|refine wx4 ?_;intro w|refine wx5 ?_;intro w v);clear hk hS a;intro hS a hk)|refine wx0 ?_|fail))
 refine sg hk (g_callO hk (hf := by kernel_rfl) (hc := own5_any (bd := bd) (bm := bm) (bl := bl) (D := D) id 1 ⟨#[]⟩ (by decide) _ ⟨hS.rd .here, hS.rd (.there .here), hS.rd (.there (.there .here))⟩) (h := ?_));clear hk a;rintro _ w ⟨rfl, hS1⟩ a hk;replace hS := hS.call0 hS1;clear hS1
 by_cases h0 : ownP D id 1 ⟨#[]⟩ = 0
 ·obtain ⟨n, hn, -⟩ := own_zero h0
  have h0' : ownP D id 1 name = 0 := by rw [own_one D id name ⟨#[]⟩];exact h0
  rw [h0, if_pos rfl] at hk
  have hnb := hb.get hn
  have b1 := hnb.cls
  have b2 := hnb.att
  have b3 := hnb.sty
  have r2 := hnb.ra
  have r3 := hnb.rs
  clear hnb
  have hS1 := hS.outD hW.uni hn
  clear hS
  obtain ⟨a1, c1, a2, c2, a3, c3, a4, c4, hS⟩ := hS1.nod (b := bl id) (n := n) .here
  clear hS1
  simp only [nodeL, nodC, domO, domC5, List.cons_append, List.nil_append] at hS
  (repeat' (first|((first|refine wx1 ?_|refine wx2 ?_ ?_<;>intro hp|refine s_end hk ?_)<;>(clear hk a;intro a hk))|((first|refine wx3 ?_;intro w b|refine wx4 ?_;intro w|refine wx5 ?_;intro w v);clear hk hS a;intro hS a hk)|refine wx0 ?_|fail))
  rw [setP_some (kind := 1) (n' := { n with text := v }) hn h0' (by simp [chgP])]
  refine done1 hk (h := ⟨rfl, ?_⟩)
  refine domH.put' (bm := bm) (bl := bl) (n' := { n with text := v }) hW.uni hn (show n.id = id from fnd_id hn) (nodH.of (y := ((a1, c1), (a2, c2), (a3, c3), (a4, c4))) (L := domO bd D bm bl id ++ L) ?_)
  simp only [nodeL, nodC, domO, domC5, List.cons_append, List.nil_append]
  exact hS.sub (.cons atx (.cons atx (.cons atx (.cons atx (.cons atx (.cons atx (.cons atx (.cons atx (by repeat (first | exact Sub.refl | apply Sub.under))))))))))
 ·rw [setP_no (kind := 1) (name := name) (by rw [show kndC 1 = 1 from rfl, own_one D id name ⟨#[]⟩];exact h0)]
  rw [if_neg h0] at hk
  (repeat' (first|((first|refine wx1 ?_|refine wx2 ?_ ?_<;>intro hp|refine s_end hk ?_)<;>(clear hk a;intro a hk))|((first|refine wx3 ?_;intro w b|refine wx4 ?_;intro w|refine wx5 ?_;intro w v);clear hk hS a;intro hS a hk)|refine wx0 ?_|fail))
  rw [show ownP D id (kndC 1) name = ownP D id 1 ⟨#[]⟩ from own_one D id name ⟨#[]⟩]
  exact done1 hk (h := ⟨rfl, domH.of hS⟩)
set_option maxHeartbeats 4000000 in
theorem setAttr_any (id : Int) (name v : ByteArray) (num : Int) (hW : WfD D) (hb : Bnd K D) (hK : K ≤ 800) (hl : name.size ≤ 1000000) (hS : St B (domH bd D :: L) w) :
  Calls Tryz.prog 61 #[pA bd, .int .i64 id, .string name, .string v] w (Ret fun r w' => r = .int .i64 (setP D 2 id name v num).2 ∧ St B (domH bd (setP D 2 id name v num).1 :: L) w') := by
 obtain ⟨bm, bl, hS1⟩ := hS.dom (bd := bd) (D := D) .here
 clear hS
 have hS := hS1
 clear hS1
 refine enter Tryz.func61 rfl Tryz.ntmps61 rfl (fun a hk => ?_)
 (repeat' (first|((first|refine wx1 ?_|refine wx2 ?_ ?_<;>intro hp|refine s_end hk ?_)<;>(clear hk a;intro a hk))|((first|refine wx3 ?_;intro w b|refine wx4 ?_;intro w|refine wx5 ?_;intro w v);clear hk hS a;intro hS a hk)|refine wx0 ?_|fail))
 refine sg hk (g_callO hk (hf := by kernel_rfl) (hc := own5_any (bd := bd) (bm := bm) (bl := bl) (D := D) id 2 name hl _ ⟨hS.rd .here, hS.rd (.there .here), hS.rd (.there (.there .here))⟩) (h := ?_));clear hk a;rintro _ w ⟨rfl, hS1⟩ a hk;replace hS := hS.call0 hS1;clear hS1
 by_cases h0 : ownP D id 2 name = 0
 ·obtain ⟨n, hn, -⟩ := own_zero h0
  rw [h0, if_pos rfl] at hk
  have hnb := hb.get hn
  have b1 := hnb.cls
  have b2 := hnb.att
  have b3 := hnb.sty
  have r2 := hnb.ra
  have r3 := hnb.rs
  clear hnb
  have hS1 := hS.outD hW.uni hn
  clear hS
  obtain ⟨a1, c1, a2, c2, a3, c3, a4, c4, hS⟩ := hS1.nod (b := bl id) (n := n) .here
  clear hS1
  simp only [nodeL, nodC, domO, domC5, List.cons_append, List.nil_append] at hS
  (repeat' (first|((first|refine wx1 ?_|refine wx2 ?_ ?_<;>intro hp|refine s_end hk ?_)<;>(clear hk a;intro a hk))|((first|refine wx3 ?_;intro w b|refine wx4 ?_;intro w|refine wx5 ?_;intro w v);clear hk hS a;intro hS a hk)|refine wx0 ?_|fail))
  refine sg hk (g_callO hk (hf := by kernel_rfl) (hc := setS_any n.att name v _ _ (by first | exact St.rdT hS (by assumption) | exact OwT.rd (hS.rd (A := OwT _ _ _) atx) | assumption) (by omega)) (h := ?_));clear hk a;rintro vn w hS1 a hk;replace hS := hS.call hS1;clear hS1
  rw [snap_of_rises nmS r2] at hS
  rw [List.cons_append, List.nil_append] at hS
  obtain ⟨aovn, cvn, hshp, _⟩ := (OwT.rd (hS.rd (A := OwT 98 _ vn) atx)).shape;subst hshp
  (repeat' (first|((first|refine wx1 ?_|refine wx2 ?_ ?_<;>intro hp|refine s_end hk ?_)<;>(clear hk a;intro a hk))|((first|refine wx3 ?_;intro w b|refine wx4 ?_;intro w|refine wx5 ?_;intro w v);clear hk hS a;intro hS a hk)|refine wx0 ?_|fail))
  rw [setP_some (kind := 2) (n' := { n with att := putF nmS n.att (name, v) }) hn h0 (by simp [chgP])]
  refine done1 hk (h := ⟨rfl, ?_⟩)
  refine domH.put' (bm := bm) (bl := bl) (n' := { n with att := putF nmS n.att (name, v) }) hW.uni hn (show n.id = id from fnd_id hn) (nodH.of (y := ((a1, c1), (aovn, cvn), (a3, c3), (a4, c4))) (L := domO bd D bm bl id ++ L) ?_)
  simp only [nodeL, nodC, domO, domC5, List.cons_append, List.nil_append]
  exact hS.sub (.cons atx (.cons atx (.cons atx (.cons atx (.cons atx (.cons atx (.cons atx (.cons atx (by repeat (first | exact Sub.refl | apply Sub.under))))))))))
 ·rw [setP_no (kind := 2) h0]
  rw [if_neg h0] at hk
  (repeat' (first|((first|refine wx1 ?_|refine wx2 ?_ ?_<;>intro hp|refine s_end hk ?_)<;>(clear hk a;intro a hk))|((first|refine wx3 ?_;intro w b|refine wx4 ?_;intro w|refine wx5 ?_;intro w v);clear hk hS a;intro hS a hk)|refine wx0 ?_|fail))
  exact done1 hk (h := ⟨rfl, domH.of hS⟩)
set_option maxHeartbeats 4000000 in
theorem setStyle_any (id : Int) (name v : ByteArray) (num : Int) (hW : WfD D) (hb : Bnd K D) (hK : K ≤ 800) (hl : name.size ≤ 1000000) (hS : St B (domH bd D :: L) w) :
  Calls Tryz.prog 63 #[pA bd, .int .i64 id, .string name, .int .i64 num] w (Ret fun r w' => r = .int .i64 (setP D 4 id name v num).2 ∧ St B (domH bd (setP D 4 id name v num).1 :: L) w') := by
 obtain ⟨bm, bl, hS1⟩ := hS.dom (bd := bd) (D := D) .here
 clear hS
 have hS := hS1
 clear hS1
 refine enter Tryz.func63 rfl Tryz.ntmps63 rfl (fun a hk => ?_)
 (repeat' (first|((first|refine wx1 ?_|refine wx2 ?_ ?_<;>intro hp|refine s_end hk ?_)<;>(clear hk a;intro a hk))|((first|refine wx3 ?_;intro w b|refine wx4 ?_;intro w|refine wx5 ?_;intro w v);clear hk hS a;intro hS a hk)|refine wx0 ?_|fail))
 refine sg hk (g_callO hk (hf := by kernel_rfl) (hc := own5_any (bd := bd) (bm := bm) (bl := bl) (D := D) id 2 name hl _ ⟨hS.rd .here, hS.rd (.there .here), hS.rd (.there (.there .here))⟩) (h := ?_));clear hk a;rintro _ w ⟨rfl, hS1⟩ a hk;replace hS := hS.call0 hS1;clear hS1
 by_cases h0 : ownP D id 2 name = 0
 ·obtain ⟨n, hn, -⟩ := own_zero h0
  rw [h0, if_pos rfl] at hk
  have hnb := hb.get hn
  have b1 := hnb.cls
  have b2 := hnb.att
  have b3 := hnb.sty
  have r2 := hnb.ra
  have r3 := hnb.rs
  clear hnb
  have hS1 := hS.outD hW.uni hn
  clear hS
  obtain ⟨a1, c1, a2, c2, a3, c3, a4, c4, hS⟩ := hS1.nod (b := bl id) (n := n) .here
  clear hS1
  simp only [nodeL, nodC, domO, domC5, List.cons_append, List.nil_append] at hS
  (repeat' (first|((first|refine wx1 ?_|refine wx2 ?_ ?_<;>intro hp|refine s_end hk ?_)<;>(clear hk a;intro a hk))|((first|refine wx3 ?_;intro w b|refine wx4 ?_;intro w|refine wx5 ?_;intro w v);clear hk hS a;intro hS a hk)|refine wx0 ?_|fail))
  refine wp_drawn 9 mixed (by kernel_rfl) hk hS ?_;clear hk hS a
  (repeat' (first|(show ObxE _ _ _ _ _ _ _ _ _ (_::_) _ _ _;first|refine ox1 ?_|refine ox2 ?_ ?_<;>intro hp)|fail))
  refine' obe_val (fun us a w hk hd hS => ?_) ?_;rotate_left;focus (have hk := Kn.vw hk vwx;exact g_callO hk (hf := by kernel_rfl) (hc := sat_any num _) (h := fun _ _ h => h))
  refine' obe_res (fun us a w hk hd hS => ?_) ?_;rotate_left;focus (have hk := Kn.vw hk vwx;exact g_callO hk (hf := by kernel_rfl) (hc := setI_any n.sty name (satF num) _ _ (by first | exact St.rdT hS (by assumption) | exact OwT.rd (hS.rd (A := OwT _ _ _) atx) | assumption) (by omega)) (h := fun _ _ h => h))
  refine obe_nil ⟨rfl, ?_⟩;intro us a w hk hS
  simp only [resE, List.cons_append, List.nil_append, Nat.zero_add, Nat.reduceAdd] at hS
  replace hk := Kn.kp [10, 20, 28] hk
  simp only [HV.of, Nat.zero_add, Nat.reduceAdd] at hk
  generalize us 8 = vn at hS hk
  rw [snap_of_rises nmI r3] at hS
  obtain ⟨aovn, cvn, hshp, _⟩ := (OwT.rd (hS.rd (A := OwT 100 _ vn) atx)).shape;subst hshp
  (repeat' (first|((first|refine wx1 ?_|refine wx2 ?_ ?_<;>intro hp|refine s_end hk ?_)<;>(clear hk a;intro a hk))|((first|refine wx3 ?_;intro w b|refine wx4 ?_;intro w|refine wx5 ?_;intro w v);clear hk hS a;intro hS a hk)|refine wx0 ?_|fail))
  rw [setP_some (kind := 4) (n' := { n with sty := putF nmI n.sty (name, satF num) }) hn h0 (by simp [chgP])]
  refine done1 hk (h := ⟨rfl, ?_⟩)
  refine domH.put' (bm := bm) (bl := bl) (n' := { n with sty := putF nmI n.sty (name, satF num) }) hW.uni hn (show n.id = id from fnd_id hn) (nodH.of (y := ((a1, c1), (a2, c2), (aovn, cvn), (a4, c4))) (L := domO bd D bm bl id ++ L) ?_)
  simp only [nodeL, nodC, domO, domC5, List.cons_append, List.nil_append]
  exact hS.sub (.cons atx (.cons atx (.cons atx (.cons atx (.cons atx (.cons atx (.cons atx (.cons atx (by repeat (first | exact Sub.refl | apply Sub.under))))))))))
 ·rw [setP_no (kind := 4) h0]
  rw [if_neg h0] at hk
  (repeat' (first|((first|refine wx1 ?_|refine wx2 ?_ ?_<;>intro hp|refine s_end hk ?_)<;>(clear hk a;intro a hk))|((first|refine wx3 ?_;intro w b|refine wx4 ?_;intro w|refine wx5 ?_;intro w v);clear hk hS a;intro hS a hk)|refine wx0 ?_|fail))
  exact done1 hk (h := ⟨rfl, domH.of hS⟩)
set_option maxHeartbeats 4000000 in
theorem dropAttr_any (id : Int) (name v : ByteArray) (num : Int) (hW : WfD D) (hb : Bnd K D) (hK : K ≤ 800) (hl : name.size ≤ 1000000) (hS : St B (domH bd D :: L) w) :
  Calls Tryz.prog 62 #[pA bd, .int .i64 id, .string name] w (Ret fun r w' => r = .int .i64 (setP D 3 id name v num).2 ∧ St B (domH bd (setP D 3 id name v num).1 :: L) w') := by
 obtain ⟨bm, bl, hS1⟩ := hS.dom (bd := bd) (D := D) .here
 clear hS
 have hS := hS1
 clear hS1
 refine enter Tryz.func62 rfl Tryz.ntmps62 rfl (fun a hk => ?_)
 (repeat' (first|((first|refine wx1 ?_|refine wx2 ?_ ?_<;>intro hp|refine s_end hk ?_)<;>(clear hk a;intro a hk))|((first|refine wx3 ?_;intro w b|refine wx4 ?_;intro w|refine wx5 ?_;intro w v);clear hk hS a;intro hS a hk)|refine wx0 ?_|fail))
 refine sg hk (g_callO hk (hf := by kernel_rfl) (hc := own5_any (bd := bd) (bm := bm) (bl := bl) (D := D) id 2 name hl _ ⟨hS.rd .here, hS.rd (.there .here), hS.rd (.there (.there .here))⟩) (h := ?_));clear hk a;rintro _ w ⟨rfl, hS1⟩ a hk;replace hS := hS.call0 hS1;clear hS1
 by_cases h0 : ownP D id 2 name = 0
 ·obtain ⟨n, hn, -⟩ := own_zero h0
  rw [h0, if_pos rfl] at hk
  have hnb := hb.get hn
  have b1 := hnb.cls
  have b2 := hnb.att
  have b3 := hnb.sty
  have r2 := hnb.ra
  have r3 := hnb.rs
  clear hnb
  have hS1 := hS.outD hW.uni hn
  clear hS
  obtain ⟨a1, c1, a2, c2, a3, c3, a4, c4, hS⟩ := hS1.nod (b := bl id) (n := n) .here
  clear hS1
  simp only [nodeL, nodC, domO, domC5, List.cons_append, List.nil_append] at hS
  (repeat' (first|((first|refine wx1 ?_|refine wx2 ?_ ?_<;>intro hp|refine s_end hk ?_)<;>(clear hk a;intro a hk))|((first|refine wx3 ?_;intro w b|refine wx4 ?_;intro w|refine wx5 ?_;intro w v);clear hk hS a;intro hS a hk)|refine wx0 ?_|fail))
  refine sg hk (g_callO hk (hf := by kernel_rfl) (hc := getS_any n.att name _ _ (by first | exact St.rdT hS (by assumption) | exact OwT.rd (hS.rd (A := OwT _ _ _) atx) | assumption) (by omega)) (h := ?_));clear hk a;rintro _ w ⟨rfl, hS1⟩ a hk;replace hS := hS.call0 hS1;clear hS1
  cases hf : (lastF nmS n.att name).isSome with
  | false =>
   rw [hf] at hk
   rw [setP_non (kind := 3) hn h0 (by simp [chgP, hf])]
   (repeat' (first|((first|refine wx1 ?_|refine wx2 ?_ ?_<;>intro hp|refine s_end hk ?_)<;>(clear hk a;intro a hk))|((first|refine wx3 ?_;intro w b|refine wx4 ?_;intro w|refine wx5 ?_;intro w v);clear hk hS a;intro hS a hk)|refine wx0 ?_|fail))
   refine done1 hk (h := ⟨rfl, ?_⟩)
   refine domH.back (bm := bm) (bl := bl) hW.uni hn (nodH.of (y := ((a1, c1), (a2, c2), (a3, c3), (a4, c4))) (L := domO bd D bm bl id ++ L) ?_)
   simp only [nodeL, nodC, domO, domC5, List.cons_append, List.nil_append]
   exact hS.sub (.cons atx (.cons atx (.cons atx (.cons atx (.cons atx (.cons atx (.cons atx (.cons atx (by repeat (first | exact Sub.refl | apply Sub.under))))))))))
  | true =>
   rw [hf] at hk
   (repeat' (first|((first|refine wx1 ?_|refine wx2 ?_ ?_<;>intro hp|refine s_end hk ?_)<;>(clear hk a;intro a hk))|((first|refine wx3 ?_;intro w b|refine wx4 ?_;intro w|refine wx5 ?_;intro w v);clear hk hS a;intro hS a hk)|refine wx0 ?_|fail))
   refine sg hk (g_callO hk (hf := by kernel_rfl) (hc := dropS_any n.att name _ _ (by first | exact St.rdT hS (by assumption) | exact OwT.rd (hS.rd (A := OwT _ _ _) atx) | assumption) (by omega)) (h := ?_));clear hk a;rintro vn w hS1 a hk;replace hS := hS.call hS1;clear hS1
   rw [show dropS n.att name = n.att.filter (fun x => !decide (x.1 = name)) from by unfold dropS;rw [snap_of_rises nmS r2]] at hS
   rw [List.cons_append, List.nil_append] at hS
   obtain ⟨aovn, cvn, hshp, _⟩ := (OwT.rd (hS.rd (A := OwT 98 _ vn) atx)).shape;subst hshp
   (repeat' (first|((first|refine wx1 ?_|refine wx2 ?_ ?_<;>intro hp|refine s_end hk ?_)<;>(clear hk a;intro a hk))|((first|refine wx3 ?_;intro w b|refine wx4 ?_;intro w|refine wx5 ?_;intro w v);clear hk hS a;intro hS a hk)|refine wx0 ?_|fail))
   rw [setP_some (kind := 3) (n' := { n with att := n.att.filter (fun x => !decide (x.1 = name)) }) hn h0 (by simp [chgP, hf])]
   refine done1 hk (h := ⟨rfl, ?_⟩)
   refine domH.put' (bm := bm) (bl := bl) (n' := { n with att := n.att.filter (fun x => !decide (x.1 = name)) }) hW.uni hn (show n.id = id from fnd_id hn) (nodH.of (y := ((a1, c1), (aovn, cvn), (a3, c3), (a4, c4))) (L := domO bd D bm bl id ++ L) ?_)
   simp only [nodeL, nodC, domO, domC5, List.cons_append, List.nil_append]
   exact hS.sub (.cons atx (.cons atx (.cons atx (.cons atx (.cons atx (.cons atx (.cons atx (.cons atx (by repeat (first | exact Sub.refl | apply Sub.under))))))))))
 ·rw [setP_no (kind := 3) h0]
  rw [if_neg h0] at hk
  (repeat' (first|((first|refine wx1 ?_|refine wx2 ?_ ?_<;>intro hp|refine s_end hk ?_)<;>(clear hk a;intro a hk))|((first|refine wx3 ?_;intro w b|refine wx4 ?_;intro w|refine wx5 ?_;intro w v);clear hk hS a;intro hS a hk)|refine wx0 ?_|fail))
  exact done1 hk (h := ⟨rfl, domH.of hS⟩)
set_option maxHeartbeats 4000000 in
theorem dropStyle_any (id : Int) (name v : ByteArray) (num : Int) (hW : WfD D) (hb : Bnd K D) (hK : K ≤ 800) (hl : name.size ≤ 1000000) (hS : St B (domH bd D :: L) w) :
  Calls Tryz.prog 64 #[pA bd, .int .i64 id, .string name] w (Ret fun r w' => r = .int .i64 (setP D 5 id name v num).2 ∧ St B (domH bd (setP D 5 id name v num).1 :: L) w') := by
 obtain ⟨bm, bl, hS1⟩ := hS.dom (bd := bd) (D := D) .here
 clear hS
 have hS := hS1
 clear hS1
 refine enter Tryz.func64 rfl Tryz.ntmps64 rfl (fun a hk => ?_)
 (repeat' (first|((first|refine wx1 ?_|refine wx2 ?_ ?_<;>intro hp|refine s_end hk ?_)<;>(clear hk a;intro a hk))|((first|refine wx3 ?_;intro w b|refine wx4 ?_;intro w|refine wx5 ?_;intro w v);clear hk hS a;intro hS a hk)|refine wx0 ?_|fail))
 refine sg hk (g_callO hk (hf := by kernel_rfl) (hc := own5_any (bd := bd) (bm := bm) (bl := bl) (D := D) id 2 name hl _ ⟨hS.rd .here, hS.rd (.there .here), hS.rd (.there (.there .here))⟩) (h := ?_));clear hk a;rintro _ w ⟨rfl, hS1⟩ a hk;replace hS := hS.call0 hS1;clear hS1
 by_cases h0 : ownP D id 2 name = 0
 ·obtain ⟨n, hn, -⟩ := own_zero h0
  rw [h0, if_pos rfl] at hk
  have hnb := hb.get hn
  have b1 := hnb.cls
  have b2 := hnb.att
  have b3 := hnb.sty
  have r2 := hnb.ra
  have r3 := hnb.rs
  clear hnb
  have hS1 := hS.outD hW.uni hn
  clear hS
  obtain ⟨a1, c1, a2, c2, a3, c3, a4, c4, hS⟩ := hS1.nod (b := bl id) (n := n) .here
  clear hS1
  simp only [nodeL, nodC, domO, domC5, List.cons_append, List.nil_append] at hS
  (repeat' (first|((first|refine wx1 ?_|refine wx2 ?_ ?_<;>intro hp|refine s_end hk ?_)<;>(clear hk a;intro a hk))|((first|refine wx3 ?_;intro w b|refine wx4 ?_;intro w|refine wx5 ?_;intro w v);clear hk hS a;intro hS a hk)|refine wx0 ?_|fail))
  refine sg hk (g_callO hk (hf := by kernel_rfl) (hc := getI_any n.sty name _ _ (by first | exact St.rdT hS (by assumption) | exact OwT.rd (hS.rd (A := OwT _ _ _) atx) | assumption) (by omega)) (h := ?_));clear hk a;rintro _ w ⟨rfl, hS1⟩ a hk;replace hS := hS.call0 hS1;clear hS1
  cases hf : (lastF nmI n.sty name).isSome with
  | false =>
   rw [hf] at hk
   rw [setP_non (kind := 5) hn h0 (by simp [chgP, hf])]
   (repeat' (first|((first|refine wx1 ?_|refine wx2 ?_ ?_<;>intro hp|refine s_end hk ?_)<;>(clear hk a;intro a hk))|((first|refine wx3 ?_;intro w b|refine wx4 ?_;intro w|refine wx5 ?_;intro w v);clear hk hS a;intro hS a hk)|refine wx0 ?_|fail))
   refine done1 hk (h := ⟨rfl, ?_⟩)
   refine domH.back (bm := bm) (bl := bl) hW.uni hn (nodH.of (y := ((a1, c1), (a2, c2), (a3, c3), (a4, c4))) (L := domO bd D bm bl id ++ L) ?_)
   simp only [nodeL, nodC, domO, domC5, List.cons_append, List.nil_append]
   exact hS.sub (.cons atx (.cons atx (.cons atx (.cons atx (.cons atx (.cons atx (.cons atx (.cons atx (by repeat (first | exact Sub.refl | apply Sub.under))))))))))
  | true =>
   rw [hf] at hk
   (repeat' (first|((first|refine wx1 ?_|refine wx2 ?_ ?_<;>intro hp|refine s_end hk ?_)<;>(clear hk a;intro a hk))|((first|refine wx3 ?_;intro w b|refine wx4 ?_;intro w|refine wx5 ?_;intro w v);clear hk hS a;intro hS a hk)|refine wx0 ?_|fail))
   refine sg hk (g_callO hk (hf := by kernel_rfl) (hc := dropI_any n.sty name _ _ (by first | exact St.rdT hS (by assumption) | exact OwT.rd (hS.rd (A := OwT _ _ _) atx) | assumption) (by omega)) (h := ?_));clear hk a;rintro vn w hS1 a hk;replace hS := hS.call hS1;clear hS1
   rw [show dropI n.sty name = n.sty.filter (fun x => !decide (x.1 = name)) from by unfold dropI;rw [snap_of_rises nmI r3]] at hS
   rw [List.cons_append, List.nil_append] at hS
   obtain ⟨aovn, cvn, hshp, _⟩ := (OwT.rd (hS.rd (A := OwT 100 _ vn) atx)).shape;subst hshp
   (repeat' (first|((first|refine wx1 ?_|refine wx2 ?_ ?_<;>intro hp|refine s_end hk ?_)<;>(clear hk a;intro a hk))|((first|refine wx3 ?_;intro w b|refine wx4 ?_;intro w|refine wx5 ?_;intro w v);clear hk hS a;intro hS a hk)|refine wx0 ?_|fail))
   rw [setP_some (kind := 5) (n' := { n with sty := n.sty.filter (fun x => !decide (x.1 = name)) }) hn h0 (by simp [chgP, hf])]
   refine done1 hk (h := ⟨rfl, ?_⟩)
   refine domH.put' (bm := bm) (bl := bl) (n' := { n with sty := n.sty.filter (fun x => !decide (x.1 = name)) }) hW.uni hn (show n.id = id from fnd_id hn) (nodH.of (y := ((a1, c1), (a2, c2), (aovn, cvn), (a4, c4))) (L := domO bd D bm bl id ++ L) ?_)
   simp only [nodeL, nodC, domO, domC5, List.cons_append, List.nil_append]
   exact hS.sub (.cons atx (.cons atx (.cons atx (.cons atx (.cons atx (.cons atx (.cons atx (.cons atx (by repeat (first | exact Sub.refl | apply Sub.under))))))))))
 ·rw [setP_no (kind := 5) h0]
  rw [if_neg h0] at hk
  (repeat' (first|((first|refine wx1 ?_|refine wx2 ?_ ?_<;>intro hp|refine s_end hk ?_)<;>(clear hk a;intro a hk))|((first|refine wx3 ?_;intro w b|refine wx4 ?_;intro w|refine wx5 ?_;intro w v);clear hk hS a;intro hS a hk)|refine wx0 ?_|fail))
  exact done1 hk (h := ⟨rfl, domH.of hS⟩)
set_option maxHeartbeats 4000000 in
theorem addClass_any (id : Int) (name v : ByteArray) (num : Int) (hW : WfD D) (hb : Bnd K D) (hK : K ≤ 800) (hl : name.size ≤ 1000000) (hS : St B (domH bd D :: L) w) :
  Calls Tryz.prog 65 #[pA bd, .int .i64 id, .string name] w (Ret fun r w' => r = .int .i64 (setP D 6 id name v num).2 ∧ St B (domH bd (setP D 6 id name v num).1 :: L) w') := by
 obtain ⟨bm, bl, hS1⟩ := hS.dom (bd := bd) (D := D) .here
 clear hS
 have hS := hS1
 clear hS1
 refine enter Tryz.func65 rfl Tryz.ntmps65 rfl (fun a hk => ?_)
 (repeat' (first|((first|refine wx1 ?_|refine wx2 ?_ ?_<;>intro hp|refine s_end hk ?_)<;>(clear hk a;intro a hk))|((first|refine wx3 ?_;intro w b|refine wx4 ?_;intro w|refine wx5 ?_;intro w v);clear hk hS a;intro hS a hk)|refine wx0 ?_|fail))
 refine sg hk (g_callO hk (hf := by kernel_rfl) (hc := own5_any (bd := bd) (bm := bm) (bl := bl) (D := D) id 2 name hl _ ⟨hS.rd .here, hS.rd (.there .here), hS.rd (.there (.there .here))⟩) (h := ?_));clear hk a;rintro _ w ⟨rfl, hS1⟩ a hk;replace hS := hS.call0 hS1;clear hS1
 by_cases h0 : ownP D id 2 name = 0
 ·obtain ⟨n, hn, -⟩ := own_zero h0
  rw [h0, if_pos rfl] at hk
  have hnb := hb.get hn
  have b1 := hnb.cls
  have b2 := hnb.att
  have b3 := hnb.sty
  have r2 := hnb.ra
  have r3 := hnb.rs
  clear hnb
  have hS1 := hS.outD hW.uni hn
  clear hS
  obtain ⟨a1, c1, a2, c2, a3, c3, a4, c4, hS⟩ := hS1.nod (b := bl id) (n := n) .here
  clear hS1
  simp only [nodeL, nodC, domO, domC5, List.cons_append, List.nil_append] at hS
  (repeat' (first|((first|refine wx1 ?_|refine wx2 ?_ ?_<;>intro hp|refine s_end hk ?_)<;>(clear hk a;intro a hk))|((first|refine wx3 ?_;intro w b|refine wx4 ?_;intro w|refine wx5 ?_;intro w v);clear hk hS a;intro hS a hk)|refine wx0 ?_|fail))
  refine sg hk (g_callO hk (hf := by kernel_rfl) (hc := hasC_any n.cls name _ _ (by first | exact St.rdT hS (by assumption) | exact OwT.rd (hS.rd (A := OwT _ _ _) atx) | assumption) (by omega)) (h := ?_));clear hk a;rintro _ w ⟨rfl, hS1⟩ a hk;replace hS := hS.call0 hS1;clear hS1
  by_cases hm : name ∈ n.cls
  ·simp only [hm, decide_true] at hk
   rw [setP_non (kind := 6) hn h0 (by simp [chgP, hm])]
   (repeat' (first|((first|refine wx1 ?_|refine wx2 ?_ ?_<;>intro hp|refine s_end hk ?_)<;>(clear hk a;intro a hk))|((first|refine wx3 ?_;intro w b|refine wx4 ?_;intro w|refine wx5 ?_;intro w v);clear hk hS a;intro hS a hk)|refine wx0 ?_|fail))
   refine done1 hk (h := ⟨rfl, ?_⟩)
   refine domH.back (bm := bm) (bl := bl) hW.uni hn (nodH.of (y := ((a1, c1), (a2, c2), (a3, c3), (a4, c4))) (L := domO bd D bm bl id ++ L) ?_)
   simp only [nodeL, nodC, domO, domC5, List.cons_append, List.nil_append]
   exact hS.sub (.cons atx (.cons atx (.cons atx (.cons atx (.cons atx (.cons atx (.cons atx (.cons atx (by repeat (first | exact Sub.refl | apply Sub.under))))))))))
  ·simp only [hm, decide_false] at hk
   (repeat' (first|((first|refine wx1 ?_|refine wx2 ?_ ?_<;>intro hp|refine s_end hk ?_)<;>(clear hk a;intro a hk))|((first|refine wx3 ?_;intro w b|refine wx4 ?_;intro w|refine wx5 ?_;intro w v);clear hk hS a;intro hS a hk)|refine wx0 ?_|fail))
   refine sg hk (g_callO hk (hf := by kernel_rfl) (hc := addC_any n.cls name _ _ (by first | exact St.rdT hS (by assumption) | exact OwT.rd (hS.rd (A := OwT _ _ _) atx) | assumption) (by omega)) (h := ?_));clear hk a;rintro vn w hS1 a hk;replace hS := hS.call hS1;clear hS1
   rw [addC_no hm] at hS
   rw [List.cons_append, List.nil_append] at hS
   obtain ⟨aovn, cvn, hshp, _⟩ := (OwT.rd (hS.rd (A := OwT 9 _ vn) atx)).shape;subst hshp
   (repeat' (first|((first|refine wx1 ?_|refine wx2 ?_ ?_<;>intro hp|refine s_end hk ?_)<;>(clear hk a;intro a hk))|((first|refine wx3 ?_;intro w b|refine wx4 ?_;intro w|refine wx5 ?_;intro w v);clear hk hS a;intro hS a hk)|refine wx0 ?_|fail))
   rw [setP_some (kind := 6) (n' := { n with cls := n.cls ++ [name] }) hn h0 (by simp [chgP, hm])]
   refine done1 hk (h := ⟨rfl, ?_⟩)
   refine domH.put' (bm := bm) (bl := bl) (n' := { n with cls := n.cls ++ [name] }) hW.uni hn (show n.id = id from fnd_id hn) (nodH.of (y := ((aovn, cvn), (a2, c2), (a3, c3), (a4, c4))) (L := domO bd D bm bl id ++ L) ?_)
   simp only [nodeL, nodC, domO, domC5, List.cons_append, List.nil_append]
   exact hS.sub (.cons atx (.cons atx (.cons atx (.cons atx (.cons atx (.cons atx (.cons atx (.cons atx (by repeat (first | exact Sub.refl | apply Sub.under))))))))))
 ·rw [setP_no (kind := 6) h0]
  rw [if_neg h0] at hk
  (repeat' (first|((first|refine wx1 ?_|refine wx2 ?_ ?_<;>intro hp|refine s_end hk ?_)<;>(clear hk a;intro a hk))|((first|refine wx3 ?_;intro w b|refine wx4 ?_;intro w|refine wx5 ?_;intro w v);clear hk hS a;intro hS a hk)|refine wx0 ?_|fail))
  exact done1 hk (h := ⟨rfl, domH.of hS⟩)
set_option maxHeartbeats 4000000 in
theorem dropClass_any (id : Int) (name v : ByteArray) (num : Int) (hW : WfD D) (hb : Bnd K D) (hK : K ≤ 800) (hl : name.size ≤ 1000000) (hS : St B (domH bd D :: L) w) :
  Calls Tryz.prog 66 #[pA bd, .int .i64 id, .string name] w (Ret fun r w' => r = .int .i64 (setP D 7 id name v num).2 ∧ St B (domH bd (setP D 7 id name v num).1 :: L) w') := by
 obtain ⟨bm, bl, hS1⟩ := hS.dom (bd := bd) (D := D) .here
 clear hS
 have hS := hS1
 clear hS1
 refine enter Tryz.func66 rfl Tryz.ntmps66 rfl (fun a hk => ?_)
 (repeat' (first|((first|refine wx1 ?_|refine wx2 ?_ ?_<;>intro hp|refine s_end hk ?_)<;>(clear hk a;intro a hk))|((first|refine wx3 ?_;intro w b|refine wx4 ?_;intro w|refine wx5 ?_;intro w v);clear hk hS a;intro hS a hk)|refine wx0 ?_|fail))
 refine sg hk (g_callO hk (hf := by kernel_rfl) (hc := own5_any (bd := bd) (bm := bm) (bl := bl) (D := D) id 2 name hl _ ⟨hS.rd .here, hS.rd (.there .here), hS.rd (.there (.there .here))⟩) (h := ?_));clear hk a;rintro _ w ⟨rfl, hS1⟩ a hk;replace hS := hS.call0 hS1;clear hS1
 by_cases h0 : ownP D id 2 name = 0
 ·obtain ⟨n, hn, -⟩ := own_zero h0
  rw [h0, if_pos rfl] at hk
  have hnb := hb.get hn
  have b1 := hnb.cls
  have b2 := hnb.att
  have b3 := hnb.sty
  have r2 := hnb.ra
  have r3 := hnb.rs
  clear hnb
  have hS1 := hS.outD hW.uni hn
  clear hS
  obtain ⟨a1, c1, a2, c2, a3, c3, a4, c4, hS⟩ := hS1.nod (b := bl id) (n := n) .here
  clear hS1
  simp only [nodeL, nodC, domO, domC5, List.cons_append, List.nil_append] at hS
  (repeat' (first|((first|refine wx1 ?_|refine wx2 ?_ ?_<;>intro hp|refine s_end hk ?_)<;>(clear hk a;intro a hk))|((first|refine wx3 ?_;intro w b|refine wx4 ?_;intro w|refine wx5 ?_;intro w v);clear hk hS a;intro hS a hk)|refine wx0 ?_|fail))
  refine sg hk (g_callO hk (hf := by kernel_rfl) (hc := hasC_any n.cls name _ _ (by first | exact St.rdT hS (by assumption) | exact OwT.rd (hS.rd (A := OwT _ _ _) atx) | assumption) (by omega)) (h := ?_));clear hk a;rintro _ w ⟨rfl, hS1⟩ a hk;replace hS := hS.call0 hS1;clear hS1
  by_cases hm : name ∈ n.cls
  ·simp only [hm, decide_true] at hk
   (repeat' (first|((first|refine wx1 ?_|refine wx2 ?_ ?_<;>intro hp|refine s_end hk ?_)<;>(clear hk a;intro a hk))|((first|refine wx3 ?_;intro w b|refine wx4 ?_;intro w|refine wx5 ?_;intro w v);clear hk hS a;intro hS a hk)|refine wx0 ?_|fail))
   refine sg hk (g_callO hk (hf := by kernel_rfl) (hc := dropc_any n.cls name _ _ (by first | exact St.rdT hS (by assumption) | exact OwT.rd (hS.rd (A := OwT _ _ _) atx) | assumption) (by omega)) (h := ?_));clear hk a;rintro vn w hS1 a hk;replace hS := hS.call hS1;clear hS1
   rw [List.cons_append, List.nil_append] at hS
   obtain ⟨aovn, cvn, hshp, _⟩ := (OwT.rd (hS.rd (A := OwT 9 _ vn) atx)).shape;subst hshp
   (repeat' (first|((first|refine wx1 ?_|refine wx2 ?_ ?_<;>intro hp|refine s_end hk ?_)<;>(clear hk a;intro a hk))|((first|refine wx3 ?_;intro w b|refine wx4 ?_;intro w|refine wx5 ?_;intro w v);clear hk hS a;intro hS a hk)|refine wx0 ?_|fail))
   rw [setP_some (kind := 7) (n' := { n with cls := n.cls.filter (fun x => !decide (x = name)) }) hn h0 (by simp [chgP, hm])]
   refine done1 hk (h := ⟨rfl, ?_⟩)
   refine domH.put' (bm := bm) (bl := bl) (n' := { n with cls := n.cls.filter (fun x => !decide (x = name)) }) hW.uni hn (show n.id = id from fnd_id hn) (nodH.of (y := ((aovn, cvn), (a2, c2), (a3, c3), (a4, c4))) (L := domO bd D bm bl id ++ L) ?_)
   simp only [nodeL, nodC, domO, domC5, List.cons_append, List.nil_append]
   exact hS.sub (.cons atx (.cons atx (.cons atx (.cons atx (.cons atx (.cons atx (.cons atx (.cons atx (by repeat (first | exact Sub.refl | apply Sub.under))))))))))
  ·simp only [hm, decide_false] at hk
   rw [setP_non (kind := 7) hn h0 (by simp [chgP, hm])]
   (repeat' (first|((first|refine wx1 ?_|refine wx2 ?_ ?_<;>intro hp|refine s_end hk ?_)<;>(clear hk a;intro a hk))|((first|refine wx3 ?_;intro w b|refine wx4 ?_;intro w|refine wx5 ?_;intro w v);clear hk hS a;intro hS a hk)|refine wx0 ?_|fail))
   refine done1 hk (h := ⟨rfl, ?_⟩)
   refine domH.back (bm := bm) (bl := bl) hW.uni hn (nodH.of (y := ((a1, c1), (a2, c2), (a3, c3), (a4, c4))) (L := domO bd D bm bl id ++ L) ?_)
   simp only [nodeL, nodC, domO, domC5, List.cons_append, List.nil_append]
   exact hS.sub (.cons atx (.cons atx (.cons atx (.cons atx (.cons atx (.cons atx (.cons atx (.cons atx (by repeat (first | exact Sub.refl | apply Sub.under))))))))))
 ·rw [setP_no (kind := 7) h0]
  rw [if_neg h0] at hk
  (repeat' (first|((first|refine wx1 ?_|refine wx2 ?_ ?_<;>intro hp|refine s_end hk ?_)<;>(clear hk a;intro a hk))|((first|refine wx3 ?_;intro w b|refine wx4 ?_;intro w|refine wx5 ?_;intro w v);clear hk hS a;intro hS a hk)|refine wx0 ?_|fail))
  exact done1 hk (h := ⟨rfl, domH.of hS⟩)
end
end Go.Proofs.YtgklceoodpocaaaGreatDoor
