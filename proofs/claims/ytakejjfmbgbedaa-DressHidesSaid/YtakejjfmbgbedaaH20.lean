/- Layer 7: the view of flat nodes. Layer 20: what a node has, with its marks, is just the document's. Layer 2: digits and the numbers that they are; which texts may be what: in plain words. Layer 2: which texts may be what, in plain words. How texts begin. -/
import Derived.Test.YtakejjfmbgbedaaH16
import Derived.Test.YtakejjfmbgbedaaH19
import Derived.Test.YtakejjfmbgbedaaH09
import Derived.Lib.ItoaNum
import Derived.Test.YtakejjfmbgbedaaH10
namespace Go.Proofs.Ytakejjfmbgbedaa
open Go.RowKit
set_option maxRecDepth 100000
attribute [local irreducible] Go.Code.wpIn Go.wpListIn Go.Calls Gives Go.Exit.then Go.Exit.inBlock Done ObxE

set_option maxHeartbeats 4000000 in
theorem tree07_any (F : List FlH) (v : Value) (most : Nat) (hm1 : 1 ≤ most) (hm2 : most ≤ 1000) (w0 : World) (hv : SlT F v w0) (hR : ∀ h ∈ F, FlR w0 h) :
    Calls Try.prog 9 #[v, .int .i64 (most : Int)] w0 (Ret fun u w => ∃ t, Small t ∧ cnt t ≤ most ∧ St w0 [treeH t u] w) := by
  have hF63 : F.length ≤ maxLen := hv.len_le
  simp only [maxLen] at hF63
  refine enter Try.func9 rfl Try.ntmps9 rfl (fun a hk => ?_); have hS := St.refl w0
  by_cases hgt : most < F.length
  · have hl : (F.take most).length = most := by rw [List.length_take]; omega
    have hRR : ∀ h ∈ F.take most, FlR w0 h := fun h hh => hR h (List.mem_of_mem_take hh)
    (repeat' (first | (show wpListIn _ _ _ _ _ (_ :: _) _ _; first | (refine wx1 ?_; clear hk a; intro a hk) | (refine wx2 ?_ ?_ <;> (intro hp; clear hk a; intro a hk)) | (refine wx3 ?_; clear hk hS a; intro w b hS a hk) | (refine wx4 ?_; clear hk hS a; intro w hS a hk) | (refine wx5 ?_; clear hk hS a; intro w v hS a hk) | fail) | refine wx0 ?_ | (refine s_end hk ?_; clear hk a; intro a hk) | fail))
    refine sg hk (g_partT (j := most) hk ?_ (ht := eT rfl) (hs := (by first | exact St.rdT hS (by assumption) | exact OwT.rd (hS.rd (A := OwT _ _ _) (by (repeat (first | exact At.here | apply At.there)))) | assumption)) (hE := zT rfl) (hj := by omega)); clear hk a; intro vp hvp a hk
    have hv2 := hvp _ hv
    by_cases hF0 : F.take most = []
    · have h0 : (F.take most).length = 0 := by rw [hF0]; rfl
      (repeat' (first | (show wpListIn _ _ _ _ _ (_ :: _) _ _; first | (refine wx1 ?_; clear hk a; intro a hk) | (refine wx2 ?_ ?_ <;> (intro hp; clear hk a; intro a hk)) | (refine wx3 ?_; clear hk hS a; intro w b hS a hk) | (refine wx4 ?_; clear hk hS a; intro w hS a hk) | (refine wx5 ?_; clear hk hS a; intro w v hS a hk) | fail) | refine wx0 ?_ | (refine s_end hk ?_; clear hk a; intro a hk) | fail))
      refine done1R hk rfl (.str hS (hT := aT rfl) (hs := zT rfl)) (h := ⟨.mk 2 ⟨#[112]⟩ ⟨#[]⟩ ⟨#[]⟩ [] [] [] (0, 0, 0, 0, false, false) [], Small.mk ⟨by unfold in64; omega, by decide, by decide, by decide, by simp, by simp, by simp, by simp, by simp, by simp, by unfold in64; exact ⟨by decide, by decide⟩, by unfold in64; exact ⟨by decide, by decide⟩, by unfold in64; exact ⟨by decide, by decide⟩, by unfold in64; exact ⟨by decide, by decide⟩⟩ (by simp), by simp [cnt, cntL]; omega, ?_⟩)
      have hS1 := (((hS.nil.nilT 9 ByteArray).nilT 71 (ByteArray × ByteArray)).nilT 80 (ByteArray × Int)).nilT 44 NdH
      exact treeH.of (h := (2, ⟨#[112]⟩, ⟨#[]⟩, ⟨#[]⟩, ⟨none, 0, 0⟩, ⟨none, 0, 0⟩, ⟨none, 0, 0⟩, (0, 0, 0, 0, false, false), ⟨none, 0, 0⟩)) (treeR.of (A1 := OwT 9 ([] : List ByteArray) (.slice none 0 0)) (A2 := OwT 71 ([] : List (ByteArray × ByteArray)) (.slice none 0 0)) (A3 := OwT 80 ([] : List (ByteArray × Int)) (.slice none 0 0)) (A4 := OwT 44 ([] : List NdH) (.slice none 0 0)) (H := []) (kids := []) ((forR.nil hS1).sub (by (repeat (first | exact Sub.nil | exact Sub.refl | refine Sub.cons (by (repeat (first | exact At.here | apply At.there))) ?_)))))
    · have h1 : 0 < (F.take most).length := List.length_pos_iff.2 hF0
      obtain ⟨x, hx⟩ : ∃ x, (F.take most)[0]? = some x := ⟨_, List.getElem?_eq_getElem h1⟩
      obtain ⟨dp, k, tag, key, text, cl, al, sl, e, lv, m, d, p, q, a1, a2, a3, m1, m2, m3, rfl, c1, c2, c3, b1, b2, b3, b4, b5, b6, b7⟩ := hRR x (List.mem_of_getElem? hx)
      (repeat' (first | (show wpListIn _ _ _ _ _ (_ :: _) _ _; first | (refine wx1 ?_; clear hk a; intro a hk) | (refine wx2 ?_ ?_ <;> (intro hp; clear hk a; intro a hk)) | (refine wx3 ?_; clear hk hS a; intro w b hS a hk) | (refine wx4 ?_; clear hk hS a; intro w hS a hk) | (refine wx5 ?_; clear hk hS a; intro w v hS a hk) | fail) | refine wx0 ?_ | (refine s_end hk ?_; clear hk a; intro a hk) | fail))
      refine sg hk (g_callO hk (hf := by kernel_rfl) (hc := node07_any dp k tag key text cl al sl e lv m d p q a1 a2 a3 m1 m2 m3 _ (hS.rdT c1) (hS.rdT c2) (hS.rdT c3)) (h := ?_)); clear hk a; rintro vn w hS1 a hk; replace hS := hS.call hS1; clear hS1
      rw [List.cons_append, List.nil_append] at hS
      obtain ⟨hd1, rfl, hS1⟩ := St.tree hS .here
      clear hS
      have hS := hS1
      clear hS1
      obtain ⟨k0, tag0, key0, text0, cl0, al0, sl0, e0, lv0, m0, d0, p0, q0, kids0, A1, M1, A2, M2, A3, M3, A4, M4, H0, he, rfl, _⟩ := (hS.trR .here).split
      have hok := okN_node (tag := tag) (key := key) (text := text) (cl := cl) (al := al) (p := p) (q := q) b2 b3 b4 b5 b6 b7
      unfold nodeF at he hS
      injection he with q1 q2 q3 q4 q5 q6 q7 q8 q9
      rw [q1, q2, q3, q4, q5, q6, q7, q8, q9] at hS
      rw [q1, q2, q3, q4, q5, q6, q7, q8] at hok
      clear q1 q2 q3 q4 q5 q6 q7 q8 q9
      (repeat' (first | (show wpListIn _ _ _ _ _ (_ :: _) _ _; first | (refine wx1 ?_; clear hk a; intro a hk) | (refine wx2 ?_ ?_ <;> (intro hp; clear hk a; intro a hk)) | (refine wx3 ?_; clear hk hS a; intro w b hS a hk) | (refine wx4 ?_; clear hk hS a; intro w hS a hk) | (refine wx5 ?_; clear hk hS a; intro w v hS a hk) | fail) | refine wx0 ?_ | (refine s_end hk ?_; clear hk a; intro a hk) | fail))
      refine sg hk (g_callO hk (hf := by kernel_rfl) (hc := kids07_any (F.take most) vp (by omega) ((F.take most).length + 1) 1 dp _ (by omega) (by omega) (hS.rdT hv2) (fun h hh => (hRR h hh).frz hS.frz)) (h := ?_)); clear hk a; rintro vr w ⟨ts2, H2, at2, ak2, ck2, rfl, r1, r2, r3, r4, hS1⟩ a hk; replace hS := hS.call hS1; clear hS1
      rw [List.cons_append, List.cons_append, List.nil_append] at hS
      (repeat' (first | (show wpListIn _ _ _ _ _ (_ :: _) _ _; first | (refine wx1 ?_; clear hk a; intro a hk) | (refine wx2 ?_ ?_ <;> (intro hp; clear hk a; intro a hk)) | (refine wx3 ?_; clear hk hS a; intro w b hS a hk) | (refine wx4 ?_; clear hk hS a; intro w hS a hk) | (refine wx5 ?_; clear hk hS a; intro w v hS a hk) | fail) | refine wx0 ?_ | (refine s_end hk ?_; clear hk a; intro a hk) | fail))
      refine done1R hk rfl (.str hS (hT := aT rfl) (hs := zT rfl)) (h := ⟨.mk k0 tag0 key0 text0 cl0 al0 sl0 (e0, lv0, m0, d0, p0, q0) ts2, .mk hok r4, by simp only [cnt]; omega, ?_⟩)
      have hS1 := treeR.kids (k := k0) (tag := tag0) (key := key0) (text := text0) (cl := cl0) (at_ := al0) (st := sl0) (o := (e0, lv0, m0, d0, p0, q0)) (hc := ⟨A1, cl0.length, M1⟩) (ha := ⟨A2, al0.length, M2⟩) (hs := ⟨A3, sl0.length, M3⟩) (hk0 := ⟨A4, H0.length, M4⟩) (kids := ts2) (kids0 := kids0) (E := 44) (hk := ⟨ak2, H2.length, ck2⟩) (H := H2) (L := []) (hS.sub (by (repeat (first | exact Sub.nil | exact Sub.refl | refine Sub.cons (by (repeat (first | exact At.here | apply At.there))) ?_))))
      exact treeH.of (h := (k0, tag0, key0, text0, ⟨A1, cl0.length, M1⟩, ⟨A2, al0.length, M2⟩, ⟨A3, sl0.length, M3⟩, (e0, lv0, m0, d0, p0, q0), ⟨ak2, H2.length, ck2⟩)) hS1
  · have hRR : ∀ h ∈ F, FlR w0 h := hR
    by_cases hF0 : F = []
    · have h0 : (F).length = 0 := by rw [hF0]; rfl
      (repeat' (first | (show wpListIn _ _ _ _ _ (_ :: _) _ _; first | (refine wx1 ?_; clear hk a; intro a hk) | (refine wx2 ?_ ?_ <;> (intro hp; clear hk a; intro a hk)) | (refine wx3 ?_; clear hk hS a; intro w b hS a hk) | (refine wx4 ?_; clear hk hS a; intro w hS a hk) | (refine wx5 ?_; clear hk hS a; intro w v hS a hk) | fail) | refine wx0 ?_ | (refine s_end hk ?_; clear hk a; intro a hk) | fail))
      refine done1R hk rfl (.str hS (hT := aT rfl) (hs := zT rfl)) (h := ⟨.mk 2 ⟨#[112]⟩ ⟨#[]⟩ ⟨#[]⟩ [] [] [] (0, 0, 0, 0, false, false) [], Small.mk ⟨by unfold in64; omega, by decide, by decide, by decide, by simp, by simp, by simp, by simp, by simp, by simp, by unfold in64; exact ⟨by decide, by decide⟩, by unfold in64; exact ⟨by decide, by decide⟩, by unfold in64; exact ⟨by decide, by decide⟩, by unfold in64; exact ⟨by decide, by decide⟩⟩ (by simp), by simp [cnt, cntL]; omega, ?_⟩)
      have hS1 := (((hS.nil.nilT 9 ByteArray).nilT 71 (ByteArray × ByteArray)).nilT 80 (ByteArray × Int)).nilT 44 NdH
      exact treeH.of (h := (2, ⟨#[112]⟩, ⟨#[]⟩, ⟨#[]⟩, ⟨none, 0, 0⟩, ⟨none, 0, 0⟩, ⟨none, 0, 0⟩, (0, 0, 0, 0, false, false), ⟨none, 0, 0⟩)) (treeR.of (A1 := OwT 9 ([] : List ByteArray) (.slice none 0 0)) (A2 := OwT 71 ([] : List (ByteArray × ByteArray)) (.slice none 0 0)) (A3 := OwT 80 ([] : List (ByteArray × Int)) (.slice none 0 0)) (A4 := OwT 44 ([] : List NdH) (.slice none 0 0)) (H := []) (kids := []) ((forR.nil hS1).sub (by (repeat (first | exact Sub.nil | exact Sub.refl | refine Sub.cons (by (repeat (first | exact At.here | apply At.there))) ?_)))))
    · have h1 : 0 < (F).length := List.length_pos_iff.2 hF0
      obtain ⟨x, hx⟩ : ∃ x, (F)[0]? = some x := ⟨_, List.getElem?_eq_getElem h1⟩
      obtain ⟨dp, k, tag, key, text, cl, al, sl, e, lv, m, d, p, q, a1, a2, a3, m1, m2, m3, rfl, c1, c2, c3, b1, b2, b3, b4, b5, b6, b7⟩ := hRR x (List.mem_of_getElem? hx)
      (repeat' (first | (show wpListIn _ _ _ _ _ (_ :: _) _ _; first | (refine wx1 ?_; clear hk a; intro a hk) | (refine wx2 ?_ ?_ <;> (intro hp; clear hk a; intro a hk)) | (refine wx3 ?_; clear hk hS a; intro w b hS a hk) | (refine wx4 ?_; clear hk hS a; intro w hS a hk) | (refine wx5 ?_; clear hk hS a; intro w v hS a hk) | fail) | refine wx0 ?_ | (refine s_end hk ?_; clear hk a; intro a hk) | fail))
      refine sg hk (g_callO hk (hf := by kernel_rfl) (hc := node07_any dp k tag key text cl al sl e lv m d p q a1 a2 a3 m1 m2 m3 _ (hS.rdT c1) (hS.rdT c2) (hS.rdT c3)) (h := ?_)); clear hk a; rintro vn w hS1 a hk; replace hS := hS.call hS1; clear hS1
      rw [List.cons_append, List.nil_append] at hS
      obtain ⟨hd1, rfl, hS1⟩ := St.tree hS .here
      clear hS
      have hS := hS1
      clear hS1
      obtain ⟨k0, tag0, key0, text0, cl0, al0, sl0, e0, lv0, m0, d0, p0, q0, kids0, A1, M1, A2, M2, A3, M3, A4, M4, H0, he, rfl, _⟩ := (hS.trR .here).split
      have hok := okN_node (tag := tag) (key := key) (text := text) (cl := cl) (al := al) (p := p) (q := q) b2 b3 b4 b5 b6 b7
      unfold nodeF at he hS
      injection he with q1 q2 q3 q4 q5 q6 q7 q8 q9
      rw [q1, q2, q3, q4, q5, q6, q7, q8, q9] at hS
      rw [q1, q2, q3, q4, q5, q6, q7, q8] at hok
      clear q1 q2 q3 q4 q5 q6 q7 q8 q9
      (repeat' (first | (show wpListIn _ _ _ _ _ (_ :: _) _ _; first | (refine wx1 ?_; clear hk a; intro a hk) | (refine wx2 ?_ ?_ <;> (intro hp; clear hk a; intro a hk)) | (refine wx3 ?_; clear hk hS a; intro w b hS a hk) | (refine wx4 ?_; clear hk hS a; intro w hS a hk) | (refine wx5 ?_; clear hk hS a; intro w v hS a hk) | fail) | refine wx0 ?_ | (refine s_end hk ?_; clear hk a; intro a hk) | fail))
      refine sg hk (g_callO hk (hf := by kernel_rfl) (hc := kids07_any (F) v (by omega) ((F).length + 1) 1 dp _ (by omega) (by omega) (hS.rdT hv) (fun h hh => (hRR h hh).frz hS.frz)) (h := ?_)); clear hk a; rintro vr w ⟨ts2, H2, at2, ak2, ck2, rfl, r1, r2, r3, r4, hS1⟩ a hk; replace hS := hS.call hS1; clear hS1
      rw [List.cons_append, List.cons_append, List.nil_append] at hS
      (repeat' (first | (show wpListIn _ _ _ _ _ (_ :: _) _ _; first | (refine wx1 ?_; clear hk a; intro a hk) | (refine wx2 ?_ ?_ <;> (intro hp; clear hk a; intro a hk)) | (refine wx3 ?_; clear hk hS a; intro w b hS a hk) | (refine wx4 ?_; clear hk hS a; intro w hS a hk) | (refine wx5 ?_; clear hk hS a; intro w v hS a hk) | fail) | refine wx0 ?_ | (refine s_end hk ?_; clear hk a; intro a hk) | fail))
      refine done1R hk rfl (.str hS (hT := aT rfl) (hs := zT rfl)) (h := ⟨.mk k0 tag0 key0 text0 cl0 al0 sl0 (e0, lv0, m0, d0, p0, q0) ts2, .mk hok r4, by simp only [cnt]; omega, ?_⟩)
      have hS1 := treeR.kids (k := k0) (tag := tag0) (key := key0) (text := text0) (cl := cl0) (at_ := al0) (st := sl0) (o := (e0, lv0, m0, d0, p0, q0)) (hc := ⟨A1, cl0.length, M1⟩) (ha := ⟨A2, al0.length, M2⟩) (hs := ⟨A3, sl0.length, M3⟩) (hk0 := ⟨A4, H0.length, M4⟩) (kids := ts2) (kids0 := kids0) (E := 44) (hk := ⟨ak2, H2.length, ck2⟩) (H := H2) (L := []) (hS.sub (by (repeat (first | exact Sub.nil | exact Sub.refl | refine Sub.cons (by (repeat (first | exact At.here | apply At.there))) ?_))))
      exact treeH.of (h := (k0, tag0, key0, text0, ⟨A1, cl0.length, M1⟩, ⟨A2, al0.length, M2⟩, ⟨A3, sl0.length, M3⟩, (e0, lv0, m0, d0, p0, q0), ⟨ak2, H2.length, ck2⟩)) hS1
end Go.Proofs.Ytakejjfmbgbedaa
namespace Go.Proofs.Ytakejjfmbgbedaa
open Go.RowKit
set_option maxRecDepth 100000
attribute [local irreducible] Go.Code.wpIn Go.wpListIn Go.Calls Gives Go.Exit.then Go.Exit.inBlock Done ObxE

abbrev own3 (E1 E2 E3 : TypeId) (cl : List ByteArray) (sl : List PrS) (il : List PrI) (v : Value) : HP :=
  bagH (fun (u : Value × Value × Value) => [OwT E1 cl u.1, OwT E2 sl u.2.1, OwT E3 il u.2.2]) (fun u => v = .agg #[u.1, u.2.1, u.2.2])
theorem own3.rd {E1 E2 E3 : TypeId} {cl : List ByteArray} {sl : List PrS} {il : List PrI} {v : Value} {w : World} (h : (own3 E1 E2 E3 cl sl il v).rd w) : ∃ a b c, v = .agg #[a, b, c] ∧ SlT cl a w ∧ SlT sl b w ∧ SlT il c w := by
  obtain ⟨⟨a, b, c⟩, e, F, hs⟩ := bagH.rd h
  exact ⟨a, b, c, e, OwT.rd (hs.rd .here), OwT.rd (hs.rd (.there .here)), OwT.rd (hs.rd (.there (.there .here)))⟩

theorem put3 {cl : List ByteArray} {sl : List PrS} {il : List PrI} (k m x y : Int) {vc vs vi : Value} {w0 : World} (hc : SlT cl vc w0) (hs : SlT sl vs w0) (hi : SlT il vi w0)
    (hcl : cl.length ≤ 800) (hsl : sl.length ≤ 800) (hil : il.length ≤ 800) :
    Calls Try.prog 11 #[.agg #[.int .i64 k, .int .i64 m, .int .i64 x, .int .i64 y], .agg #[vc, vs, vi]] w0
      (Ret fun v w => St w0 [own3 9 61 86 (clnC (cl ++ clsL k m)) (snapF nmS (sl ++ ghoP k)) (snapF nmI (il ++ movP m x y)) v] w) :=
  Calls.mono (put_any cl sl il k m x y _ _ _ w0 hc hs hi hcl hsl hil) (fun _ _ h => h.mono (fun v w ⟨a, b, c, e, h⟩ => bagH.of (x := (a, b, c)) h e))
theorem movP_len (m x y : Int) : (movP m x y).length ≤ 2 := by unfold movP; split <;> simp
theorem ghoP_len (k : Int) : (ghoP k).length ≤ 1 := by unfold ghoP; split <;> simp

end Go.Proofs.Ytakejjfmbgbedaa
namespace Go.Proofs.Ytakejjfmbgbedaa
open Lib (decDigits itoa)

def digB (b : UInt8) : Bool := decide (48 ≤ b.toNat ∧ b.toNat ≤ 57)
def valL (l : List UInt8) : Nat := l.foldl (fun n b => 10 * n + (b.toNat - 48)) 0
def sgnL (L : List UInt8) : Bool := decide (L.head? = some 45)
def digL (L : List UInt8) : List UInt8 := if sgnL L then L.tail else L
def numL (L : List UInt8) : Int := if sgnL L then -((valL (digL L) : Nat) : Int) else ((valL (digL L) : Nat) : Int)
def badD (L : List UInt8) : Prop := digL L = [] ∨ 10 < (digL L).length ∨ (digL L).all digB = false
def zerD (L : List UInt8) : Prop := (digL L).head? = some 48 ∧ (1 < (digL L).length ∨ sgnL L = true)
def outR (m : Int) : Prop := m < -2147483648 ∨ 2147483647 < m
instance (L : List UInt8) : Decidable (badD L) := by unfold badD; infer_instance
instance (L : List UInt8) : Decidable (zerD L) := by unfold zerD; infer_instance
instance (m : Int) : Decidable (outR m) := by unfold outR; infer_instance
def numP (L : List UInt8) : Int × Bool := if badD L ∨ zerD L ∨ outR (numL L) then (0, false) else (numL L, true)
end Go.Proofs.Ytakejjfmbgbedaa
namespace Go.Proofs.Ytakejjfmbgbedaa
open Go.RowKit
set_option maxRecDepth 100000
attribute [local irreducible] Go.Code.wpIn Go.wpListIn Go.Calls Gives Go.Exit.then Go.Exit.inBlock Done ObxE

def letB (b : UInt8) : Bool := decide (97 ≤ b.toNat ∧ b.toNat ≤ 122)
def plaB (b : UInt8) : Bool := decide ((97 ≤ b.toNat ∧ b.toNat ≤ 122) ∨ (48 ≤ b.toNat ∧ b.toNat ≤ 57) ∨ b.toNat = 45)
def visB (b : UInt8) : Bool := decide (32 < b.toNat ∧ b.toNat ≤ 126 ∧ b.toNat ≠ 39 ∧ b.toNat ≠ 40 ∧ b.toNat ≠ 41)
def priB (b : UInt8) : Bool := decide (32 ≤ b.toNat ∧ b.toNat ≤ 126 ∧ b.toNat ≠ 39)
theorem byte_at {s : ByteArray} {i : Nat} (h : i < s.size) : s.data.toList[i]? = some s[i] := by
  rw [List.getElem?_eq_getElem (by simpa using h)]
  congr 1
theorem all_take {s : ByteArray} {i : Nat} (h : i < s.size) (p : UInt8 → Bool) : (s.data.toList.take (i + 1)).all p = ((s.data.toList.take i).all p && p s[i]) := by
  rw [List.take_add_one, byte_at h, List.all_append]
  simp
theorem all_no {s : ByteArray} {i : Nat} (h : i < s.size) {p : UInt8 → Bool} (hp : p s[i] = false) : s.data.toList.all p = false := by
  have hs : s.data.toList = s.data.toList.take (i + 1) ++ s.data.toList.drop (i + 1) := (List.take_append_drop _ _).symm
  rw [hs, List.all_append, all_take h, hp]
  simp
theorem all_full (s : ByteArray) : s.data.toList.take s.size = s.data.toList := List.take_of_length_le (by simp)
def keyS (s : ByteArray) : Bool := decide (1 ≤ s.size ∧ s.size ≤ 16) && s.data.toList.all plaB
def nameS (s : ByteArray) : Bool := keyS s && (match s.data.toList with | [] => false | a :: _ => letB a)
def valS (s : ByteArray) : Bool := decide (s.size ≤ 32) && s.data.toList.all visB
def txtS (s : ByteArray) : Bool := decide (s.size ≤ 64) && s.data.toList.all priB
def rsvS (s : ByteArray) : Bool := decide (2 ≤ s.size ∧ s.extract 0 2 = ⟨#[116, 45]⟩)
def chkS (s : ByteArray) : Int := if nameS s then (if rsvS s then 6 else 0) else 2
theorem head_at {s : ByteArray} (h : 0 < s.size) : (match s.data.toList with | [] => false | a :: _ => letB a) = letB s[0] := by
  have := byte_at h
  cases hl : s.data.toList with
  | nil => rw [hl] at this; cases this
  | cons a r => rw [hl] at this; simp only [List.getElem?_cons_zero, Option.some.injEq] at this; rw [this]

end Go.Proofs.Ytakejjfmbgbedaa
namespace Go.Proofs.Ytakejjfmbgbedaa
open Go.RowKit
set_option maxRecDepth 100000
attribute [local irreducible] Go.Code.wpIn Go.wpListIn Go.Calls Gives Go.Exit.then Go.Exit.inBlock Done ObxE

theorem prefix_any (s p : ByteArray) (w0 : World) : Calls Try.prog 78 #[.string s, .string p] w0 (Ret fun v w => v = .bool (decide (p.size ≤ s.size ∧ s.extract 0 p.size = p)) ∧ St w0 [] w) := by
  refine enter Try.func78 rfl Try.ntmps78 rfl (fun a hk => ?_); have hS := St.refl w0
  by_cases h : p.size ≤ s.size
  · (repeat' (first | (show wpListIn _ _ _ _ _ (_ :: _) _ _; first | (refine wx1 ?_; clear hk a; intro a hk) | (refine wx2 ?_ ?_ <;> (intro hp; clear hk a; intro a hk)) | (refine wx3 ?_; clear hk hS a; intro w b hS a hk) | (refine wx4 ?_; clear hk hS a; intro w hS a hk) | (refine wx5 ?_; clear hk hS a; intro w v hS a hk) | fail) | refine wx0 ?_ | (refine s_end hk ?_; clear hk a; intro a hk) | fail))
    all_goals first
      | exact done1 hk (h := ⟨by rw [decide_eq_true ⟨h, by simpa using (by assumption)⟩], hS.nil⟩)
      | exact done1 hk (h := ⟨by rw [decide_eq_false (fun e => absurd e.2 (by simpa using (by assumption)))], hS.nil⟩)
  · (repeat' (first | (show wpListIn _ _ _ _ _ (_ :: _) _ _; first | (refine wx1 ?_; clear hk a; intro a hk) | (refine wx2 ?_ ?_ <;> (intro hp; clear hk a; intro a hk)) | (refine wx3 ?_; clear hk hS a; intro w b hS a hk) | (refine wx4 ?_; clear hk hS a; intro w hS a hk) | (refine wx5 ?_; clear hk hS a; intro w v hS a hk) | fail) | refine wx0 ?_ | (refine s_end hk ?_; clear hk a; intro a hk) | fail))
    exact done1 hk (h := ⟨by rw [decide_eq_false (fun e => h e.1)], hS.nil⟩)
theorem hasPrefix_any (s p : ByteArray) (w0 : World) : Calls Try.prog 62 #[.string s, .string p] w0 (Ret fun v w => v = .bool (decide (p.size ≤ s.size ∧ s.extract 0 p.size = p)) ∧ St w0 [] w) := by
  refine enter Try.func62 rfl Try.ntmps62 rfl (fun a hk => ?_); have hS := St.refl w0
  (repeat' (first | (show wpListIn _ _ _ _ _ (_ :: _) _ _; first | (refine wx1 ?_; clear hk a; intro a hk) | (refine wx2 ?_ ?_ <;> (intro hp; clear hk a; intro a hk)) | (refine wx3 ?_; clear hk hS a; intro w b hS a hk) | (refine wx4 ?_; clear hk hS a; intro w hS a hk) | (refine wx5 ?_; clear hk hS a; intro w v hS a hk) | fail) | refine wx0 ?_ | (refine s_end hk ?_; clear hk a; intro a hk) | fail))
  refine sg hk (g_callO hk (hf := by kernel_rfl) (hc := prefix_any s p _) (h := ?_)); clear hk a; rintro _ w ⟨rfl, hS1⟩ a hk; replace hS := hS.call0 hS1; clear hS1
  (repeat' (first | (show wpListIn _ _ _ _ _ (_ :: _) _ _; first | (refine wx1 ?_; clear hk a; intro a hk) | (refine wx2 ?_ ?_ <;> (intro hp; clear hk a; intro a hk)) | (refine wx3 ?_; clear hk hS a; intro w b hS a hk) | (refine wx4 ?_; clear hk hS a; intro w hS a hk) | (refine wx5 ?_; clear hk hS a; intro w v hS a hk) | fail) | refine wx0 ?_ | (refine s_end hk ?_; clear hk a; intro a hk) | fail))
  exact done1 hk (h := ⟨rfl, hS.nil⟩)

end Go.Proofs.Ytakejjfmbgbedaa
