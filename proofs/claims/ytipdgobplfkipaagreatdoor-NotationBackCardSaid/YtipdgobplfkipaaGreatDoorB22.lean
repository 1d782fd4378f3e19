/- Layer 7: the view of flat nodes. Layer 7: flat nodes, as the form reads them. Layer 8: a view that may be is read from how it is written: the law. -/
import Derived.Test.YtipdgobplfkipaaGreatDoorB19
import Derived.Test.YtipdgobplfkipaaGreatDoorB08
import Derived.Test.YtipdgobplfkipaaGreatDoorB03
import Derived.Test.YtipdgobplfkipaaGreatDoorB16
import Derived.Test.YtipdgobplfkipaaGreatDoorB21
import Derived.Test.YtipdgobplfkipaaGreatDoorRows
import Derived.Lay
import Derived.SevenTiedAt
set_option linter.all false
namespace Go.Proofs.YtipdgobplfkipaaGreatDoor
open Go.RowKit
set_option maxRecDepth 100000
attribute [local irreducible] Go.Code.wpIn Go.wpListIn Go.Calls Gives Go.Exit.then Go.Exit.inBlock Done ObxE

set_option maxHeartbeats 4000000 in
theorem tree07_any (F : List FlH) (v : Value) (most : Nat) (hm1 : 1 ≤ most) (hm2 : most ≤ 1000) (w0 : World) (hv : SlT F v w0) (hR : ∀ h ∈ F, FlR w0 h) :
    Calls Tryz.prog 15 #[v, .int .i64 (most : Int)] w0 (Ret fun u w => ∃ t, Small t ∧ cnt t ≤ most ∧ St w0 [treeH t u] w) := by
  have hF63 : F.length ≤ maxLen := hv.len_le
  simp only [maxLen] at hF63
  refine enter Tryz.func15 rfl Tryz.ntmps15 rfl (fun a hk => ?_); have hS := St.refl w0
  by_cases hgt : most < F.length
  · have hl : (F.take most).length = most := by rw [List.length_take]; omega
    have hRR : ∀ h ∈ F.take most, FlR w0 h := fun h hh => hR h (List.mem_of_mem_take hh)
    (repeat' (first | (show wpListIn _ _ _ _ _ (_ :: _) _ _; first | (refine wx1 ?_; clear hk a; intro a hk) | (refine wx2 ?_ ?_ <;> (intro hp; clear hk a; intro a hk)) | (refine wx3 ?_; clear hk hS a; intro w b hS a hk) | (refine wx4 ?_; clear hk hS a; intro w hS a hk) | (refine wx5 ?_; clear hk hS a; intro w v hS a hk) | fail) | refine wx0 ?_ | (refine s_end hk ?_; clear hk a; intro a hk) | fail))
    refine sg hk (g_partT (j := most) hk ?_ (ht := eT rfl) (hs := (by first | exact St.rdT hS (by assumption) | exact OwT.rd (hS.rd (A := OwT _ _ _) (by (repeat (first | exact At.here | apply At.there)))) | assumption)) (hE := zT rfl) (hj := by omega)); clear hk a; intro vp hvp a hk
    have hv2 := hvp _ hv
    by_cases hF0 : F.take most = []
    · have h0 : (F.take most).length = 0 := by rw [hF0]; rfl
      (repeat' (first | (show wpListIn _ _ _ _ _ (_ :: _) _ _; first | (refine wx1 ?_; clear hk a; intro a hk) | (refine wx2 ?_ ?_ <;> (intro hp; clear hk a; intro a hk)) | (refine wx3 ?_; clear hk hS a; intro w b hS a hk) | (refine wx4 ?_; clear hk hS a; intro w hS a hk) | (refine wx5 ?_; clear hk hS a; intro w v hS a hk) | fail) | refine wx0 ?_ | (refine s_end hk ?_; clear hk a; intro a hk) | fail))
      refine done1R hk rfl (.str hS (hT := aT rfl) (hs := zT rfl)) (h := ⟨.mk 2 ⟨#[112]⟩ ⟨#[]⟩ ⟨#[]⟩ [] [] [] (0, 0, 0, 0, false, false) [], Small.mk ⟨by unfold in64; omega, by decide, by decide, by decide, by simp, by simp, by simp, by simp, by simp, by simp, by unfold in64; exact ⟨by decide, by decide⟩, by unfold in64; exact ⟨by decide, by decide⟩, by unfold in64; exact ⟨by decide, by decide⟩, by unfold in64; exact ⟨by decide, by decide⟩⟩ (by simp), by simp [cnt, cntL]; omega, ?_⟩)
      have hS1 := (((hS.nil.nilT 9 ByteArray).nilT 73 (ByteArray × ByteArray)).nilT 75 (ByteArray × Int)).nilT 42 NdH
      exact treeH.of (h := (2, ⟨#[112]⟩, ⟨#[]⟩, ⟨#[]⟩, ⟨none, 0, 0⟩, ⟨none, 0, 0⟩, ⟨none, 0, 0⟩, (0, 0, 0, 0, false, false), ⟨none, 0, 0⟩)) (treeR.of (A1 := OwT 9 ([] : List ByteArray) (.slice none 0 0)) (A2 := OwT 73 ([] : List (ByteArray × ByteArray)) (.slice none 0 0)) (A3 := OwT 75 ([] : List (ByteArray × Int)) (.slice none 0 0)) (A4 := OwT 42 ([] : List NdH) (.slice none 0 0)) (H := []) (kids := []) ((forR.nil hS1).sub (by (repeat (first | exact Sub.nil | exact Sub.refl | refine Sub.cons (by (repeat (first | exact At.here | apply At.there))) ?_)))))
    · have h1 : 0 < (F.take most).length := List.length_pos_iff.2 hF0
      obtain ⟨x, hx⟩ : ∃ x, (F.take most)[0]? = some x := ⟨_, List.getElem?_eq_getElem h1⟩
      obtain ⟨dp, k, tag, key, text, cl, al, sl, e, lv, m, d, p, q, a1, a2, a3, m1, m2, m3, rfl, c1, c2, c3, b1, b2, b3, b4, b5, b6, b7⟩ := hRR x (List.mem_of_getElem? hx)
      (repeat' (first | (show wpListIn _ _ _ _ _ (_ :: _) _ _; first | (refine wx1 ?_; clear hk a; intro a hk) | (refine wx2 ?_ ?_ <;> (intro hp; clear hk a; intro a hk)) | (refine wx3 ?_; clear hk hS a; intro w b hS a hk) | (refine wx4 ?_; clear hk hS a; intro w hS a hk) | (refine wx5 ?_; clear hk hS a; intro w v hS a hk) | fail) | refine wx0 ?_ | (refine s_end hk ?_; clear hk a; intro a hk) | fail))
      refine sg hk (g_callO hk (hf := by kernel_rfl) (hc := node07_any dp k tag key text cl al sl e lv m d p q a1 a2 a3 m1 m2 m3 _ (hS.rdT c1) (hS.rdT c2) (hS.rdT c3)) (h := ?_)); clear hk a; rintro vn w hS1 a hk; replace hS := hS.call hS1; clear hS1
      rw [List.cons_append, List.nil_append] at hS
      obtain ⟨hd1, rfl, hS1⟩ := St.tree hS .here
      clear hS
      have hS := hS1
      clear hS1
      obtain ⟨k0, tag0, key0, text0, cl0, al0, sl0, e0, lv0, m0, d0, p0, q0, kids0, A1, M1, A2, M2, A3, M3, A4, M4, H0, he, rfl, _⟩ := (hS.trR .here).split
      have hok := okN_node (tag := tag) (key := key) (text := text) (cl := cl) (al := al) (p := p) (q := q) b2 b3 b4 b5 b6 b7
      unfold nodeF at he hS
      injection he with q1 q2 q3 q4 q5 q6 q7 q8 q9
      rw [q1, q2, q3, q4, q5, q6, q7, q8, q9] at hS
      rw [q1, q2, q3, q4, q5, q6, q7, q8] at hok
      clear q1 q2 q3 q4 q5 q6 q7 q8 q9
      (repeat' (first | (show wpListIn _ _ _ _ _ (_ :: _) _ _; first | (refine wx1 ?_; clear hk a; intro a hk) | (refine wx2 ?_ ?_ <;> (intro hp; clear hk a; intro a hk)) | (refine wx3 ?_; clear hk hS a; intro w b hS a hk) | (refine wx4 ?_; clear hk hS a; intro w hS a hk) | (refine wx5 ?_; clear hk hS a; intro w v hS a hk) | fail) | refine wx0 ?_ | (refine s_end hk ?_; clear hk a; intro a hk) | fail))
      refine sg hk (g_callO hk (hf := by kernel_rfl) (hc := kids07_any (F.take most) vp (by omega) ((F.take most).length + 1) 1 dp _ (by omega) (by omega) (hS.rdT hv2) (fun h hh => (hRR h hh).frz hS.frz)) (h := ?_)); clear hk a; rintro vr w ⟨ts2, H2, at2, ak2, ck2, rfl, r1, r2, r3, r4, hS1⟩ a hk; replace hS := hS.call hS1; clear hS1
      rw [List.cons_append, List.cons_append, List.nil_append] at hS
      (repeat' (first | (show wpListIn _ _ _ _ _ (_ :: _) _ _; first | (refine wx1 ?_; clear hk a; intro a hk) | (refine wx2 ?_ ?_ <;> (intro hp; clear hk a; intro a hk)) | (refine wx3 ?_; clear hk hS a; intro w b hS a hk) | (refine wx4 ?_; clear hk hS a; intro w hS a hk) | (refine wx5 ?_; clear hk hS a; intro w v hS a hk) | fail) | refine wx0 ?_ | (refine s_end hk ?_; clear hk a; intro a hk) | fail))
      refine done1R hk rfl (.str hS (hT := aT rfl) (hs := zT rfl)) (h := ⟨.mk k0 tag0 key0 text0 cl0 al0 sl0 (e0, lv0, m0, d0, p0, q0) ts2, .mk hok r4, by simp only [cnt]; omega, ?_⟩)
      have hS1 := treeR.kids (k := k0) (tag := tag0) (key := key0) (text := text0) (cl := cl0) (at_ := al0) (st := sl0) (o := (e0, lv0, m0, d0, p0, q0)) (hc := ⟨A1, cl0.length, M1⟩) (ha := ⟨A2, al0.length, M2⟩) (hs := ⟨A3, sl0.length, M3⟩) (hk0 := ⟨A4, H0.length, M4⟩) (kids := ts2) (kids0 := kids0) (E := 42) (hk := ⟨ak2, H2.length, ck2⟩) (H := H2) (L := []) (hS.sub (by (repeat (first | exact Sub.nil | exact Sub.refl | refine Sub.cons (by (repeat (first | exact At.here | apply At.there))) ?_))))
      exact treeH.of (h := (k0, tag0, key0, text0, ⟨A1, cl0.length, M1⟩, ⟨A2, al0.length, M2⟩, ⟨A3, sl0.length, M3⟩, (e0, lv0, m0, d0, p0, q0), ⟨ak2, H2.length, ck2⟩)) hS1
  · have hRR : ∀ h ∈ F, FlR w0 h := hR
    by_cases hF0 : F = []
    · have h0 : (F).length = 0 := by rw [hF0]; rfl
      (repeat' (first | (show wpListIn _ _ _ _ _ (_ :: _) _ _; first | (refine wx1 ?_; clear hk a; intro a hk) | (refine wx2 ?_ ?_ <;> (intro hp; clear hk a; intro a hk)) | (refine wx3 ?_; clear hk hS a; intro w b hS a hk) | (refine wx4 ?_; clear hk hS a; intro w hS a hk) | (refine wx5 ?_; clear hk hS a; intro w v hS a hk) | fail) | refine wx0 ?_ | (refine s_end hk ?_; clear hk a; intro a hk) | fail))
      refine done1R hk rfl (.str hS (hT := aT rfl) (hs := zT rfl)) (h := ⟨.mk 2 ⟨#[112]⟩ ⟨#[]⟩ ⟨#[]⟩ [] [] [] (0, 0, 0, 0, false, false) [], Small.mk ⟨by unfold in64; omega, by decide, by decide, by decide, by simp, by simp, by simp, by simp, by simp, by simp, by unfold in64; exact ⟨by decide, by decide⟩, by unfold in64; exact ⟨by decide, by decide⟩, by unfold in64; exact ⟨by decide, by decide⟩, by unfold in64; exact ⟨by decide, by decide⟩⟩ (by simp), by simp [cnt, cntL]; omega, ?_⟩)
      have hS1 := (((hS.nil.nilT 9 ByteArray).nilT 73 (ByteArray × ByteArray)).nilT 75 (ByteArray × Int)).nilT 42 NdH
      exact treeH.of (h := (2, ⟨#[112]⟩, ⟨#[]⟩, ⟨#[]⟩, ⟨none, 0, 0⟩, ⟨none, 0, 0⟩, ⟨none, 0, 0⟩, (0, 0, 0, 0, false, false), ⟨none, 0, 0⟩)) (treeR.of (A1 := OwT 9 ([] : List ByteArray) (.slice none 0 0)) (A2 := OwT 73 ([] : List (ByteArray × ByteArray)) (.slice none 0 0)) (A3 := OwT 75 ([] : List (ByteArray × Int)) (.slice none 0 0)) (A4 := OwT 42 ([] : List NdH) (.slice none 0 0)) (H := []) (kids := []) ((forR.nil hS1).sub (by (repeat (first | exact Sub.nil | exact Sub.refl | refine Sub.cons (by (repeat (first | exact At.here | apply At.there))) ?_)))))
    · have h1 : 0 < (F).length := List.length_pos_iff.2 hF0
      obtain ⟨x, hx⟩ : ∃ x, (F)[0]? = some x := ⟨_, List.getElem?_eq_getElem h1⟩
      obtain ⟨dp, k, tag, key, text, cl, al, sl, e, lv, m, d, p, q, a1, a2, a3, m1, m2, m3, rfl, c1, c2, c3, b1, b2, b3, b4, b5, b6, b7⟩ := hRR x (List.mem_of_getElem? hx)
      (repeat' (first | (show wpListIn _ _ _ _ _ (_ :: _) _ _; first | (refine wx1 ?_; clear hk a; intro a hk) | (refine wx2 ?_ ?_ <;> (intro hp; clear hk a; intro a hk)) | (refine wx3 ?_; clear hk hS a; intro w b hS a hk) | (refine wx4 ?_; clear hk hS a; intro w hS a hk) | (refine wx5 ?_; clear hk hS a; intro w v hS a hk) | fail) | refine wx0 ?_ | (refine s_end hk ?_; clear hk a; intro a hk) | fail))
      refine sg hk (g_callO hk (hf := by kernel_rfl) (hc := node07_any dp k tag key text cl al sl e lv m d p q a1 a2 a3 m1 m2 m3 _ (hS.rdT c1) (hS.rdT c2) (hS.rdT c3)) (h := ?_)); clear hk a; rintro vn w hS1 a hk; replace hS := hS.call hS1; clear hS1
      rw [List.cons_append, List.nil_append] at hS
      obtain ⟨hd1, rfl, hS1⟩ := St.tree hS .here
      clear hS
      have hS := hS1
      clear hS1
      obtain ⟨k0, tag0, key0, text0, cl0, al0, sl0, e0, lv0, m0, d0, p0, q0, kids0, A1, M1, A2, M2, A3, M3, A4, M4, H0, he, rfl, _⟩ := (hS.trR .here).split
      have hok := okN_node (tag := tag) (key := key) (text := text) (cl := cl) (al := al) (p := p) (q := q) b2 b3 b4 b5 b6 b7
      unfold nodeF at he hS
      injection he with q1 q2 q3 q4 q5 q6 q7 q8 q9
      rw [q1, q2, q3, q4, q5, q6, q7, q8, q9] at hS
      rw [q1, q2, q3, q4, q5, q6, q7, q8] at hok
      clear q1 q2 q3 q4 q5 q6 q7 q8 q9
      (repeat' (first | (show wpListIn _ _ _ _ _ (_ :: _) _ _; first | (refine wx1 ?_; clear hk a; intro a hk) | (refine wx2 ?_ ?_ <;> (intro hp; clear hk a; intro a hk)) | (refine wx3 ?_; clear hk hS a; intro w b hS a hk) | (refine wx4 ?_; clear hk hS a; intro w hS a hk) | (refine wx5 ?_; clear hk hS a; intro w v hS a hk) | fail) | refine wx0 ?_ | (refine s_end hk ?_; clear hk a; intro a hk) | fail))
      refine sg hk (g_callO hk (hf := by kernel_rfl) (hc := kids07_any (F) v (by omega) ((F).length + 1) 1 dp _ (by omega) (by omega) (hS.rdT hv) (fun h hh => (hRR h hh).frz hS.frz)) (h := ?_)); clear hk a; rintro vr w ⟨ts2, H2, at2, ak2, ck2, rfl, r1, r2, r3, r4, hS1⟩ a hk; replace hS := hS.call hS1; clear hS1
      rw [List.cons_append, List.cons_append, List.nil_append] at hS
      (repeat' (first | (show wpListIn _ _ _ _ _ (_ :: _) _ _; first | (refine wx1 ?_; clear hk a; intro a hk) | (refine wx2 ?_ ?_ <;> (intro hp; clear hk a; intro a hk)) | (refine wx3 ?_; clear hk hS a; intro w b hS a hk) | (refine wx4 ?_; clear hk hS a; intro w hS a hk) | (refine wx5 ?_; clear hk hS a; intro w v hS a hk) | fail) | refine wx0 ?_ | (refine s_end hk ?_; clear hk a; intro a hk) | fail))
      refine done1R hk rfl (.str hS (hT := aT rfl) (hs := zT rfl)) (h := ⟨.mk k0 tag0 key0 text0 cl0 al0 sl0 (e0, lv0, m0, d0, p0, q0) ts2, .mk hok r4, by simp only [cnt]; omega, ?_⟩)
      have hS1 := treeR.kids (k := k0) (tag := tag0) (key := key0) (text := text0) (cl := cl0) (at_ := al0) (st := sl0) (o := (e0, lv0, m0, d0, p0, q0)) (hc := ⟨A1, cl0.length, M1⟩) (ha := ⟨A2, al0.length, M2⟩) (hs := ⟨A3, sl0.length, M3⟩) (hk0 := ⟨A4, H0.length, M4⟩) (kids := ts2) (kids0 := kids0) (E := 42) (hk := ⟨ak2, H2.length, ck2⟩) (H := H2) (L := []) (hS.sub (by (repeat (first | exact Sub.nil | exact Sub.refl | refine Sub.cons (by (repeat (first | exact At.here | apply At.there))) ?_))))
      exact treeH.of (h := (k0, tag0, key0, text0, ⟨A1, cl0.length, M1⟩, ⟨A2, al0.length, M2⟩, ⟨A3, sl0.length, M3⟩, (e0, lv0, m0, d0, p0, q0), ⟨ak2, H2.length, ck2⟩)) hS1
end Go.Proofs.YtipdgobplfkipaaGreatDoor
namespace Go.Proofs.YtipdgobplfkipaaGreatDoor
open Go.RowKit
set_option maxRecDepth 100000
attribute [local irreducible] Go.Code.wpIn Go.wpListIn Go.Calls Gives Go.Exit.then Go.Exit.inBlock Done ObxE

theorem rdg_attr {W : World} {D : Nat} {us : List Value} (h : Rdg Tryz.prog W (D + 2) 73 us) : ∃ x : ByteArray × ByteArray, Enc.f x = us := by
  have hl := rdg_len Tryz.underlying73 h (zT rfl)
  obtain ⟨a, ha, _⟩ := rdg_str (sT rfl) (rdg_fld Tryz.underlying73 h (i := 0) rfl (zT rfl))
  obtain ⟨b, hb, _⟩ := rdg_str (sT rfl) (rdg_fld Tryz.underlying73 h (i := 1) rfl (zT rfl))
  match us, hl with
  | [u0, u1], _ =>
    simp at ha hb
    subst ha hb
    exact ⟨(a, b), rfl⟩
theorem rdg_pair {W : World} {D : Nat} {us : List Value} (h : Rdg Tryz.prog W (D + 2) 75 us) : ∃ x : ByteArray × Int, Enc.f x = us ∧ in64 x.2 := by
  have hl := rdg_len Tryz.underlying75 h (zT rfl)
  obtain ⟨a, ha, _⟩ := rdg_str (sT rfl) (rdg_fld Tryz.underlying75 h (i := 0) rfl (zT rfl))
  obtain ⟨b, hb, hr⟩ := rdg_int (iT rfl) (rdg_fld Tryz.underlying75 h (i := 1) rfl (zT rfl))
  match us, hl with
  | [u0, u1], _ =>
    simp at ha hb
    subst ha hb
    exact ⟨(a, b), rfl, hr⟩
theorem rdg_opts {W : World} {D : Nat} {us : List Value} (h : Rdg Tryz.prog W (D + 2) 39 us) : ∃ x : Opt, Enc.f x = us ∧ in64 x.1 ∧ in64 x.2.1 ∧ in64 x.2.2.1 ∧ in64 x.2.2.2.1 := by
  have hl := rdg_len Tryz.underlying39 h (zT rfl)
  obtain ⟨a, ha, r1⟩ := rdg_int (iT rfl) (rdg_fld Tryz.underlying39 h (i := 0) rfl (zT rfl))
  obtain ⟨b, hb, r2⟩ := rdg_int (iT rfl) (rdg_fld Tryz.underlying39 h (i := 1) rfl (zT rfl))
  obtain ⟨c, hc, r3⟩ := rdg_int (iT rfl) (rdg_fld Tryz.underlying39 h (i := 2) rfl (zT rfl))
  obtain ⟨d, hd, r4⟩ := rdg_int (iT rfl) (rdg_fld Tryz.underlying39 h (i := 3) rfl (zT rfl))
  obtain ⟨e, he⟩ := rdg_bool Tryz.underlying4 (rdg_fld Tryz.underlying39 h (i := 4) rfl (zT rfl))
  obtain ⟨f, hf⟩ := rdg_bool Tryz.underlying4 (rdg_fld Tryz.underlying39 h (i := 5) rfl (zT rfl))
  match us, hl with
  | [u0, u1, u2, u3, u4, u5], _ =>
    simp at ha hb hc hd he hf
    subst ha hb hc hd he hf
    exact ⟨(a, b, c, d, e, f), rfl, r1, r2, r3, r4⟩

theorem rdg_flat {W : World} {D : Nat} {us : List Value} (h : Rdg Tryz.prog W (D + 4) 84 us) : ∃ x : FlH, Enc.f x = us ∧ FlR W x := by
  have hl := rdg_len Tryz.underlying84 h (zT rfl)
  obtain ⟨a, h0, r1⟩ := rdg_int (iT rfl) (rdg_fld Tryz.underlying84 h (i := 0) rfl (zT rfl))
  obtain ⟨b, h1, r2⟩ := rdg_int (iT rfl) (rdg_fld Tryz.underlying84 h (i := 1) rfl (zT rfl))
  obtain ⟨c, h2, _⟩ := rdg_str (sT rfl) (rdg_fld Tryz.underlying84 h (i := 2) rfl (zT rfl))
  obtain ⟨d, h3, _⟩ := rdg_str (sT rfl) (rdg_fld Tryz.underlying84 h (i := 3) rfl (zT rfl))
  obtain ⟨e, h4, _⟩ := rdg_str (sT rfl) (rdg_fld Tryz.underlying84 h (i := 4) rfl (zT rfl))
  obtain ⟨v5, cl, h5, g5, _⟩ := SlT.of_rdg (α := ByteArray) (fun _ => True) (rdg_fld Tryz.underlying84 h (i := 5) rfl (zT rfl)) (eT rfl) (zT rfl) (fun us _ h => by obtain ⟨s, hs, _⟩ := rdg_str (sT rfl) h; exact ⟨s, hs.symm, trivial⟩)
  obtain ⟨v6, al, h6, g6, _⟩ := SlT.of_rdg (α := ByteArray × ByteArray) (fun _ => True) (rdg_fld Tryz.underlying84 h (i := 6) rfl (zT rfl)) (eT rfl) (zT rfl) (fun us _ h => by obtain ⟨s, hs⟩ := rdg_attr h; exact ⟨s, hs, trivial⟩)
  obtain ⟨v7, sl, h7, g7, g8⟩ := SlT.of_rdg (α := ByteArray × Int) (fun x => in64 x.2) (rdg_fld Tryz.underlying84 h (i := 7) rfl (zT rfl)) (eT rfl) (zT rfl) (fun us _ h => by obtain ⟨s, hs, h2⟩ := rdg_pair h; exact ⟨s, hs, h2⟩)
  obtain ⟨⟨q0, q1, q2, q3, q4, q5⟩, h8, s1, s2, s3, s4⟩ := rdg_opts (rdg_fld Tryz.underlying84 h (i := 8) rfl (zT rfl))
  match us, hl with
  | [u0, u1, u2, u3, u4, u5, u6, u7, u8, u9, u10, u11, u12, u13], _ =>
    simp at h0 h1 h2 h3 h4 h5 h6 h7
    subst h0 h1 h2 h3 h4 h5 h6 h7
    obtain ⟨a5, c5, rfl, _⟩ := g5.shape
    obtain ⟨a6, c6, rfl, _⟩ := g6.shape
    obtain ⟨a7, c7, rfl, _⟩ := g7.shape
    have h8' : ([.int .i64 q0, .int .i64 q1, .int .i64 q2, .int .i64 q3, .bool q4, .bool q5] : List Value) = [u8, u9, u10, u11, u12, u13] := h8
    simp only [List.cons.injEq, and_true] at h8'
    obtain ⟨rfl, rfl, rfl, rfl, rfl, rfl⟩ := h8'
    exact ⟨(a, b, c, d, e, ⟨a5, cl.length, c5⟩, ⟨a6, al.length, c6⟩, ⟨a7, sl.length, c7⟩, (q0, q1, q2, q3, q4, q5)), rfl, a, b, c, d, e, cl, al, sl, q0, q1, q2, q3, q4, q5, a5, a6, a7, c5, c6, c7, rfl, g5, g6, g7, r1, r2, s1, s2, s3, s4, g8⟩

theorem arg_flats {W : World} {v : Value} (h : Arg Tryz.prog W 55 v) : ∃ F : List FlH, SlT F v W ∧ ∀ x ∈ F, FlR W x := by
  obtain ⟨u, xs, h1, h2, h3⟩ := SlT.of_rdg (α := FlH) (FlR W) (D := 7) h.1 (eT rfl) (zT rfl) (fun us _ h => rdg_flat (D := 3) h)
  rw [h.2.2 (aT rfl)] at h1
  simp at h1
  subst h1
  exact ⟨xs, h2, h3⟩
end Go.Proofs.YtipdgobplfkipaaGreatDoor
namespace Go.Proofs.YtipdgobplfkipaaGreatDoor
open Go.RowKit
set_option maxRecDepth 100000
attribute [local irreducible] Go.Code.wpIn Go.wpListIn Go.Calls Gives Go.Exit.then Go.Exit.inBlock Done ObxE

theorem siz_up {X Y : Nat} {t : Tree} (hXY : X ≤ Y) (h : Siz X t) : Siz Y t := by
  induction h with
  | mk h1 h2 h3 h4 h5 h6 _ ih => exact .mk (by omega) (by omega) (by omega) (fun c hc => Nat.le_trans (h4 c hc) hXY) (fun x hx => ⟨Nat.le_trans (h5 x hx).1 hXY, Nat.le_trans (h5 x hx).2 hXY⟩) (fun x hx => Nat.le_trans (h6 x hx) hXY) ih
theorem sam_snapN : ∀ (n : Nat) (t : Tree), SizeOf.sizeOf t < n → samT (snapT t) t = true
  | 0, t, h => absurd h (by omega)
  | n + 1, .mk k tag key text cl al sl o kids, h => by
    rw [snapT, samT]
    have hK : ∀ ts : List Tree, (∀ t ∈ ts, SizeOf.sizeOf t < n) → samL (snapTs ts) ts = true := by
      intro ts
      induction ts with
      | nil => exact fun _ => rfl
      | cons t ts ih =>
        intro hts
        rw [snapTs, samL, ih (fun x hx => hts x (.tail _ hx)), sam_snapN n t (hts t (.head _))]; rfl
    rw [hK kids (fun t ht => by
      have := List.sizeOf_lt_of_mem ht
      simp only [Tree.mk.sizeOf_spec] at h
      omega), snap_snap, snap_snap]
    simp
theorem sam_snap (t : Tree) : samT (snapT t) t = true := sam_snapN _ t (Nat.lt_succ_self _)

set_option maxHeartbeats 8000000 in
theorem noteback_any (F : List FlH) (v : Value) (w0 : World) (hv : SlT F v w0) (hR : ∀ h ∈ F, FlR w0 h) (ht : TabW w0) :
    Calls Tryz.prog 6 #[v] w0 (Ret fun v w => v = .bool true ∧ St w0 [] w) := by
  refine enter Tryz.func6 rfl Tryz.ntmps6 rfl (fun a hk => ?_); have hS := St.refl w0
  (repeat' (first | (show wpListIn _ _ _ _ _ (_ :: _) _ _; first | (refine wx1 ?_; clear hk a; intro a hk) | (refine wx2 ?_ ?_ <;> (intro hp; clear hk a; intro a hk)) | (refine wx3 ?_; clear hk hS a; intro w b hS a hk) | (refine wx4 ?_; clear hk hS a; intro w hS a hk) | (refine wx5 ?_; clear hk hS a; intro w v hS a hk) | fail) | refine wx0 ?_ | (refine s_end hk ?_; clear hk a; intro a hk) | fail))
  refine sg hk (g_callO hk (hf := by kernel_rfl) (hc := awake_any _ (ht.mono hS.below)) (h := ?_)); clear hk a; rintro _ w ⟨rfl, hS1⟩ a hk; replace hS := hS.call0 hS1; clear hS1
  (repeat' (first | (show wpListIn _ _ _ _ _ (_ :: _) _ _; first | (refine wx1 ?_; clear hk a; intro a hk) | (refine wx2 ?_ ?_ <;> (intro hp; clear hk a; intro a hk)) | (refine wx3 ?_; clear hk hS a; intro w b hS a hk) | (refine wx4 ?_; clear hk hS a; intro w hS a hk) | (refine wx5 ?_; clear hk hS a; intro w v hS a hk) | fail) | refine wx0 ?_ | (refine s_end hk ?_; clear hk a; intro a hk) | fail))
  refine sg hk (g_callO hk (hf := by kernel_rfl) (hc := tree07_any F v 25 (by omega) (by omega) _ (hS.rdT hv) (fun h hh => (hR h hh).frz hS.frz)) (h := ?_)); clear hk a; rintro vr w ⟨t, hsm, hcnt, hS1⟩ a hk; replace hS := hS.call hS1; clear hS1
  rw [List.cons_append, List.nil_append] at hS
  have hfits := (hsm.fit (by omega)).fits
  have hpo := small_po hsm (by omega)
  have hsz := prn_size hsm hcnt
  have hsiz : Siz 1000000 t := siz_up (by omega) hsm.siz
  obtain ⟨⟨k1, tag1, key1, text1, ⟨x11, x21, x31⟩, ⟨y11, y21, y31⟩, ⟨z11, z21, z31⟩, ⟨e1, lv1, m1, d1, p1, q1⟩, ⟨u11, u21, u31⟩⟩, rfl, hS1⟩ := St.tree hS .here
  clear hS
  have hS := hS1
  clear hS1
  (repeat' (first | (show wpListIn _ _ _ _ _ (_ :: _) _ _; first | (refine wx1 ?_; clear hk a; intro a hk) | (refine wx2 ?_ ?_ <;> (intro hp; clear hk a; intro a hk)) | (refine wx3 ?_; clear hk hS a; intro w b hS a hk) | (refine wx4 ?_; clear hk hS a; intro w hS a hk) | (refine wx5 ?_; clear hk hS a; intro w v hS a hk) | fail) | refine wx0 ?_ | (refine s_end hk ?_; clear hk a; intro a hk) | fail))
  refine sg hk (g_callO hk (hf := by kernel_rfl) (hc := own07_any _ t (k1, tag1, key1, text1, ⟨x11, x21, x31⟩, ⟨y11, y21, y31⟩, ⟨z11, z21, z31⟩, (e1, lv1, m1, d1, p1, q1), ⟨u11, u21, u31⟩) _ (Nat.lt_succ_self _) hfits (hS.trR (by (repeat (first | exact At.here | apply At.there))))) (h := ?_)); clear hk a; rintro vo w hS1 a hk; replace hS := hS.call hS1; clear hS1
  rw [List.cons_append, List.nil_append] at hS
  obtain ⟨⟨k2, tag2, key2, text2, ⟨x12, x22, x32⟩, ⟨y12, y22, y32⟩, ⟨z12, z22, z32⟩, ⟨e2, lv2, m2, d2, p2, q2⟩, ⟨u12, u22, u32⟩⟩, rfl, hS1⟩ := St.tree hS .here
  clear hS
  have hS := hS1
  clear hS1
  (repeat' (first | (show wpListIn _ _ _ _ _ (_ :: _) _ _; first | (refine wx1 ?_; clear hk a; intro a hk) | (refine wx2 ?_ ?_ <;> (intro hp; clear hk a; intro a hk)) | (refine wx3 ?_; clear hk hS a; intro w b hS a hk) | (refine wx4 ?_; clear hk hS a; intro w hS a hk) | (refine wx5 ?_; clear hk hS a; intro w v hS a hk) | fail) | refine wx0 ?_ | (refine s_end hk ?_; clear hk a; intro a hk) | fail))
  refine sg hk (g_callO hk (hf := by kernel_rfl) (hc := print_any _ t (k2, tag2, key2, text2, ⟨x12, x22, x32⟩, ⟨y12, y22, y32⟩, ⟨z12, z22, z32⟩, (e2, lv2, m2, d2, p2, q2), ⟨u12, u22, u32⟩) _ (Nat.lt_succ_self _) hpo (by omega) (hS.trR (by (repeat (first | exact At.here | apply At.there)))) (ht.mono hS.below)) (h := ?_)); clear hk a; rintro _ w ⟨rfl, hS1⟩ a hk; replace hS := hS.call0 hS1; clear hS1
  (repeat' (first | (show wpListIn _ _ _ _ _ (_ :: _) _ _; first | (refine wx1 ?_; clear hk a; intro a hk) | (refine wx2 ?_ ?_ <;> (intro hp; clear hk a; intro a hk)) | (refine wx3 ?_; clear hk hS a; intro w b hS a hk) | (refine wx4 ?_; clear hk hS a; intro w hS a hk) | (refine wx5 ?_; clear hk hS a; intro w v hS a hk) | fail) | refine wx0 ?_ | (refine s_end hk ?_; clear hk a; intro a hk) | fail))
  refine sg hk (g_callO hk (hf := by kernel_rfl) (hc := parseL_any (prnT (snapT t)) (by omega) hS) (h := ?_)); clear hk hS a; intro vr w hS a hk
  have hchk : chk7 t 20 4096 = (chkT t 1 20 4096).1 := rfl
  by_cases hck : chk7 t 20 4096 = 0
  · obtain ⟨j, hp⟩ := parse_back hsm hcnt (hchk ▸ hck)
    rw [hp] at hS
    obtain ⟨u, rfl, hS⟩ := hS
    rw [snap_idem] at hS
    obtain ⟨⟨k3, tag3, key3, text3, ⟨x13, x23, x33⟩, ⟨y13, y23, y33⟩, ⟨z13, z23, z33⟩, ⟨e3, lv3, m3, d3, p3, q3⟩, ⟨u13, u23, u33⟩⟩, rfl, hS1⟩ := St.tree hS .here
    clear hS
    have hS := hS1
    clear hS1
    (repeat' (first | (show wpListIn _ _ _ _ _ (_ :: _) _ _; first | (refine wx1 ?_; clear hk a; intro a hk) | (refine wx2 ?_ ?_ <;> (intro hp; clear hk a; intro a hk)) | (refine wx3 ?_; clear hk hS a; intro w b hS a hk) | (refine wx4 ?_; clear hk hS a; intro w hS a hk) | (refine wx5 ?_; clear hk hS a; intro w v hS a hk) | fail) | refine wx0 ?_ | (refine s_end hk ?_; clear hk a; intro a hk) | fail))
    refine sg hk (g_callO hk (hf := by kernel_rfl) (hc := Check7_any t (k2, tag2, key2, text2, ⟨x12, x22, x32⟩, ⟨y12, y22, y32⟩, ⟨z12, z22, z32⟩, (e2, lv2, m2, d2, p2, q2), ⟨u12, u22, u32⟩) 20 4096 _ hfits hsiz (by omega) (hS.trR (by (repeat (first | exact At.here | apply At.there))))) (h := ?_)); clear hk a; rintro _ w ⟨rfl, hS1⟩ a hk; replace hS := hS.call0 hS1; clear hS1
    rw [hck] at hk
    (repeat' (first | (show wpListIn _ _ _ _ _ (_ :: _) _ _; first | (refine wx1 ?_; clear hk a; intro a hk) | (refine wx2 ?_ ?_ <;> (intro hp; clear hk a; intro a hk)) | (refine wx3 ?_; clear hk hS a; intro w b hS a hk) | (refine wx4 ?_; clear hk hS a; intro w hS a hk) | (refine wx5 ?_; clear hk hS a; intro w v hS a hk) | fail) | refine wx0 ?_ | (refine s_end hk ?_; clear hk a; intro a hk) | fail))
    refine sg hk (g_callO hk (hf := by kernel_rfl) (hc := vsame_any _ (snapT t) t (k3, tag3, key3, text3, ⟨x13, x23, x33⟩, ⟨y13, y23, y33⟩, ⟨z13, z23, z33⟩, (e3, lv3, m3, d3, p3, q3), ⟨u13, u23, u33⟩) (k2, tag2, key2, text2, ⟨x12, x22, x32⟩, ⟨y12, y22, y32⟩, ⟨z12, z22, z32⟩, (e2, lv2, m2, d2, p2, q2), ⟨u12, u22, u32⟩) _ (Nat.lt_succ_self _) (fits_snap _ t (Nat.lt_succ_self _) hfits) hfits (hS.trR (by (repeat (first | exact At.here | apply At.there)))) (hS.trR (by (repeat (first | exact At.here | apply At.there))))) (h := ?_)); clear hk a; rintro _ w ⟨rfl, hS1⟩ a hk; replace hS := hS.call0 hS1; clear hS1
    rw [sam_snap] at hk
    (repeat' (first | (show wpListIn _ _ _ _ _ (_ :: _) _ _; first | (refine wx1 ?_; clear hk a; intro a hk) | (refine wx2 ?_ ?_ <;> (intro hp; clear hk a; intro a hk)) | (refine wx3 ?_; clear hk hS a; intro w b hS a hk) | (refine wx4 ?_; clear hk hS a; intro w hS a hk) | (refine wx5 ?_; clear hk hS a; intro w v hS a hk) | fail) | refine wx0 ?_ | (refine s_end hk ?_; clear hk a; intro a hk) | fail))
    refine sg hk (g_callO hk (hf := by kernel_rfl) (hc := print_any _ (snapT t) (k3, tag3, key3, text3, ⟨x13, x23, x33⟩, ⟨y13, y23, y33⟩, ⟨z13, z23, z33⟩, (e3, lv3, m3, d3, p3, q3), ⟨u13, u23, u33⟩) _ (Nat.lt_succ_self _) (po_snap _ t (Nat.lt_succ_self _) hpo) (by rw [snap_idem]; omega) (hS.trR (by (repeat (first | exact At.here | apply At.there)))) (ht.mono hS.below)) (h := ?_)); clear hk a; rintro _ w ⟨rfl, hS1⟩ a hk; replace hS := hS.call0 hS1; clear hS1
    rw [snap_idem] at hk
    (repeat' (first | (show wpListIn _ _ _ _ _ (_ :: _) _ _; first | (refine wx1 ?_; clear hk a; intro a hk) | (refine wx2 ?_ ?_ <;> (intro hp; clear hk a; intro a hk)) | (refine wx3 ?_; clear hk hS a; intro w b hS a hk) | (refine wx4 ?_; clear hk hS a; intro w hS a hk) | (refine wx5 ?_; clear hk hS a; intro w v hS a hk) | fail) | refine wx0 ?_ | (refine s_end hk ?_; clear hk a; intro a hk) | fail))
    exact done1 hk (h := ⟨rfl, hS.nil⟩)
  · cases hp : parseF (prnT (snapT t)) with
    | ok t' j =>
      rw [hp] at hS
      obtain ⟨u, rfl, hS⟩ := hS
      obtain ⟨⟨k3, tag3, key3, text3, ⟨x13, x23, x33⟩, ⟨y13, y23, y33⟩, ⟨z13, z23, z33⟩, ⟨e3, lv3, m3, d3, p3, q3⟩, ⟨u13, u23, u33⟩⟩, rfl, hS1⟩ := St.tree hS .here
      clear hS
      have hS := hS1
      clear hS1
      (repeat' (first | (show wpListIn _ _ _ _ _ (_ :: _) _ _; first | (refine wx1 ?_; clear hk a; intro a hk) | (refine wx2 ?_ ?_ <;> (intro hp; clear hk a; intro a hk)) | (refine wx3 ?_; clear hk hS a; intro w b hS a hk) | (refine wx4 ?_; clear hk hS a; intro w hS a hk) | (refine wx5 ?_; clear hk hS a; intro w v hS a hk) | fail) | refine wx0 ?_ | (refine s_end hk ?_; clear hk a; intro a hk) | fail))
      refine sg hk (g_callO hk (hf := by kernel_rfl) (hc := Check7_any t (k2, tag2, key2, text2, ⟨x12, x22, x32⟩, ⟨y12, y22, y32⟩, ⟨z12, z22, z32⟩, (e2, lv2, m2, d2, p2, q2), ⟨u12, u22, u32⟩) 20 4096 _ hfits hsiz (by omega) (hS.trR (by (repeat (first | exact At.here | apply At.there))))) (h := ?_)); clear hk a; rintro _ w ⟨rfl, hS1⟩ a hk; replace hS := hS.call0 hS1; clear hS1
      generalize chk7 t 20 4096 = ck at *
      (repeat' (first | (show wpListIn _ _ _ _ _ (_ :: _) _ _; first | (refine wx1 ?_; clear hk a; intro a hk) | (refine wx2 ?_ ?_ <;> (intro hp; clear hk a; intro a hk)) | (refine wx3 ?_; clear hk hS a; intro w b hS a hk) | (refine wx4 ?_; clear hk hS a; intro w hS a hk) | (refine wx5 ?_; clear hk hS a; intro w v hS a hk) | fail) | refine wx0 ?_ | (refine s_end hk ?_; clear hk a; intro a hk) | fail))
      all_goals first
        | exact done1 hk (h := ⟨rfl, hS.nil⟩)
        | (exfalso; omega)
    | no pp ee =>
      rw [hp] at hS
      obtain ⟨rfl, hS⟩ := hS
      (repeat' (first | (show wpListIn _ _ _ _ _ (_ :: _) _ _; first | (refine wx1 ?_; clear hk a; intro a hk) | (refine wx2 ?_ ?_ <;> (intro hp; clear hk a; intro a hk)) | (refine wx3 ?_; clear hk hS a; intro w b hS a hk) | (refine wx4 ?_; clear hk hS a; intro w hS a hk) | (refine wx5 ?_; clear hk hS a; intro w v hS a hk) | fail) | refine wx0 ?_ | (refine s_end hk ?_; clear hk a; intro a hk) | fail))
      refine sg hk (g_callO hk (hf := by kernel_rfl) (hc := Check7_any t (k2, tag2, key2, text2, ⟨x12, x22, x32⟩, ⟨y12, y22, y32⟩, ⟨z12, z22, z32⟩, (e2, lv2, m2, d2, p2, q2), ⟨u12, u22, u32⟩) 20 4096 _ hfits hsiz (by omega) (hS.trR (by (repeat (first | exact At.here | apply At.there))))) (h := ?_)); clear hk a; rintro _ w ⟨rfl, hS1⟩ a hk; replace hS := hS.call0 hS1; clear hS1
      generalize chk7 t 20 4096 = ck at *
      (repeat' (first | (show wpListIn _ _ _ _ _ (_ :: _) _ _; first | (refine wx1 ?_; clear hk a; intro a hk) | (refine wx2 ?_ ?_ <;> (intro hp; clear hk a; intro a hk)) | (refine wx3 ?_; clear hk hS a; intro w b hS a hk) | (refine wx4 ?_; clear hk hS a; intro w hS a hk) | (refine wx5 ?_; clear hk hS a; intro w v hS a hk) | fail) | refine wx0 ?_ | (refine s_end hk ?_; clear hk a; intro a hk) | fail))
      all_goals first
        | exact done1 hk (h := ⟨rfl, hS.nil⟩)
        | (exfalso; omega)
theorem laid_NotationBack {W : World} (hL : laidMetH Tryz.prog Rows.notationBackRow.laid W) : TabW W := by
  rw [MakeChecks.laidMetH_plain _ _ _ (by kernel_rfl)] at hL
  have h2 := laid_tail (laid_tail hL)
  exact Lib.tabIs_of_head (g := 1) (t := 173) (by kernel_rfl) (by kernel_rfl) Tryz.underlying173 Tryz.underlying161 (by kernel_rfl) (by kernel_rfl) h2
theorem walk_NotationBack (W : World) (vs : List Value) (hL : laidMetH Tryz.prog Rows.notationBackRow.laid W) (h : Args Tryz.prog W [55] vs) : Calls Tryz.prog 6 vs.toArray W (Ret fun v w => v = .bool true ∧ St W [] w) := by
  obtain ⟨v, rfl, ha⟩ := args1 h
  obtain ⟨F, hv, hR⟩ := arg_flats ha
  exact noteback_any F v W hv hR (laid_NotationBack hL)
end Go.Proofs.YtipdgobplfkipaaGreatDoor
