import Derived.Test.YtkcjkbnbblpomaaV15
import Derived.Test.YtkcjkbnbblpomaaV26
namespace Go.Proofs.Ytkcjkbnbblpomaa
open Go.RowKit
set_option maxRecDepth 100000
attribute [local irreducible] Go.Code.wpIn Go.wpListIn Go.Calls Gives Go.Exit.then Go.Exit.inBlock Done ObxE

set_option maxHeartbeats 4000000 in
theorem short07_any : ∀ (n : Nat) (t : Tree) (h : NdH) (w0 : World), SizeOf.sizeOf t < n → Fits t → TrR w0 t h → Calls Try.prog 23 #[ndV h] w0 (Ret fun v w => v = .bool (shortT t) ∧ St w0 [] w)
  | 0, _, _, _, hn, _, _ => by omega
  | n + 1, t, h, w0, hn, hp, hr => by
    have ih := short07_any n
    obtain ⟨k, tag, key, text, cl, al, sl, e, lv, m, d, p, q, kids, a1, m1, a2, m2, a3, m3, a4, m4, H, rfl, rfl, c1, c2, c3, c4, hF⟩ := hr.split
    obtain ⟨l1, l2, l3, l4, l5⟩ := hp
    have hHk : H.length = kids.length := hF.1
    show Calls Try.prog 23 #[.agg #[.int .i64 k, .string tag, .string key, .string text, .slice a1 cl.length m1, .slice a2 al.length m2, .slice a3 sl.length m3, .int .i64 e, .int .i64 lv, .int .i64 m, .int .i64 d, .bool p, .bool q, .slice a4 H.length m4]] w0 _
    have c4' := c4
    refine enter Try.func23 rfl Try.ntmps23 rfl (fun a hk => ?_); have hS := St.refl w0
    (repeat' (first | (show wpListIn _ _ _ _ _ (_ :: _) _ _; first | (refine wx1 ?_; clear hk a; intro a hk) | (refine wx2 ?_ ?_ <;> (intro hp; clear hk a; intro a hk)) | (refine wx3 ?_; clear hk hS a; intro w b hS a hk) | (refine wx4 ?_; clear hk hS a; intro w hS a hk) | (refine wx5 ?_; clear hk hS a; intro w v hS a hk) | fail) | refine wx0 ?_ | (refine s_end hk ?_; clear hk a; intro a hk) | fail))
    rename Nat => b1
    replace hk := Kn.kp [1, 2, 6, 7, 8] hk
    refine wp_for H.length (fun i _ => [(8, .int .i64 (i : Int))]) (fun _ _ => [pts b1 [.int .i64 k, .string tag, .string key, .string text, .slice a1 cl.length m1, .slice a2 al.length m2, .slice a3 sl.length m3, .int .i64 e, .int .i64 lv, .int .i64 m, .int .i64 d, .bool p, .bool q, .slice a4 H.length m4] 31]) (fun i _ => ∀ t ∈ kids.take i, shortT t = true) () hk (by repeat (first | exact trivial | refine ⟨rfl, ?_⟩)) hS.sb (by simp) ?_
    clear hk hS a
    rintro i - a w hi hk hS hA
    by_cases hil : i < H.length
    · obtain ⟨tk, htk⟩ : ∃ t, kids[i]? = some t := ⟨_, List.getElem?_eq_getElem (by omega)⟩
      obtain ⟨hd0, hx⟩ : ∃ x, H[i]? = some x := ⟨_, List.getElem?_eq_getElem hil⟩
      have hTr := hF.2 i tk hd0 htk hx
      have hmk := List.mem_of_getElem? htk
      have hpk := l5 tk hmk
      have hlt : SizeOf.sizeOf tk < n := by have := kid_lt (k := k) (tag := tag) (key := key) (text := text) (cl := cl) (at_ := al) (st := sl) (o := (e, lv, m, d, p, q)) hmk; omega
      have hst := take_snoc htk
      obtain ⟨k0, tag0, key0, text0, ⟨x1, x2, x3⟩, ⟨y1, y2, y3⟩, ⟨z1, z2, z3⟩, ⟨e0, lv0, m0, d0, p0, q0⟩, ⟨u1, u2, u3⟩⟩ := hd0
      have hv1 := hS.rdT c4
      (repeat' (first | (show wpListIn _ _ _ _ _ (_ :: _) _ _; first | (refine wx1 ?_; clear hk a; intro a hk) | (refine wx2 ?_ ?_ <;> (intro hp; clear hk a; intro a hk)) | (refine wx3 ?_; clear hk hS a; intro w b hS a hk) | (refine wx4 ?_; clear hk hS a; intro w hS a hk) | (refine wx5 ?_; clear hk hS a; intro w v hS a hk) | fail) | refine wx0 ?_ | (refine s_end hk ?_; clear hk a; intro a hk) | fail))
      refine sg hk (g_callO hk (hf := by kernel_rfl) (hc := ih tk (k0, tag0, key0, text0, ⟨x1, x2, x3⟩, ⟨y1, y2, y3⟩, ⟨z1, z2, z3⟩, (e0, lv0, m0, d0, p0, q0), ⟨u1, u2, u3⟩) _ hlt hpk (hS.rdTr hTr)) (h := ?_)); clear hk a; rintro _ w ⟨rfl, hS1⟩ a hk; replace hS := hS.call0 hS1; clear hS1
      cases hb : shortT tk with
      | true =>
        rw [hb] at hk
        (repeat' (first | (show wpListIn _ _ _ _ _ (_ :: _) _ _; first | (refine wx1 ?_; clear hk a; intro a hk) | (refine wx2 ?_ ?_ <;> (intro hp; clear hk a; intro a hk)) | (refine wx3 ?_; clear hk hS a; intro w b hS a hk) | (refine wx4 ?_; clear hk hS a; intro w hS a hk) | (refine wx5 ?_; clear hk hS a; intro w v hS a hk) | fail) | refine wx0 ?_ | (refine s_end hk ?_; clear hk a; intro a hk) | fail))
        refine ⟨hil, (), hk.sd, hS.sb, fun t ht => ?_⟩
        rw [hst] at ht
        rcases List.mem_append.1 ht with h | h
        · exact hA t h
        · rw [List.mem_singleton] at h; subst h; exact hb
      | false =>
        rw [hb] at hk
        (repeat' (first | (show wpListIn _ _ _ _ _ (_ :: _) _ _; first | (refine wx1 ?_; clear hk a; intro a hk) | (refine wx2 ?_ ?_ <;> (intro hp; clear hk a; intro a hk)) | (refine wx3 ?_; clear hk hS a; intro w b hS a hk) | (refine wx4 ?_; clear hk hS a; intro w hS a hk) | (refine wx5 ?_; clear hk hS a; intro w v hS a hk) | fail) | refine wx0 ?_ | (refine s_end hk ?_; clear hk a; intro a hk) | fail))
        refine done1 hk (h := ⟨?_, hS.nil⟩)
        have : shortL kids = false := by
          cases hc : shortL kids with
          | false => rfl
          | true => have := (shortL_iff kids).1 hc tk hmk; rw [hb] at this; cases this
        simp [shortT, this]
    · have hii : i = kids.length := by omega
      subst hii
      rw [List.take_length] at hA
      (repeat' (first | (show wpListIn _ _ _ _ _ (_ :: _) _ _; first | (refine wx1 ?_; clear hk a; intro a hk) | (refine wx2 ?_ ?_ <;> (intro hp; clear hk a; intro a hk)) | (refine wx3 ?_; clear hk hS a; intro w b hS a hk) | (refine wx4 ?_; clear hk hS a; intro w hS a hk) | (refine wx5 ?_; clear hk hS a; intro w v hS a hk) | fail) | refine wx0 ?_ | (refine s_end hk ?_; clear hk a; intro a hk) | fail))
      · have hs : shortL kids = true := (shortL_iff kids).2 hA
        have h64 : text.size ≤ 64 := by omega
        exact done1 hk (h := ⟨by simp [shortT, hs, h64], hS.nil⟩)
      · have hs : shortL kids = true := (shortL_iff kids).2 hA
        have h64 : ¬ text.size ≤ 64 := by omega
        exact done1 hk (h := ⟨by simp [shortT, hs, h64], hS.nil⟩)
end Go.Proofs.Ytkcjkbnbblpomaa
