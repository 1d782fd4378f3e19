/- Layer 7: which names a node without kids has, if it may be: the reference. Layer 7: flat nodes, as the form reads them. Layer 20: from the form's arguments to the laws. Layer 20: marks never hide anything. -/
import Derived.Test.YtakejjfmbgbedaaH23
import Derived.Test.YtakejjfmbgbedaaH16
import Derived.Test.YtakejjfmbgbedaaH10
import Derived.Test.YtakejjfmbgbedaaH05
import Derived.Test.YtakejjfmbgbedaaH19
import Derived.Test.YtakejjfmbgbedaaH22
namespace Go.Proofs.Ytakejjfmbgbedaa
open Go.RowKit
set_option maxRecDepth 100000
attribute [local irreducible] Go.Code.wpIn Go.wpListIn Go.Calls Gives Go.Exit.then Go.Exit.inBlock Done ObxE

set_option maxHeartbeats 8000000 in
theorem check1_any (k : Int) (tag key text : ByteArray) (cl : List ByteArray) (al : List PrS) (sl : List PrI) (e lv m d : Int) (p q : Bool) (a1 a2 a3 a4 : Option Addr) (m1 m2 m3 m4 : Nat) (w0 : World) (ho : okN k tag key text cl al sl (e, lv, m, d, p, q))
    (hr : TrR w0 (.mk k tag key text cl al sl (e, lv, m, d, p, q) []) (k, tag, key, text, ⟨a1, cl.length, m1⟩, ⟨a2, al.length, m2⟩, ⟨a3, sl.length, m3⟩, (e, lv, m, d, p, q), ⟨a4, 0, m4⟩)) :
    Calls Try.prog 43 #[ndV (k, tag, key, text, ⟨a1, cl.length, m1⟩, ⟨a2, al.length, m2⟩, ⟨a3, sl.length, m3⟩, (e, lv, m, d, p, q), ⟨a4, 0, m4⟩), .int .i64 1, .int .i64 1, .int .i64 1] w0 (Ret fun v w => (∃ l e : Int, v = .tuple #[.int .i64 l, .int .i64 e] ∧ (e = 0 → ∀ c ∈ namesL cl al sl, rsvS c = false)) ∧ St w0 [] w) := by
  have hm := fun w0 hr => may07_any k tag key text cl al sl e lv m d p q a1 a2 a3 a4 m1 m2 m3 m4 w0 ho hr
  obtain ⟨-, z1, z2, z3, z4, z5, y6, z6, y7, z7, -⟩ := ho
  have hnm : ∀ c ∈ namesL cl al sl, c.size ≤ 40 := Siz.names (X := 40) (fun c hc => by have := z5 c hc; omega) (fun x hx => by have := z6 x hx; omega) (fun x hx => by have := (z7 x hx).1; omega)
  obtain ⟨c1, c2, c3⟩ := hr.sl
  replace c1 : SlT cl (.slice a1 cl.length m1) w0 := c1
  replace c2 : SlT al (.slice a2 al.length m2) w0 := c2
  replace c3 : SlT sl (.slice a3 sl.length m3) w0 := c3
  have c4 := hr.nokids
  have hz0 : ([] : List NdH).length = 0 := rfl
  have hnl : (namesL cl al sl).length ≤ 12 := by unfold namesL; rw [List.length_append, List.length_append, List.length_map, List.length_map]; omega
  show Calls Try.prog 43 #[.agg #[.int .i64 k, .string tag, .string key, .string text, .slice a1 cl.length m1, .slice a2 al.length m2, .slice a3 sl.length m3, .int .i64 e, .int .i64 lv, .int .i64 m, .int .i64 d, .bool p, .bool q, .slice a4 0 m4], .int .i64 1, .int .i64 1, .int .i64 1] w0 _
  refine enter Try.func43 rfl Try.ntmps43 rfl (fun a hk => ?_); have hS := St.refl w0
  (repeat' (first | (show wpListIn _ _ _ _ _ (_ :: _) _ _; first | (refine wx1 ?_; clear hk a; intro a hk) | (refine wx2 ?_ ?_ <;> (intro hp; clear hk a; intro a hk)) | (refine wx3 ?_; clear hk hS a; intro w b hS a hk) | (refine wx4 ?_; clear hk hS a; intro w hS a hk) | (refine wx5 ?_; clear hk hS a; intro w v hS a hk) | fail) | refine wx0 ?_ | (refine s_end hk ?_; clear hk a; intro a hk) | fail))
  rename Nat => b1
  refine sg hk (g_callO hk (hf := by kernel_rfl) (hc := hm _ (hS.rdTr hr)) (h := ?_)); clear hk a; rintro vr w ⟨⟨b, rfl⟩, hS1⟩ a hk; replace hS := hS.call hS1; clear hS1
  rw [List.nil_append] at hS
  cases b with
  | false =>
    (repeat' (first | (show wpListIn _ _ _ _ _ (_ :: _) _ _; first | (refine wx1 ?_; clear hk a; intro a hk) | (refine wx2 ?_ ?_ <;> (intro hp; clear hk a; intro a hk)) | (refine wx3 ?_; clear hk hS a; intro w b hS a hk) | (refine wx4 ?_; clear hk hS a; intro w hS a hk) | (refine wx5 ?_; clear hk hS a; intro w v hS a hk) | fail) | refine wx0 ?_ | (refine s_end hk ?_; clear hk a; intro a hk) | fail))
    exact done2 hk (h := ⟨⟨_, _, rfl, fun h => absurd h (by decide)⟩, hS.nil⟩)
  | true =>
    (repeat' (first | (show wpListIn _ _ _ _ _ (_ :: _) _ _; first | (refine wx1 ?_; clear hk a; intro a hk) | (refine wx2 ?_ ?_ <;> (intro hp; clear hk a; intro a hk)) | (refine wx3 ?_; clear hk hS a; intro w b hS a hk) | (refine wx4 ?_; clear hk hS a; intro w hS a hk) | (refine wx5 ?_; clear hk hS a; intro w v hS a hk) | fail) | refine wx0 ?_ | (refine s_end hk ?_; clear hk a; intro a hk) | fail))
    refine sg hk (g_callO hk (hf := by kernel_rfl) (hc := names07_any (.mk k tag key text cl al sl (e, lv, m, d, p, q) []) (k, tag, key, text, ⟨a1, cl.length, m1⟩, ⟨a2, al.length, m2⟩, ⟨a3, sl.length, m3⟩, (e, lv, m, d, p, q), ⟨a4, 0, m4⟩) _ (hS.rdTr hr) cl al sl ⟨by omega, by omega, by omega⟩ rfl) (h := ?_)); clear hk a; rintro vn w hS1 a hk; replace hS := hS.call hS1; clear hS1
    (repeat' (first | (show wpListIn _ _ _ _ _ (_ :: _) _ _; first | (refine wx1 ?_; clear hk a; intro a hk) | (refine wx2 ?_ ?_ <;> (intro hp; clear hk a; intro a hk)) | (refine wx3 ?_; clear hk hS a; intro w b hS a hk) | (refine wx4 ?_; clear hk hS a; intro w hS a hk) | (refine wx5 ?_; clear hk hS a; intro w v hS a hk) | fail) | refine wx0 ?_ | (refine s_end hk ?_; clear hk a; intro a hk) | fail))
    replace hk := Kn.kp [1, 2, 3, 4, 34, 35, 36] hk
    refine wp_for (namesL cl al sl).length (fun i _ => [(36, .int .i64 (i : Int))]) (fun _ _ => [OwT 9 (namesL cl al sl) vn, pts b1 [.int .i64 k, .string tag, .string key, .string text, .slice a1 cl.length m1, .slice a2 al.length m2, .slice a3 sl.length m3, .int .i64 e, .int .i64 lv, .int .i64 m, .int .i64 d, .bool p, .bool q, .slice a4 0 m4] 44]) (fun i _ => ∀ c ∈ (namesL cl al sl).take i, rsvS c = false) () hk (by repeat (first | exact trivial | refine ⟨rfl, ?_⟩)) (hS.sub (by (repeat (first | exact Sub.nil | exact Sub.refl | refine Sub.cons (by (repeat (first | exact At.here | apply At.there))) ?_)))) (by simp) ?_
    clear hk hS a
    rintro i - a w hi hk hS hA
    by_cases hil : i < (namesL cl al sl).length
    · obtain ⟨x, hx⟩ : ∃ x, (namesL cl al sl)[i]? = some x := ⟨_, List.getElem?_eq_getElem hil⟩
      have hst := take_snoc hx
      (repeat' (first | (show wpListIn _ _ _ _ _ (_ :: _) _ _; first | (refine wx1 ?_; clear hk a; intro a hk) | (refine wx2 ?_ ?_ <;> (intro hp; clear hk a; intro a hk)) | (refine wx3 ?_; clear hk hS a; intro w b hS a hk) | (refine wx4 ?_; clear hk hS a; intro w hS a hk) | (refine wx5 ?_; clear hk hS a; intro w v hS a hk) | fail) | refine wx0 ?_ | (refine s_end hk ?_; clear hk a; intro a hk) | fail))
      refine sg hk (g_callO hk (hf := by kernel_rfl) (hc := rreserved_any x _) (h := ?_)); clear hk a; rintro _ w ⟨rfl, hS1⟩ a hk; replace hS := hS.call0 hS1; clear hS1
      cases hb : rsvS x with
      | true =>
        rw [hb] at hk
        (repeat' (first | (show wpListIn _ _ _ _ _ (_ :: _) _ _; first | (refine wx1 ?_; clear hk a; intro a hk) | (refine wx2 ?_ ?_ <;> (intro hp; clear hk a; intro a hk)) | (refine wx3 ?_; clear hk hS a; intro w b hS a hk) | (refine wx4 ?_; clear hk hS a; intro w hS a hk) | (refine wx5 ?_; clear hk hS a; intro w v hS a hk) | fail) | refine wx0 ?_ | (refine s_end hk ?_; clear hk a; intro a hk) | fail))
        exact done2 hk (h := ⟨⟨_, _, rfl, fun h => absurd h (by decide)⟩, hS.nil⟩)
      | false =>
        rw [hb] at hk
        (repeat' (first | (show wpListIn _ _ _ _ _ (_ :: _) _ _; first | (refine wx1 ?_; clear hk a; intro a hk) | (refine wx2 ?_ ?_ <;> (intro hp; clear hk a; intro a hk)) | (refine wx3 ?_; clear hk hS a; intro w b hS a hk) | (refine wx4 ?_; clear hk hS a; intro w hS a hk) | (refine wx5 ?_; clear hk hS a; intro w v hS a hk) | fail) | refine wx0 ?_ | (refine s_end hk ?_; clear hk a; intro a hk) | fail))
        refine ⟨hil, (), hk.sd, hS.sb, fun c hc => ?_⟩
        rw [hst] at hc
        rcases List.mem_append.1 hc with h | h
        · exact hA c h
        · rw [List.mem_singleton] at h; subst h; exact hb
    · have hii : i = (namesL cl al sl).length := by omega
      subst hii
      rw [List.take_length] at hA
      have c4' := hS.rdT c4
      (repeat' (first | (show wpListIn _ _ _ _ _ (_ :: _) _ _; first | (refine wx1 ?_; clear hk a; intro a hk) | (refine wx2 ?_ ?_ <;> (intro hp; clear hk a; intro a hk)) | (refine wx3 ?_; clear hk hS a; intro w b hS a hk) | (refine wx4 ?_; clear hk hS a; intro w hS a hk) | (refine wx5 ?_; clear hk hS a; intro w v hS a hk) | fail) | refine wx0 ?_ | (refine s_end hk ?_; clear hk a; intro a hk) | fail))
      replace hk := Kn.kp [1, 2, 3, 4, 45, 46, 47] hk
      refine wp_for 0 (fun i _ => [(47, .int .i64 (i : Int))]) (fun _ _ => [pts b1 [.int .i64 k, .string tag, .string key, .string text, .slice a1 cl.length m1, .slice a2 al.length m2, .slice a3 sl.length m3, .int .i64 e, .int .i64 lv, .int .i64 m, .int .i64 d, .bool p, .bool q, .slice a4 0 m4] 44]) (fun _ _ => True) () hk (by repeat (first | exact trivial | refine ⟨rfl, ?_⟩)) (hS.sub (by (repeat (first | exact Sub.nil | exact Sub.refl | refine Sub.cons (by (repeat (first | exact At.here | apply At.there))) ?_)))) trivial ?_
      clear hk hS a
      rintro i - a w hi hk hS -
      have hii : i = 0 := by omega
      subst hii
      (repeat' (first | (show wpListIn _ _ _ _ _ (_ :: _) _ _; first | (refine wx1 ?_; clear hk a; intro a hk) | (refine wx2 ?_ ?_ <;> (intro hp; clear hk a; intro a hk)) | (refine wx3 ?_; clear hk hS a; intro w b hS a hk) | (refine wx4 ?_; clear hk hS a; intro w hS a hk) | (refine wx5 ?_; clear hk hS a; intro w v hS a hk) | fail) | refine wx0 ?_ | (refine s_end hk ?_; clear hk a; intro a hk) | fail))
      replace hk := Kn.kp [1, 2, 3, 75, 76, 77] hk
      refine wp_for 0 (fun i _ => [(77, .int .i64 (i : Int))]) (fun _ _ => []) (fun _ _ => True) () hk (by repeat (first | exact trivial | refine ⟨rfl, ?_⟩)) hS.nil trivial ?_
      clear hk hS a
      rintro i - a w hi hk hS -
      have hii : i = 0 := by omega
      subst hii
      (repeat' (first | (show wpListIn _ _ _ _ _ (_ :: _) _ _; first | (refine wx1 ?_; clear hk a; intro a hk) | (refine wx2 ?_ ?_ <;> (intro hp; clear hk a; intro a hk)) | (refine wx3 ?_; clear hk hS a; intro w b hS a hk) | (refine wx4 ?_; clear hk hS a; intro w hS a hk) | (refine wx5 ?_; clear hk hS a; intro w v hS a hk) | fail) | refine wx0 ?_ | (refine s_end hk ?_; clear hk a; intro a hk) | fail))
      exact done2 hk (h := ⟨⟨_, _, rfl, fun _ => hA⟩, hS.nil⟩)

theorem Check1_any (k : Int) (tag key text : ByteArray) (cl : List ByteArray) (al : List PrS) (sl : List PrI) (e lv m d : Int) (p q : Bool) (a1 a2 a3 a4 : Option Addr) (m1 m2 m3 m4 : Nat) (w0 : World) (ho : okN k tag key text cl al sl (e, lv, m, d, p, q))
    (hr : TrR w0 (.mk k tag key text cl al sl (e, lv, m, d, p, q) []) (k, tag, key, text, ⟨a1, cl.length, m1⟩, ⟨a2, al.length, m2⟩, ⟨a3, sl.length, m3⟩, (e, lv, m, d, p, q), ⟨a4, 0, m4⟩)) :
    Calls Try.prog 24 #[ndV (k, tag, key, text, ⟨a1, cl.length, m1⟩, ⟨a2, al.length, m2⟩, ⟨a3, sl.length, m3⟩, (e, lv, m, d, p, q), ⟨a4, 0, m4⟩), .int .i64 1, .int .i64 1] w0 (Ret fun v w => (∃ e : Int, v = .int .i64 e ∧ (e = 0 → ∀ c ∈ namesL cl al sl, rsvS c = false)) ∧ St w0 [] w) := by
  have hm := fun w0 hr => check1_any k tag key text cl al sl e lv m d p q a1 a2 a3 a4 m1 m2 m3 m4 w0 ho hr
  show Calls Try.prog 24 #[.agg #[.int .i64 k, .string tag, .string key, .string text, .slice a1 cl.length m1, .slice a2 al.length m2, .slice a3 sl.length m3, .int .i64 e, .int .i64 lv, .int .i64 m, .int .i64 d, .bool p, .bool q, .slice a4 0 m4], .int .i64 1, .int .i64 1] w0 _
  refine enter Try.func24 rfl Try.ntmps24 rfl (fun a hk => ?_); have hS := St.refl w0
  (repeat' (first | (show wpListIn _ _ _ _ _ (_ :: _) _ _; first | (refine wx1 ?_; clear hk a; intro a hk) | (refine wx2 ?_ ?_ <;> (intro hp; clear hk a; intro a hk)) | (refine wx3 ?_; clear hk hS a; intro w b hS a hk) | (refine wx4 ?_; clear hk hS a; intro w hS a hk) | (refine wx5 ?_; clear hk hS a; intro w v hS a hk) | fail) | refine wx0 ?_ | (refine s_end hk ?_; clear hk a; intro a hk) | fail))
  refine sg hk (g_callO hk (hf := by kernel_rfl) (hc := hm _ (hS.rdTr hr)) (h := ?_)); clear hk a; rintro vr w ⟨⟨l, e', rfl, he⟩, hS1⟩ a hk; replace hS := hS.call hS1; clear hS1
  rw [List.nil_append] at hS
  (repeat' (first | (show wpListIn _ _ _ _ _ (_ :: _) _ _; first | (refine wx1 ?_; clear hk a; intro a hk) | (refine wx2 ?_ ?_ <;> (intro hp; clear hk a; intro a hk)) | (refine wx3 ?_; clear hk hS a; intro w b hS a hk) | (refine wx4 ?_; clear hk hS a; intro w hS a hk) | (refine wx5 ?_; clear hk hS a; intro w v hS a hk) | fail) | refine wx0 ?_ | (refine s_end hk ?_; clear hk a; intro a hk) | fail))
  exact done1 hk (h := ⟨⟨_, rfl, he⟩, hS.nil⟩)
end Go.Proofs.Ytakejjfmbgbedaa
namespace Go.Proofs.Ytakejjfmbgbedaa
open Go.RowKit
set_option maxRecDepth 100000
attribute [local irreducible] Go.Code.wpIn Go.wpListIn Go.Calls Gives Go.Exit.then Go.Exit.inBlock Done ObxE

theorem rdg_attr {W : World} {D : Nat} {us : List Value} (h : Rdg Try.prog W (D + 2) 71 us) : ∃ x : ByteArray × ByteArray, Enc.f x = us := by
  have hl := rdg_len Try.underlying71 h (zT rfl)
  obtain ⟨a, ha, _⟩ := rdg_str (sT rfl) (rdg_fld Try.underlying71 h (i := 0) rfl (zT rfl))
  obtain ⟨b, hb, _⟩ := rdg_str (sT rfl) (rdg_fld Try.underlying71 h (i := 1) rfl (zT rfl))
  match us, hl with
  | [u0, u1], _ =>
    simp at ha hb
    subst ha hb
    exact ⟨(a, b), rfl⟩
theorem rdg_pair {W : World} {D : Nat} {us : List Value} (h : Rdg Try.prog W (D + 2) 80 us) : ∃ x : ByteArray × Int, Enc.f x = us ∧ in64 x.2 := by
  have hl := rdg_len Try.underlying80 h (zT rfl)
  obtain ⟨a, ha, _⟩ := rdg_str (sT rfl) (rdg_fld Try.underlying80 h (i := 0) rfl (zT rfl))
  obtain ⟨b, hb, hr⟩ := rdg_int (iT rfl) (rdg_fld Try.underlying80 h (i := 1) rfl (zT rfl))
  match us, hl with
  | [u0, u1], _ =>
    simp at ha hb
    subst ha hb
    exact ⟨(a, b), rfl, hr⟩
theorem rdg_opts {W : World} {D : Nat} {us : List Value} (h : Rdg Try.prog W (D + 2) 26 us) : ∃ x : Opt, Enc.f x = us ∧ in64 x.1 ∧ in64 x.2.1 ∧ in64 x.2.2.1 ∧ in64 x.2.2.2.1 := by
  have hl := rdg_len Try.underlying26 h (zT rfl)
  obtain ⟨a, ha, r1⟩ := rdg_int (iT rfl) (rdg_fld Try.underlying26 h (i := 0) rfl (zT rfl))
  obtain ⟨b, hb, r2⟩ := rdg_int (iT rfl) (rdg_fld Try.underlying26 h (i := 1) rfl (zT rfl))
  obtain ⟨c, hc, r3⟩ := rdg_int (iT rfl) (rdg_fld Try.underlying26 h (i := 2) rfl (zT rfl))
  obtain ⟨d, hd, r4⟩ := rdg_int (iT rfl) (rdg_fld Try.underlying26 h (i := 3) rfl (zT rfl))
  obtain ⟨e, he⟩ := rdg_bool Try.underlying4 (rdg_fld Try.underlying26 h (i := 4) rfl (zT rfl))
  obtain ⟨f, hf⟩ := rdg_bool Try.underlying4 (rdg_fld Try.underlying26 h (i := 5) rfl (zT rfl))
  match us, hl with
  | [u0, u1, u2, u3, u4, u5], _ =>
    simp at ha hb hc hd he hf
    subst ha hb hc hd he hf
    exact ⟨(a, b, c, d, e, f), rfl, r1, r2, r3, r4⟩

theorem rdg_flat {W : World} {D : Nat} {us : List Value} (h : Rdg Try.prog W (D + 4) 28 us) : ∃ x : FlH, Enc.f x = us ∧ FlR W x := by
  have hl := rdg_len Try.underlying28 h (zT rfl)
  obtain ⟨a, h0, r1⟩ := rdg_int (iT rfl) (rdg_fld Try.underlying28 h (i := 0) rfl (zT rfl))
  obtain ⟨b, h1, r2⟩ := rdg_int (iT rfl) (rdg_fld Try.underlying28 h (i := 1) rfl (zT rfl))
  obtain ⟨c, h2, _⟩ := rdg_str (sT rfl) (rdg_fld Try.underlying28 h (i := 2) rfl (zT rfl))
  obtain ⟨d, h3, _⟩ := rdg_str (sT rfl) (rdg_fld Try.underlying28 h (i := 3) rfl (zT rfl))
  obtain ⟨e, h4, _⟩ := rdg_str (sT rfl) (rdg_fld Try.underlying28 h (i := 4) rfl (zT rfl))
  obtain ⟨v5, cl, h5, g5, _⟩ := SlT.of_rdg (α := ByteArray) (fun _ => True) (rdg_fld Try.underlying28 h (i := 5) rfl (zT rfl)) (eT rfl) (zT rfl) (fun us _ h => by obtain ⟨s, hs, _⟩ := rdg_str (sT rfl) h; exact ⟨s, hs.symm, trivial⟩)
  obtain ⟨v6, al, h6, g6, _⟩ := SlT.of_rdg (α := ByteArray × ByteArray) (fun _ => True) (rdg_fld Try.underlying28 h (i := 6) rfl (zT rfl)) (eT rfl) (zT rfl) (fun us _ h => by obtain ⟨s, hs⟩ := rdg_attr h; exact ⟨s, hs, trivial⟩)
  obtain ⟨v7, sl, h7, g7, g8⟩ := SlT.of_rdg (α := ByteArray × Int) (fun x => in64 x.2) (rdg_fld Try.underlying28 h (i := 7) rfl (zT rfl)) (eT rfl) (zT rfl) (fun us _ h => by obtain ⟨s, hs, h2⟩ := rdg_pair h; exact ⟨s, hs, h2⟩)
  obtain ⟨⟨q0, q1, q2, q3, q4, q5⟩, h8, s1, s2, s3, s4⟩ := rdg_opts (rdg_fld Try.underlying28 h (i := 8) rfl (zT rfl))
  match us, hl with
  | [u0, u1, u2, u3, u4, u5, u6, u7, u8, u9, u10, u11, u12, u13], _ =>
    simp at h0 h1 h2 h3 h4 h5 h6 h7
    subst h0 h1 h2 h3 h4 h5 h6 h7
    obtain ⟨a5, c5, rfl, _⟩ := g5.shape
    obtain ⟨a6, c6, rfl, _⟩ := g6.shape
    obtain ⟨a7, c7, rfl, _⟩ := g7.shape
    have h8' : ([.int .i64 q0, .int .i64 q1, .int .i64 q2, .int .i64 q3, .bool q4, .bool q5] : List Value) = [u8, u9, u10, u11, u12, u13] := h8
    simp only [List.cons.injEq, and_true] at h8'
    obtain ⟨rfl, rfl, rfl, rfl, rfl, rfl⟩ := h8'
    exact ⟨(a, b, c, d, e, ⟨a5, cl.length, c5⟩, ⟨a6, al.length, c6⟩, ⟨a7, sl.length, c7⟩, (q0, q1, q2, q3, q4, q5)), rfl, a, b, c, d, e, cl, al, sl, q0, q1, q2, q3, q4, q5, a5, a6, a7, c5, c6, c7, rfl, g5, g6, g7, r1, r2, s1, s2, s3, s4, g8⟩

theorem arg_flat {W : World} {v : Value} (h : Arg Try.prog W 28 v) : ∃ x : FlH, v = flV x ∧ FlR W x := by
  obtain ⟨cs, rfl⟩ := h.2.1 (aT rfl)
  obtain ⟨x, hx, hr⟩ := rdg_flat (D := 4) h.1
  exact ⟨x, by rw [flV, hx]; simp [Value.cells], hr⟩
end Go.Proofs.Ytakejjfmbgbedaa
namespace Go.Proofs.Ytakejjfmbgbedaa
open Go.RowKit
set_option maxRecDepth 100000
attribute [local irreducible] Go.Code.wpIn Go.wpListIn Go.Calls Gives Go.Exit.then Go.Exit.inBlock Done ObxE

theorem rdg_look {W : World} {D : Nat} {cs : List Value} (h : Rdg Try.prog W (D + 2) 30 cs) : ∃ X Y Z H, cs = [.int .i64 X, .int .i64 Y, .int .i64 Z, .int .i64 H] ∧ (-9223372036854775808 ≤ Z ∧ Z ≤ 9223372036854775807) ∧ (-9223372036854775808 ≤ H ∧ H ≤ 9223372036854775807) := by
  simp only [Rdg, Try.underlying30, cellsOf_sz (zT (T := 30) rfl)] at h
  obtain ⟨hl, hf⟩ := h
  match cs, hl with
  | [a, b, c, d], _ =>
    simp [Try.underlying3, cellsOf_sz (zT (T := 3) rfl)] at hf
    obtain ⟨⟨n0, h0, _⟩, ⟨n1, h1, _⟩, ⟨n2, h2, b2⟩, ⟨n3, h3, b3⟩⟩ := hf
    exact ⟨n0, n1, n2, n3, by rw [h0, h1, h2, h3], b2, b3⟩

theorem arg_look {W : World} {v : Value} (h : Arg Try.prog W 30 v) : ∃ k m x y, v = .agg #[.int .i64 k, .int .i64 m, .int .i64 x, .int .i64 y] ∧ (-9223372036854775808 ≤ x ∧ x ≤ 9223372036854775807) ∧ (-9223372036854775808 ≤ y ∧ y ≤ 9223372036854775807) := by
  obtain ⟨cs, rfl⟩ := h.2.1 (aT rfl)
  obtain ⟨X, Y, Z, H, hc, b2, b3⟩ := rdg_look h.1
  have : cs = [.int .i64 X, .int .i64 Y, .int .i64 Z, .int .i64 H] := by simpa [Value.cells] using hc
  exact ⟨X, Y, Z, H, by rw [this], b2, b3⟩

end Go.Proofs.Ytakejjfmbgbedaa
namespace Go.Proofs.Ytakejjfmbgbedaa
open Go.RowKit
set_option maxRecDepth 100000
attribute [local irreducible] Go.Code.wpIn Go.wpListIn Go.Calls Gives Go.Exit.then Go.Exit.inBlock Done ObxE

set_option maxHeartbeats 8000000 in
theorem hides20_any (h : FlH) (k m x y : Int) (w0 : World) (hR : FlR w0 h) :
    Calls Try.prog 6 #[flV h, .agg #[.int .i64 k, .int .i64 m, .int .i64 x, .int .i64 y]] w0 (Ret fun v w => v = .bool true ∧ St w0 [] w) := by
  have hkl := cls_len k m
  have hgl := ghoP_len k
  have hml := movP_len m x y
  have hR0 := hR
  obtain ⟨dp, k', tag, key, text, cl, al, sl, e, lv, m', d, p, q, a1, a2, a3, m1, m2, m3, rfl, -⟩ := hR
  show Calls Try.prog 6 #[.agg #[.int .i64 dp, .int .i64 k', .string tag, .string key, .string text, .slice a1 cl.length m1, .slice a2 al.length m2, .slice a3 sl.length m3, .int .i64 e, .int .i64 lv, .int .i64 m', .int .i64 d, .bool p, .bool q], .agg #[.int .i64 k, .int .i64 m, .int .i64 x, .int .i64 y]] w0 _
  refine enter Try.func6 rfl Try.ntmps6 rfl (fun a hk => ?_); have hS := St.refl w0
  (repeat' (first | (show wpListIn _ _ _ _ _ (_ :: _) _ _; first | (refine wx1 ?_; clear hk a; intro a hk) | (refine wx2 ?_ ?_ <;> (intro hp; clear hk a; intro a hk)) | (refine wx3 ?_; clear hk hS a; intro w b hS a hk) | (refine wx4 ?_; clear hk hS a; intro w hS a hk) | (refine wx5 ?_; clear hk hS a; intro w v hS a hk) | fail) | refine wx0 ?_ | (refine s_end hk ?_; clear hk a; intro a hk) | fail))
  refine sg hk (g_callO hk (hf := by kernel_rfl) (hc := awake20_any _) (h := ?_)); clear hk a; rintro _ w ⟨rfl, hS1⟩ a hk; replace hS := hS.call0 hS1; clear hS1
  (repeat' (first | (show wpListIn _ _ _ _ _ (_ :: _) _ _; first | (refine wx1 ?_; clear hk a; intro a hk) | (refine wx2 ?_ ?_ <;> (intro hp; clear hk a; intro a hk)) | (refine wx3 ?_; clear hk hS a; intro w b hS a hk) | (refine wx4 ?_; clear hk hS a; intro w hS a hk) | (refine wx5 ?_; clear hk hS a; intro w v hS a hk) | fail) | refine wx0 ?_ | (refine s_end hk ?_; clear hk a; intro a hk) | fail))
  refine sg hk (g_bsT (xs := [((dp, k', tag, key, text, ⟨a1, cl.length, m1⟩, ⟨a2, al.length, m2⟩, ⟨a3, sl.length, m3⟩, (e, lv, m', d, p, q)) : FlH)]) (m := 0) hk hS ?_ (hT := eT rfl) (hE := zT rfl) (hz := oT rfl)); clear hk hS a; intro w vf hS a hk
  refine sg hk (g_callO hk (hf := by kernel_rfl) (hc := tree07_any [(dp, k', tag, key, text, ⟨a1, cl.length, m1⟩, ⟨a2, al.length, m2⟩, ⟨a3, sl.length, m3⟩, (e, lv, m', d, p, q))] vf 1 (by omega) (by omega) _ (by first | exact St.rdT hS (by assumption) | exact OwT.rd (hS.rd (A := OwT _ _ _) (by (repeat (first | exact At.here | apply At.there)))) | assumption) (by intro h hh; rw [List.mem_singleton] at hh; subst hh; exact hR0.frz hS.frz)) (h := ?_)); clear hk a; rintro vr w ⟨t, ht1, ht2, hS1⟩ a hk; replace hS := hS.call hS1; clear hS1
  rw [List.cons_append, List.nil_append] at hS
  obtain ⟨hd1, rfl, hS1⟩ := St.tree hS .here
  clear hS
  have hS := hS1
  clear hS1
  have hft := ht1.fit (by omega)
  have hfn := hft.nrm
  obtain ⟨k0, tag0, key0, text0, cl0, al0, sl0, e0, lv0, m0, d0, p0, q0, kids0, X1, Y1, X2, Y2, X3, Y3, X4, Y4, H0, rfl, rfl, -, -, -, -, hF0⟩ := (hS.trR .here).split
  have hk0 : kids0 = [] := by
    cases kids0 with
    | nil => rfl
    | cons u us => have := cnt_pos u; simp only [cnt, cntL] at ht2; omega
  subst hk0
  have hH0 : H0 = [] := List.eq_nil_of_length_eq_zero hF0.1
  subst hH0
  have hok : okN k0 tag0 key0 text0 cl0 al0 sl0 (e0, lv0, m0, d0, p0, q0) := by cases ht1 with | mk h _ => exact h
  simp only [List.length_nil] at hS hk
  (repeat' (first | (show wpListIn _ _ _ _ _ (_ :: _) _ _; first | (refine wx1 ?_; clear hk a; intro a hk) | (refine wx2 ?_ ?_ <;> (intro hp; clear hk a; intro a hk)) | (refine wx3 ?_; clear hk hS a; intro w b hS a hk) | (refine wx4 ?_; clear hk hS a; intro w hS a hk) | (refine wx5 ?_; clear hk hS a; intro w v hS a hk) | fail) | refine wx0 ?_ | (refine s_end hk ?_; clear hk a; intro a hk) | fail))
  refine sg hk (g_callO hk (hf := by kernel_rfl) (hc := own20_any (.mk k0 tag0 key0 text0 cl0 al0 sl0 (e0, lv0, m0, d0, p0, q0) []) (k0, tag0, key0, text0, ⟨X1, cl0.length, Y1⟩, ⟨X2, al0.length, Y2⟩, ⟨X3, sl0.length, Y3⟩, (e0, lv0, m0, d0, p0, q0), ⟨X4, 0, Y4⟩) _ hft (hS.trR (by (repeat (first | exact At.here | apply At.there))))) (h := ?_)); clear hk a; rintro vr w ⟨h1, h2, rfl, hS1⟩ a hk; replace hS := hS.call hS1; clear hS1
  rw [List.cons_append, List.cons_append, List.nil_append] at hS
  obtain ⟨k1, tag1, key1, text1, cl1, al1, sl1, e1, lv1, m1', d1, p1, q1, kids1, B1, N1, B2, N2, B3, N3, B4, N4, H1, he1, rfl, -⟩ := (hS.trR .here).split
  obtain ⟨k2, tag2, key2, text2, cl2, al2, sl2, e2, lv2, m2', d2, p2, q2, kids2, A1, M1, A2, M2, A3, M3, A4, M4, H2, he2, rfl, -⟩ := (hS.trR (.there .here)).split
  rw [he1] at he2 hfn
  injection he2 with i1 i2 i3 i4 i5 i6 i7 i8 i9
  subst i5 i6 i7
  rw [he1] at hS
  rw [nrm] at he1
  injection he1 with _ _ _ _ j5 j6 j7 _ _
  have hrs : Rises nmS al1 := by rw [← j6]; exact snap_rises nmS al0
  have hri : Rises nmI sl1 := by rw [← j7]; exact snap_rises nmI sl0
  obtain ⟨l1, l2, l3, -⟩ := hfn
  have ls1 := snap_len nmS (al1 ++ ghoP k)
  have ls2 := snap_len nmI (sl1 ++ movP m x y)
  have ls3 := clnC_le (cl1 ++ clsL k m)
  rw [List.length_append] at ls1 ls2 ls3
  by_cases hK : k0 < 2
  · (repeat' (first | (show wpListIn _ _ _ _ _ (_ :: _) _ _; first | (refine wx1 ?_; clear hk a; intro a hk) | (refine wx2 ?_ ?_ <;> (intro hp; clear hk a; intro a hk)) | (refine wx3 ?_; clear hk hS a; intro w b hS a hk) | (refine wx4 ?_; clear hk hS a; intro w hS a hk) | (refine wx5 ?_; clear hk hS a; intro w v hS a hk) | fail) | refine wx0 ?_ | (refine s_end hk ?_; clear hk a; intro a hk) | fail))
    refine sg hk (g_callO hk (hf := by kernel_rfl) (hc := is20_any cl1 al1 sl1 _ _ _ _ _ _ _ (hS.trR (h := (k1, tag1, key1, text1, ⟨B1, cl1.length, N1⟩, ⟨B2, al1.length, N2⟩, ⟨B3, sl1.length, N3⟩, (e1, lv1, m1', d1, p1, q1), ⟨B4, H1.length, N4⟩)) (by (repeat (first | exact At.here | apply At.there)))).sl.1 (hS.trR (h := (k1, tag1, key1, text1, ⟨B1, cl1.length, N1⟩, ⟨B2, al1.length, N2⟩, ⟨B3, sl1.length, N3⟩, (e1, lv1, m1', d1, p1, q1), ⟨B4, H1.length, N4⟩)) (by (repeat (first | exact At.here | apply At.there)))).sl.2.1 (hS.trR (h := (k1, tag1, key1, text1, ⟨B1, cl1.length, N1⟩, ⟨B2, al1.length, N2⟩, ⟨B3, sl1.length, N3⟩, (e1, lv1, m1', d1, p1, q1), ⟨B4, H1.length, N4⟩)) (by (repeat (first | exact At.here | apply At.there)))).sl.2.2 (hS.trR (h := (k2, tag2, key2, text2, ⟨A1, cl1.length, M1⟩, ⟨A2, al1.length, M2⟩, ⟨A3, sl1.length, M3⟩, (e2, lv2, m2', d2, p2, q2), ⟨A4, H2.length, M4⟩)) (by (repeat (first | exact At.here | apply At.there)))).sl.1 (hS.trR (h := (k2, tag2, key2, text2, ⟨A1, cl1.length, M1⟩, ⟨A2, al1.length, M2⟩, ⟨A3, sl1.length, M3⟩, (e2, lv2, m2', d2, p2, q2), ⟨A4, H2.length, M4⟩)) (by (repeat (first | exact At.here | apply At.there)))).sl.2.1 (hS.trR (h := (k2, tag2, key2, text2, ⟨A1, cl1.length, M1⟩, ⟨A2, al1.length, M2⟩, ⟨A3, sl1.length, M3⟩, (e2, lv2, m2', d2, p2, q2), ⟨A4, H2.length, M4⟩)) (by (repeat (first | exact At.here | apply At.there)))).sl.2.2 (by omega) (by omega) (by omega)) (h := ?_)); clear hk a; rintro _ w ⟨rfl, hS1⟩ a hk; replace hS := hS.call0 hS1; clear hS1
    (repeat' (first | (show wpListIn _ _ _ _ _ (_ :: _) _ _; first | (refine wx1 ?_; clear hk a; intro a hk) | (refine wx2 ?_ ?_ <;> (intro hp; clear hk a; intro a hk)) | (refine wx3 ?_; clear hk hS a; intro w b hS a hk) | (refine wx4 ?_; clear hk hS a; intro w hS a hk) | (refine wx5 ?_; clear hk hS a; intro w v hS a hk) | fail) | refine wx0 ?_ | (refine s_end hk ?_; clear hk a; intro a hk) | fail))
    exact done1 hk (h := ⟨rfl, hS.nil⟩)
  · (repeat' (first | (show wpListIn _ _ _ _ _ (_ :: _) _ _; first | (refine wx1 ?_; clear hk a; intro a hk) | (refine wx2 ?_ ?_ <;> (intro hp; clear hk a; intro a hk)) | (refine wx3 ?_; clear hk hS a; intro w b hS a hk) | (refine wx4 ?_; clear hk hS a; intro w hS a hk) | (refine wx5 ?_; clear hk hS a; intro w v hS a hk) | fail) | refine wx0 ?_ | (refine s_end hk ?_; clear hk a; intro a hk) | fail))
    refine sg hk (g_callO hk (hf := by kernel_rfl) (hc := Check1_any k0 tag0 key0 text0 cl0 al0 sl0 e0 lv0 m0 d0 p0 q0 X1 X2 X3 X4 Y1 Y2 Y3 Y4 _ hok (hS.trR (t := (.mk k0 tag0 key0 text0 cl0 al0 sl0 (e0, lv0, m0, d0, p0, q0) [])) (h := (k0, tag0, key0, text0, ⟨X1, cl0.length, Y1⟩, ⟨X2, al0.length, Y2⟩, ⟨X3, sl0.length, Y3⟩, (e0, lv0, m0, d0, p0, q0), ⟨X4, 0, Y4⟩)) (by (repeat (first | exact At.here | apply At.there))))) (h := ?_)); clear hk a; rintro vr w ⟨⟨er, rfl, her⟩, hS1⟩ a hk; replace hS := hS.call hS1; clear hS1
    rw [List.nil_append] at hS
    by_cases he0 : er = 0
    · subst he0
      have hn0 := her rfl
      have hn1 := names_at (cl := cl1) (al := al1) (sl := sl1) (by
        rw [← j5, ← j6, ← j7]
        exact fun c hc => hn0 c (names_sub c hc))
      have hcl0 := names_at hn0
      have q1' : mineC (clnC (cl1 ++ clsL k m)) = cl1 := by rw [← j5]; exact hid_cls k m hcl0.1
      have q2' : mineS (snapF nmS (al1 ++ ghoP k)) = al1 := hid_att k hrs hn1.2.1
      have q3' : mineI (snapF nmI (sl1 ++ movP m x y)) = sl1 := hid_sty m x y hri hn1.2.2
      have q4' : mineC cl1 = cl1 := by rw [← j5]; exact hid_cls0 hcl0.1
      have q5' : mineS al1 = al1 := hid_att0 hrs hn1.2.1
      have q6' : mineI sl1 = sl1 := hid_sty0 hri hn1.2.2
      have tk1 := fun {va vb vc : Value} {g : World} (a1 : SlT (clnC (cl1 ++ clsL k m)) va g) (a2 : SlT (snapF nmS (al1 ++ ghoP k)) vb g) (a3 : SlT (snapF nmI (sl1 ++ movP m x y)) vc g) => take3 a1 a2 a3 (by omega) (by omega) (by omega)
      have tk2 := fun {va vb vc : Value} {g : World} (a1 : SlT cl1 va g) (a2 : SlT al1 vb g) (a3 : SlT sl1 vc g) => take3 a1 a2 a3 (by omega) (by omega) (by omega)
      rw [q1', q2', q3'] at tk1
      rw [q4', q5', q6'] at tk2
      (repeat' (first | (show wpListIn _ _ _ _ _ (_ :: _) _ _; first | (refine wx1 ?_; clear hk a; intro a hk) | (refine wx2 ?_ ?_ <;> (intro hp; clear hk a; intro a hk)) | (refine wx3 ?_; clear hk hS a; intro w b hS a hk) | (refine wx4 ?_; clear hk hS a; intro w hS a hk) | (refine wx5 ?_; clear hk hS a; intro w v hS a hk) | fail) | refine wx0 ?_ | (refine s_end hk ?_; clear hk a; intro a hk) | fail))
      refine wp_drawn 12 mixed (by kernel_rfl) hk hS ?_; clear hk hS a
      (repeat' (first | (show ObxE _ _ _ _ _ _ _ _ _ (_ :: _) _ _ _; first | refine ox1 ?_ | (refine ox2 ?_ ?_ <;> intro hp) | fail) | fail))
      refine' obe_res (fun us a w hk hd hS => ?_) ?_; rotate_left; focus (have hk := Kn.vw hk (by repeat (first | exact VW.nil | apply VW.val rfl | apply VW.base rfl rfl | apply VW.res rfl | apply VW.upd rfl | apply VW.cpy rfl | apply VW.dep rfl | apply VW.fn rfl | apply VW.lnd rfl | apply VW.tak rfl)); exact g_callO hk (hf := by kernel_rfl) (hc := put3 k m x y (hS.trR (h := (k1, tag1, key1, text1, ⟨B1, cl1.length, N1⟩, ⟨B2, al1.length, N2⟩, ⟨B3, sl1.length, N3⟩, (e1, lv1, m1', d1, p1, q1), ⟨B4, H1.length, N4⟩)) (by (repeat (first | exact At.here | apply At.there)))).sl.1 (hS.trR (h := (k1, tag1, key1, text1, ⟨B1, cl1.length, N1⟩, ⟨B2, al1.length, N2⟩, ⟨B3, sl1.length, N3⟩, (e1, lv1, m1', d1, p1, q1), ⟨B4, H1.length, N4⟩)) (by (repeat (first | exact At.here | apply At.there)))).sl.2.1 (hS.trR (h := (k1, tag1, key1, text1, ⟨B1, cl1.length, N1⟩, ⟨B2, al1.length, N2⟩, ⟨B3, sl1.length, N3⟩, (e1, lv1, m1', d1, p1, q1), ⟨B4, H1.length, N4⟩)) (by (repeat (first | exact At.here | apply At.there)))).sl.2.2 (by omega) (by omega) (by omega)) (h := fun _ _ h => h))
      (repeat' (first | (show ObxE _ _ _ _ _ _ _ _ _ (_ :: _) _ _ _; first | refine ox1 ?_ | (refine ox2 ?_ ?_ <;> intro hp) | fail) | fail))
      refine' obe_res (fun us a w hk hd hS => ?_) ?_; rotate_left
      focus
        have hk := Kn.vw hk (by repeat (first | exact VW.nil | apply VW.val rfl | apply VW.base rfl rfl | apply VW.res rfl | apply VW.upd rfl | apply VW.cpy rfl | apply VW.dep rfl | apply VW.fn rfl | apply VW.lnd rfl | apply VW.tak rfl))
        obtain ⟨va, vb, vc, e1', r1, r2, r3⟩ := own3.rd hd.1
        simp only [Nat.zero_add, Nat.reduceAdd] at hk e1'
        rw [e1'] at hk
        exact g_callO hk (hf := by kernel_rfl) (hc := tk1 r1 r2 r3) (h := fun _ _ h => h)
      (repeat' (first | (show ObxE _ _ _ _ _ _ _ _ _ (_ :: _) _ _ _; first | refine ox1 ?_ | (refine ox2 ?_ ?_ <;> intro hp) | fail) | fail))
      refine' obe_val (c := .bool true) (fun us a w hk hd hS => ?_) ?_
      · have hk := Kn.vw hk (by repeat (first | exact VW.nil | apply VW.val rfl | apply VW.base rfl rfl | apply VW.res rfl | apply VW.upd rfl | apply VW.cpy rfl | apply VW.dep rfl | apply VW.fn rfl | apply VW.lnd rfl | apply VW.tak rfl))
        obtain ⟨va, vb, vc, e1', r1, r2, r3⟩ := own3.rd hd.1
        simp only [Nat.zero_add, Nat.reduceAdd] at hk e1'
        rw [e1'] at hk
        exact g_callO hk (hf := by kernel_rfl) (hc := is20_any cl1 al1 sl1 _ _ _ _ _ _ _ r1 r2 r3 (hS.trR (h := (k2, tag2, key2, text2, ⟨A1, cl1.length, M1⟩, ⟨A2, al1.length, M2⟩, ⟨A3, sl1.length, M3⟩, (e2, lv2, m2', d2, p2, q2), ⟨A4, H2.length, M4⟩)) (by (repeat (first | exact At.here | apply At.there)))).sl.1 (hS.trR (h := (k2, tag2, key2, text2, ⟨A1, cl1.length, M1⟩, ⟨A2, al1.length, M2⟩, ⟨A3, sl1.length, M3⟩, (e2, lv2, m2', d2, p2, q2), ⟨A4, H2.length, M4⟩)) (by (repeat (first | exact At.here | apply At.there)))).sl.2.1 (hS.trR (h := (k2, tag2, key2, text2, ⟨A1, cl1.length, M1⟩, ⟨A2, al1.length, M2⟩, ⟨A3, sl1.length, M3⟩, (e2, lv2, m2', d2, p2, q2), ⟨A4, H2.length, M4⟩)) (by (repeat (first | exact At.here | apply At.there)))).sl.2.2 (by omega) (by omega) (by omega)) (h := fun _ _ h => h)
      (repeat' (first | (show ObxE _ _ _ _ _ _ _ _ _ (_ :: _) _ _ _; first | refine ox1 ?_ | (refine ox2 ?_ ?_ <;> intro hp) | fail) | fail))
      refine' obe_res (fun us a w hk hd hS => ?_) ?_; rotate_left; focus (have hk := Kn.vw hk (by repeat (first | exact VW.nil | apply VW.val rfl | apply VW.base rfl rfl | apply VW.res rfl | apply VW.upd rfl | apply VW.cpy rfl | apply VW.dep rfl | apply VW.fn rfl | apply VW.lnd rfl | apply VW.tak rfl)); exact g_callO hk (hf := by kernel_rfl) (hc := tk2 (hS.trR (h := (k1, tag1, key1, text1, ⟨B1, cl1.length, N1⟩, ⟨B2, al1.length, N2⟩, ⟨B3, sl1.length, N3⟩, (e1, lv1, m1', d1, p1, q1), ⟨B4, H1.length, N4⟩)) (by (repeat (first | exact At.here | apply At.there)))).sl.1 (hS.trR (h := (k1, tag1, key1, text1, ⟨B1, cl1.length, N1⟩, ⟨B2, al1.length, N2⟩, ⟨B3, sl1.length, N3⟩, (e1, lv1, m1', d1, p1, q1), ⟨B4, H1.length, N4⟩)) (by (repeat (first | exact At.here | apply At.there)))).sl.2.1 (hS.trR (h := (k1, tag1, key1, text1, ⟨B1, cl1.length, N1⟩, ⟨B2, al1.length, N2⟩, ⟨B3, sl1.length, N3⟩, (e1, lv1, m1', d1, p1, q1), ⟨B4, H1.length, N4⟩)) (by (repeat (first | exact At.here | apply At.there)))).sl.2.2) (h := fun _ _ h => h))
      (repeat' (first | (show ObxE _ _ _ _ _ _ _ _ _ (_ :: _) _ _ _; first | refine ox1 ?_ | (refine ox2 ?_ ?_ <;> intro hp) | fail) | fail))
      refine' obe_val (c := .bool true) (fun us a w hk hd hS => ?_) ?_
      · have hk := Kn.vw hk (by repeat (first | exact VW.nil | apply VW.val rfl | apply VW.base rfl rfl | apply VW.res rfl | apply VW.upd rfl | apply VW.cpy rfl | apply VW.dep rfl | apply VW.fn rfl | apply VW.lnd rfl | apply VW.tak rfl))
        obtain ⟨va, vb, vc, e1', r1, r2, r3⟩ := own3.rd hd.1
        simp only [Nat.zero_add, Nat.reduceAdd] at hk e1'
        rw [e1'] at hk
        exact g_callO hk (hf := by kernel_rfl) (hc := is20_any cl1 al1 sl1 _ _ _ _ _ _ _ r1 r2 r3 (hS.trR (h := (k2, tag2, key2, text2, ⟨A1, cl1.length, M1⟩, ⟨A2, al1.length, M2⟩, ⟨A3, sl1.length, M3⟩, (e2, lv2, m2', d2, p2, q2), ⟨A4, H2.length, M4⟩)) (by (repeat (first | exact At.here | apply At.there)))).sl.1 (hS.trR (h := (k2, tag2, key2, text2, ⟨A1, cl1.length, M1⟩, ⟨A2, al1.length, M2⟩, ⟨A3, sl1.length, M3⟩, (e2, lv2, m2', d2, p2, q2), ⟨A4, H2.length, M4⟩)) (by (repeat (first | exact At.here | apply At.there)))).sl.2.1 (hS.trR (h := (k2, tag2, key2, text2, ⟨A1, cl1.length, M1⟩, ⟨A2, al1.length, M2⟩, ⟨A3, sl1.length, M3⟩, (e2, lv2, m2', d2, p2, q2), ⟨A4, H2.length, M4⟩)) (by (repeat (first | exact At.here | apply At.there)))).sl.2.2 (by omega) (by omega) (by omega)) (h := fun _ _ h => h)
      (repeat' (first | (show ObxE _ _ _ _ _ _ _ _ _ (_ :: _) _ _ _; first | refine ox1 ?_ | (refine ox2 ?_ ?_ <;> intro hp) | fail) | fail))
      refine obe_nil ⟨rfl, ?_⟩; intro us a w hk hS
      (repeat' (first | (show wpListIn _ _ _ _ _ (_ :: _) _ _; first | (refine wx1 ?_; clear hk a; intro a hk) | (refine wx2 ?_ ?_ <;> (intro hp; clear hk a; intro a hk)) | (refine wx3 ?_; clear hk hS a; intro w b hS a hk) | (refine wx4 ?_; clear hk hS a; intro w hS a hk) | (refine wx5 ?_; clear hk hS a; intro w v hS a hk) | fail) | refine wx0 ?_ | (refine s_end hk ?_; clear hk a; intro a hk) | fail))
      exact done1 hk (h := ⟨rfl, hS.nil⟩)
    · (repeat' (first | (show wpListIn _ _ _ _ _ (_ :: _) _ _; first | (refine wx1 ?_; clear hk a; intro a hk) | (refine wx2 ?_ ?_ <;> (intro hp; clear hk a; intro a hk)) | (refine wx3 ?_; clear hk hS a; intro w b hS a hk) | (refine wx4 ?_; clear hk hS a; intro w hS a hk) | (refine wx5 ?_; clear hk hS a; intro w v hS a hk) | fail) | refine wx0 ?_ | (refine s_end hk ?_; clear hk a; intro a hk) | fail))
      refine sg hk (g_callO hk (hf := by kernel_rfl) (hc := is20_any cl1 al1 sl1 _ _ _ _ _ _ _ (hS.trR (h := (k1, tag1, key1, text1, ⟨B1, cl1.length, N1⟩, ⟨B2, al1.length, N2⟩, ⟨B3, sl1.length, N3⟩, (e1, lv1, m1', d1, p1, q1), ⟨B4, H1.length, N4⟩)) (by (repeat (first | exact At.here | apply At.there)))).sl.1 (hS.trR (h := (k1, tag1, key1, text1, ⟨B1, cl1.length, N1⟩, ⟨B2, al1.length, N2⟩, ⟨B3, sl1.length, N3⟩, (e1, lv1, m1', d1, p1, q1), ⟨B4, H1.length, N4⟩)) (by (repeat (first | exact At.here | apply At.there)))).sl.2.1 (hS.trR (h := (k1, tag1, key1, text1, ⟨B1, cl1.length, N1⟩, ⟨B2, al1.length, N2⟩, ⟨B3, sl1.length, N3⟩, (e1, lv1, m1', d1, p1, q1), ⟨B4, H1.length, N4⟩)) (by (repeat (first | exact At.here | apply At.there)))).sl.2.2 (hS.trR (h := (k2, tag2, key2, text2, ⟨A1, cl1.length, M1⟩, ⟨A2, al1.length, M2⟩, ⟨A3, sl1.length, M3⟩, (e2, lv2, m2', d2, p2, q2), ⟨A4, H2.length, M4⟩)) (by (repeat (first | exact At.here | apply At.there)))).sl.1 (hS.trR (h := (k2, tag2, key2, text2, ⟨A1, cl1.length, M1⟩, ⟨A2, al1.length, M2⟩, ⟨A3, sl1.length, M3⟩, (e2, lv2, m2', d2, p2, q2), ⟨A4, H2.length, M4⟩)) (by (repeat (first | exact At.here | apply At.there)))).sl.2.1 (hS.trR (h := (k2, tag2, key2, text2, ⟨A1, cl1.length, M1⟩, ⟨A2, al1.length, M2⟩, ⟨A3, sl1.length, M3⟩, (e2, lv2, m2', d2, p2, q2), ⟨A4, H2.length, M4⟩)) (by (repeat (first | exact At.here | apply At.there)))).sl.2.2 (by omega) (by omega) (by omega)) (h := ?_)); clear hk a; rintro _ w ⟨rfl, hS1⟩ a hk; replace hS := hS.call0 hS1; clear hS1
      (repeat' (first | (show wpListIn _ _ _ _ _ (_ :: _) _ _; first | (refine wx1 ?_; clear hk a; intro a hk) | (refine wx2 ?_ ?_ <;> (intro hp; clear hk a; intro a hk)) | (refine wx3 ?_; clear hk hS a; intro w b hS a hk) | (refine wx4 ?_; clear hk hS a; intro w hS a hk) | (refine wx5 ?_; clear hk hS a; intro w v hS a hk) | fail) | refine wx0 ?_ | (refine s_end hk ?_; clear hk a; intro a hk) | fail))
      exact done1 hk (h := ⟨rfl, hS.nil⟩)
theorem walk_DressHides (W : World) (vs : List Value) (h : Args Try.prog W [28, 30] vs) : Calls Try.prog 6 vs.toArray W (Ret fun v w => v = .bool true ∧ St W [] w) := by
  obtain ⟨v1, v2, rfl, ha, hb⟩ := args2 h
  obtain ⟨x, rfl, hx⟩ := arg_flat ha
  obtain ⟨k, m, dx, dy, rfl, _⟩ := arg_look hb
  exact hides20_any x k m dx dy W hx
end Go.Proofs.Ytakejjfmbgbedaa
