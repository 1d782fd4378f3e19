/- Layer 7: views of flat nodes. Layer 9: the static rendering of a view that is as it is shown: the program. Layer 7: views as they are shown, in plain words. Layer 7: views as they are shown, by the reference. -/
import Derived.Test.YtkcjkbnbblpomaaGreatDoorT15
import Derived.Test.YtkcjkbnbblpomaaGreatDoorT12
set_option linter.all false
namespace Go.Proofs.YtkcjkbnbblpomaaGreatDoor
open Go.RowKit
set_option maxRecDepth 100000
attribute [local irreducible] Go.Code.wpIn Go.wpListIn Go.Calls Gives Go.Exit.then Go.Exit.inBlock Done ObxE

def in64 (x : Int) : Prop := -9223372036854775808 ≤ x ∧ x ≤ 9223372036854775807
def FlR (w : World) (h : FlH) : Prop := ∃ (dp k : Int) (tag key text : ByteArray) (cl : List ByteArray) (al : List (ByteArray × ByteArray)) (sl : List (ByteArray × Int)) (e lv m d : Int) (p q : Bool) (a1 a2 a3 : Option Addr) (m1 m2 m3 : Nat),
  h = (dp, k, tag, key, text, ⟨a1, cl.length, m1⟩, ⟨a2, al.length, m2⟩, ⟨a3, sl.length, m3⟩, (e, lv, m, d, p, q)) ∧ SlT cl (.slice a1 cl.length m1) w ∧ SlT al (.slice a2 al.length m2) w ∧ SlT sl (.slice a3 sl.length m3) w ∧
  in64 dp ∧ in64 k ∧ in64 e ∧ in64 lv ∧ in64 m ∧ in64 d ∧ ∀ x ∈ sl, in64 x.2

def okN (k : Int) (tag key text : ByteArray) (cl : List ByteArray) (al : List (ByteArray × ByteArray)) (sl : List (ByteArray × Int)) (o : Opt) : Prop :=
  in64 k ∧ tag.size ≤ 20 ∧ key.size ≤ 20 ∧ text.size ≤ 70 ∧ cl.length ≤ 4 ∧ (∀ c ∈ cl, c.size ≤ 20) ∧ al.length ≤ 4 ∧ (∀ x ∈ al, x.1.size ≤ 20 ∧ x.2.size ≤ 40) ∧ sl.length ≤ 4 ∧ (∀ x ∈ sl, x.1.size ≤ 20 ∧ in64 x.2) ∧
  in64 o.1 ∧ in64 o.2.1 ∧ in64 o.2.2.1 ∧ in64 o.2.2.2.1
inductive Small : Tree → Prop where
  | mk {k : Int} {tag key text : ByteArray} {cl : List ByteArray} {al : List (ByteArray × ByteArray)} {sl : List (ByteArray × Int)} {o : Opt} {kids : List Tree} (h : okN k tag key text cl al sl o) (hk : ∀ t ∈ kids, Small t) : Small (.mk k tag key text cl al sl o kids)
mutual
def cnt : Tree → Nat
  | .mk _ _ _ _ _ _ _ _ kids => cntL kids + 1
def cntL : List Tree → Nat
  | [] => 0
  | t :: ts => cnt t + cntL ts
end
theorem cntL_app : ∀ (ts us : List Tree), cntL (ts ++ us) = cntL ts + cntL us
  | [], us => by simp [cntL]
  | t :: ts, us => by simp only [List.cons_append, cntL, cntL_app ts us]; omega
theorem cnt_pos (t : Tree) : 1 ≤ cnt t := by cases t; simp only [cnt]; omega
theorem cntL_len : ∀ ts : List Tree, ts.length ≤ cntL ts
  | [] => by simp
  | t :: ts => by have := cntL_len ts; have := cnt_pos t; simp only [List.length_cons, cntL]; omega
theorem cntL_mem : ∀ {ts : List Tree} {t : Tree}, t ∈ ts → cnt t ≤ cntL ts
  | t :: ts, u, h => by
    rcases List.mem_cons.1 h with rfl | h
    · simp only [cntL]; omega
    · have := cntL_mem h; simp only [cntL]; omega

theorem okN_node {k : Int} {tag key text : ByteArray} {cl : List ByteArray} {al : List (ByteArray × ByteArray)} {sl : List (ByteArray × Int)} {e lv m d : Int} {p q : Bool} (hk : in64 k) (he : in64 e) (hl : in64 lv) (hm : in64 m) (hd : in64 d) (hs : ∀ x ∈ sl, in64 x.2) :
    okN k (cutF tag 20) (cutF key 20) (cutF text 70) (few03 cl 4) (fewA al 4) (few04 sl 4) (e, lv, m, d, p, q) := by
  refine ⟨hk, cutF_len _ _, cutF_len _ _, cutF_len _ _, by rw [few03_len]; omega, fun c hc => ?_, by rw [fewA_len]; omega, fun x hx => ?_, by rw [few04_len]; omega, fun x hx => ?_, he, hl, hm, hd⟩
  · obtain ⟨y, _, rfl⟩ := List.mem_map.1 hc; exact cutF_len _ _
  · obtain ⟨y, _, rfl⟩ := List.mem_map.1 hx; exact ⟨cutF_len _ _, cutF_len _ _⟩
  · obtain ⟨y, hy, rfl⟩ := List.mem_map.1 hx; exact ⟨cutF_len _ _, hs y (List.mem_of_mem_take hy)⟩

theorem FlR.frz {w w' : World} {h : FlH} (hr : FlR w h) (hf : Frz w w') : FlR w' h := by
  obtain ⟨dp, k, tag, key, text, cl, al, sl, e, lv, m, d, p, q, a1, a2, a3, m1, m2, m3, e0, c1, c2, c3, hr⟩ := hr
  exact ⟨dp, k, tag, key, text, cl, al, sl, e, lv, m, d, p, q, a1, a2, a3, m1, m2, m3, e0, c1.frz hf, c2.frz hf, c3.frz hf, hr⟩
structure KS where
  at_ : Nat
  ts : List Tree
  H : List NdH
  a : Option Addr
  c : Nat

set_option maxHeartbeats 4000000 in
theorem kids07_any (F : List FlH) (v : Value) (hFl : F.length ≤ 1000) : ∀ (n at_ : Nat) (deep : Int) (w0 : World), F.length - at_ < n → at_ ≤ F.length → SlT F v w0 → (∀ h ∈ F, FlR w0 h) →
    Calls Tryz.prog 38 #[v, .int .i64 (at_ : Int), .int .i64 deep] w0 (Ret fun u w => ∃ (ts : List Tree) (H : List NdH) (at' : Nat) (ak : Option Addr) (ck : Nat), u = .tuple #[.slice ak H.length ck, .int .i64 (at' : Int)] ∧ at_ ≤ at' ∧ at' ≤ F.length ∧ at_ + cntL ts ≤ at' ∧ (∀ t ∈ ts, Small t) ∧
      St w0 [forR ts H, OwT 31 H (.slice ak H.length ck)] w)
  | 0, _, _, _, hn, _, _, _ => by omega
  | n + 1, at_, deep, w0, hn, hat, hv, hR => by
    have ih := kids07_any F v hFl n
    refine enter Tryz.func38 rfl Tryz.ntmps38 rfl (fun a hk => ?_); have hS := St.refl w0
    (repeat' (first | (show wpListIn _ _ _ _ _ (_ :: _) _ _; first | (refine wx1 ?_; clear hk a; intro a hk) | (refine wx2 ?_ ?_ <;> (intro hp; clear hk a; intro a hk)) | (refine wx3 ?_; clear hk hS a; intro w b hS a hk) | (refine wx4 ?_; clear hk hS a; intro w hS a hk) | (refine wx5 ?_; clear hk hS a; intro w v hS a hk) | fail) | refine wx0 ?_ | (refine s_end hk ?_; clear hk a; intro a hk) | fail))
    replace hS := forR.nil (hS.nilT 31 NdH)
    replace hk := Kn.kp [0, 1, 2, 8] hk
    refine wp_while (fun x : KS => [(1, .int .i64 (x.at_ : Int)), (8, .slice x.a x.H.length x.c)]) (fun x => [forR x.ts x.H, OwT 31 x.H (.slice x.a x.H.length x.c)])
      (fun x => at_ ≤ x.at_ ∧ x.at_ ≤ F.length ∧ at_ + cntL x.ts ≤ x.at_ ∧ ∀ t ∈ x.ts, Small t) (fun x => F.length - x.at_) ⟨at_, [], [], none, 0⟩ hk (by repeat (first | exact trivial | refine ⟨rfl, ?_⟩)) hS.sb ⟨Nat.le_refl _, hat, by simp [cntL], fun t h => by cases h⟩ ?_
    clear hk hS a
    rintro ⟨at1, ts, H, ak, ck⟩ a w hk hS ⟨g1, g2, g3, g4⟩
    simp only at hk hS g1 g2 g3 g4
    have hv1 := hS.rdT hv
    have hFH := hS.foR .here
    have hHl : H.length = ts.length := hFH.1
    have htl := cntL_len ts
    by_cases hlt : at1 < F.length
    · obtain ⟨x, hx⟩ : ∃ x, F[at1]? = some x := ⟨_, List.getElem?_eq_getElem hlt⟩
      obtain ⟨dp, k, tag, key, text, cl, al, sl, e, lv, m, d, p, q, a1, a2, a3, m1, m2, m3, rfl, c1, c2, c3, b1, b2, b3, b4, b5, b6, b7⟩ := hR x (List.mem_of_getElem? hx)
      by_cases hdp : deep < dp
      · (repeat' (first | (show wpListIn _ _ _ _ _ (_ :: _) _ _; first | (refine wx1 ?_; clear hk a; intro a hk) | (refine wx2 ?_ ?_ <;> (intro hp; clear hk a; intro a hk)) | (refine wx3 ?_; clear hk hS a; intro w b hS a hk) | (refine wx4 ?_; clear hk hS a; intro w hS a hk) | (refine wx5 ?_; clear hk hS a; intro w v hS a hk) | fail) | refine wx0 ?_ | (refine s_end hk ?_; clear hk a; intro a hk) | fail))
        refine sg hk (g_callO hk (hf := by kernel_rfl) (hc := node07_any dp k tag key text cl al sl e lv m d p q a1 a2 a3 m1 m2 m3 _ (hS.rdT c1) (hS.rdT c2) (hS.rdT c3)) (h := ?_)); clear hk a; rintro vn w hS1 a hk; replace hS := hS.call hS1; clear hS1
        rw [List.cons_append, List.nil_append] at hS
        obtain ⟨hd1, rfl, hS1⟩ := St.tree hS .here
        clear hS
        have hS := hS1
        clear hS1
        obtain ⟨k0, tag0, key0, text0, cl0, al0, sl0, e0, lv0, m0, d0, p0, q0, kids0, A1, M1, A2, M2, A3, M3, A4, M4, H0, he, rfl, _⟩ := (hS.trR .here).split
        have hok := okN_node (tag := tag) (key := key) (text := text) (cl := cl) (al := al) (p := p) (q := q) b2 b3 b4 b5 b6 b7
        unfold nodeF at he hS
        injection he with q1 q2 q3 q4 q5 q6 q7 q8 q9
        rw [q1, q2, q3, q4, q5, q6, q7, q8, q9] at hS
        rw [q1, q2, q3, q4, q5, q6, q7, q8] at hok
        clear q1 q2 q3 q4 q5 q6 q7 q8 q9
        (repeat' (first | (show wpListIn _ _ _ _ _ (_ :: _) _ _; first | (refine wx1 ?_; clear hk a; intro a hk) | (refine wx2 ?_ ?_ <;> (intro hp; clear hk a; intro a hk)) | (refine wx3 ?_; clear hk hS a; intro w b hS a hk) | (refine wx4 ?_; clear hk hS a; intro w hS a hk) | (refine wx5 ?_; clear hk hS a; intro w v hS a hk) | fail) | refine wx0 ?_ | (refine s_end hk ?_; clear hk a; intro a hk) | fail))
        refine sg hk (g_callO hk (hf := by kernel_rfl) (hc := ih (at1 + 1) dp _ (by omega) (by omega) (hS.rdT hv) (fun h hh => (hR h hh).frz hS.frz)) (h := ?_)); clear hk a; rintro vr w ⟨ts2, H2, at2, ak2, ck2, rfl, r1, r2, r3, r4, hS1⟩ a hk; replace hS := hS.call hS1; clear hS1
        rw [List.cons_append, List.cons_append, List.nil_append] at hS
        (repeat' (first | (show wpListIn _ _ _ _ _ (_ :: _) _ _; first | (refine wx1 ?_; clear hk a; intro a hk) | (refine wx2 ?_ ?_ <;> (intro hp; clear hk a; intro a hk)) | (refine wx3 ?_; clear hk hS a; intro w b hS a hk) | (refine wx4 ?_; clear hk hS a; intro w hS a hk) | (refine wx5 ?_; clear hk hS a; intro w v hS a hk) | fail) | refine wx0 ?_ | (refine s_end hk ?_; clear hk a; intro a hk) | fail))
        refine sg hk (g_bsT (xs := [((k0, tag0, key0, text0, ⟨A1, cl0.length, M1⟩, ⟨A2, al0.length, M2⟩, ⟨A3, sl0.length, M3⟩, (e0, lv0, m0, d0, p0, q0), ⟨ak2, H2.length, ck2⟩) : NdH)]) (m := 0) hk hS ?_ (hT := eT rfl) (hE := zT rfl) (hz := oT rfl)); clear hk hS a; intro w ve hS a hk
        (repeat' (first | (show wpListIn _ _ _ _ _ (_ :: _) _ _; first | (refine wx1 ?_; clear hk a; intro a hk) | (refine wx2 ?_ ?_ <;> (intro hp; clear hk a; intro a hk)) | (refine wx3 ?_; clear hk hS a; intro w b hS a hk) | (refine wx4 ?_; clear hk hS a; intro w hS a hk) | (refine wx5 ?_; clear hk hS a; intro w v hS a hk) | fail) | refine wx0 ?_ | (refine s_end hk ?_; clear hk a; intro a hk) | fail))
        rename Value => vn
        obtain ⟨aovn, cvn, hshp, _⟩ := (OwT.rd (hS.rd (A := OwT 31 _ vn) (by (repeat (first | exact At.here | apply At.there))))).shape; subst hshp
        have hS1 := treeR.kids (k := k0) (tag := tag0) (key := key0) (text := text0) (cl := cl0) (at_ := al0) (st := sl0) (o := (e0, lv0, m0, d0, p0, q0)) (hc := ⟨A1, cl0.length, M1⟩) (ha := ⟨A2, al0.length, M2⟩) (hs := ⟨A3, sl0.length, M3⟩) (hk0 := ⟨A4, H0.length, M4⟩) (kids := ts2) (kids0 := kids0) (E := 31) (hk := ⟨ak2, H2.length, ck2⟩) (H := H2)
          (L := [forR ts H, OwT 31 (H ++ [((k0, tag0, key0, text0, ⟨A1, cl0.length, M1⟩, ⟨A2, al0.length, M2⟩, ⟨A3, sl0.length, M3⟩, (e0, lv0, m0, d0, p0, q0), ⟨ak2, H2.length, ck2⟩) : NdH)]) (.slice aovn (H ++ [((k0, tag0, key0, text0, ⟨A1, cl0.length, M1⟩, ⟨A2, al0.length, M2⟩, ⟨A3, sl0.length, M3⟩, (e0, lv0, m0, d0, p0, q0), ⟨ak2, H2.length, ck2⟩) : NdH)]).length cvn)]) (hS.sub (by (repeat (first | exact Sub.nil | exact Sub.refl | refine Sub.cons (by (repeat (first | exact At.here | apply At.there))) ?_))))
        have hS2 := forR.snoc hS1
        refine ⟨⟨at2, ts ++ [.mk k0 tag0 key0 text0 cl0 al0 sl0 (e0, lv0, m0, d0, p0, q0) ts2], H ++ [((k0, tag0, key0, text0, ⟨A1, cl0.length, M1⟩, ⟨A2, al0.length, M2⟩, ⟨A3, sl0.length, M3⟩, (e0, lv0, m0, d0, p0, q0), ⟨ak2, H2.length, ck2⟩) : NdH)], aovn, cvn⟩, by show F.length - at2 < F.length - at1; omega, hk.sd, hS2, by show at_ ≤ at2; omega, r2, ?_, fun t ht => ?_⟩
        · show at_ + cntL (ts ++ [_]) ≤ at2
          rw [cntL_app]
          simp only [cntL, cnt]
          omega
        · rcases List.mem_append.1 ht with h | h
          · exact g4 t h
          · rw [List.mem_singleton] at h
            subst h
            exact .mk hok r4
      · (repeat' (first | (show wpListIn _ _ _ _ _ (_ :: _) _ _; first | (refine wx1 ?_; clear hk a; intro a hk) | (refine wx2 ?_ ?_ <;> (intro hp; clear hk a; intro a hk)) | (refine wx3 ?_; clear hk hS a; intro w b hS a hk) | (refine wx4 ?_; clear hk hS a; intro w hS a hk) | (refine wx5 ?_; clear hk hS a; intro w v hS a hk) | fail) | refine wx0 ?_ | (refine s_end hk ?_; clear hk a; intro a hk) | fail))
        exact done2 hk (h := ⟨ts, H, at1, ak, ck, rfl, g1, g2, g3, g4, hS⟩)
    · (repeat' (first | (show wpListIn _ _ _ _ _ (_ :: _) _ _; first | (refine wx1 ?_; clear hk a; intro a hk) | (refine wx2 ?_ ?_ <;> (intro hp; clear hk a; intro a hk)) | (refine wx3 ?_; clear hk hS a; intro w b hS a hk) | (refine wx4 ?_; clear hk hS a; intro w hS a hk) | (refine wx5 ?_; clear hk hS a; intro w v hS a hk) | fail) | refine wx0 ?_ | (refine s_end hk ?_; clear hk a; intro a hk) | fail))
      exact done2 hk (h := ⟨ts, H, at1, ak, ck, rfl, g1, g2, g3, g4, hS⟩)
end Go.Proofs.YtkcjkbnbblpomaaGreatDoor
namespace Go.Proofs.YtkcjkbnbblpomaaGreatDoor
open Go.RowKit
set_option maxRecDepth 100000
attribute [local irreducible] Go.Code.wpIn Go.wpListIn Go.Calls Gives Go.Exit.then Go.Exit.inBlock Done ObxE

mutual
def stl : Tree → STree
  | .mk k tag _ text cl al sl _ kids => if k = 1 then .mk 0 1 ⟨#[]⟩ text [] [] [] [] else .mk 0 2 tag ⟨#[]⟩ cl al sl (stlL kids)
def stlL : List Tree → List STree
  | [] => []
  | t :: ts => stl t :: stlL ts
end
theorem stlL_map : ∀ l, stlL l = l.map stl
  | [] => rfl
  | t :: ts => by rw [stlL, stlL_map ts]; rfl
theorem sleaf {B : Bs} {L : List HP} {w : World} (id k : Int) (tag text : ByteArray) (hS : St B L w) : St B (streeR (.mk id k tag text [] [] [] []) (id, k, tag, text, ⟨none, 0, 0⟩, ⟨none, 0, 0⟩, ⟨none, 0, 0⟩, ⟨none, 0, 0⟩) :: L) w :=
  rdH.of (L1 := []) hS fun g _ => .mk (SlT.nil (α := ByteArray) g) (SlT.nil (α := ByteArray × ByteArray) g) (SlT.nil (α := ByteArray × Int) g) (SlT.nil (α := SnH) g) rfl (fun i t h h1 _ => by simp at h1)

theorem clone9S_any (l : List PrS) (v : Value) (w0 : World) (hv : SlT l v w0) (hl : l.length ≤ 900) : Calls Tryz.prog 88 #[v] w0 (Ret fun v w => St w0 [OwT 98 l v] w) := by
  obtain ⟨ao, c, rfl, hao, _⟩ := hv.shape
  refine enter Tryz.func88 rfl Tryz.ntmps88 rfl (fun a hk => ?_); have hS := St.refl w0
  (repeat' (first | (show wpListIn _ _ _ _ _ (_ :: _) _ _; first | (refine wx1 ?_; clear hk a; intro a hk) | (refine wx2 ?_ ?_ <;> (intro hp; clear hk a; intro a hk)) | (refine wx3 ?_; clear hk hS a; intro w b hS a hk) | (refine wx4 ?_; clear hk hS a; intro w hS a hk) | (refine wx5 ?_; clear hk hS a; intro w v hS a hk) | fail) | refine wx0 ?_ | (refine s_end hk ?_; clear hk a; intro a hk) | fail))
  refine sg hk (g_eqN hk ?_ (hT := eT rfl)); clear hk a; intro a hk
  cases ao with
  | none =>
    obtain ⟨h1, _⟩ := hao rfl
    subst h1
    (repeat' (first | (show wpListIn _ _ _ _ _ (_ :: _) _ _; first | (refine wx1 ?_; clear hk a; intro a hk) | (refine wx2 ?_ ?_ <;> (intro hp; clear hk a; intro a hk)) | (refine wx3 ?_; clear hk hS a; intro w b hS a hk) | (refine wx4 ?_; clear hk hS a; intro w hS a hk) | (refine wx5 ?_; clear hk hS a; intro w v hS a hk) | fail) | refine wx0 ?_ | (refine s_end hk ?_; clear hk a; intro a hk) | fail))
    exact done1 hk (h := hS.nilT 98 PrS)
  | some ad =>
    (repeat' (first | (show wpListIn _ _ _ _ _ (_ :: _) _ _; first | (refine wx1 ?_; clear hk a; intro a hk) | (refine wx2 ?_ ?_ <;> (intro hp; clear hk a; intro a hk)) | (refine wx3 ?_; clear hk hS a; intro w b hS a hk) | (refine wx4 ?_; clear hk hS a; intro w hS a hk) | (refine wx5 ?_; clear hk hS a; intro w v hS a hk) | fail) | refine wx0 ?_ | (refine s_end hk ?_; clear hk a; intro a hk) | fail))
    refine sg hk (g_bs0 PrS hS ?_ (hT := eT rfl) (hE := zT rfl)); clear hk hS a; intro w v0 hS a hk
    refine sg hk (g_move hk ?_); clear hk a; intro a hk
    refine sg hk (g_appT (xs := ([] : List PrS)) (ys := l) hk hS ?_ (hT := eT rfl) (hTx := eT rfl) (hE := zT rfl) (hz := oT rfl) (hzs := rfl) (hs := hS.rdT hv) (hby := bT rfl) (hbytes := by simp only [List.length_nil]; omega) (h63 := by simp only [maxLen, List.length_nil]; omega)); clear hk hS a; intro w v1 hS a hk
    rw [List.nil_append] at hS
    (repeat' (first | (show wpListIn _ _ _ _ _ (_ :: _) _ _; first | (refine wx1 ?_; clear hk a; intro a hk) | (refine wx2 ?_ ?_ <;> (intro hp; clear hk a; intro a hk)) | (refine wx3 ?_; clear hk hS a; intro w b hS a hk) | (refine wx4 ?_; clear hk hS a; intro w hS a hk) | (refine wx5 ?_; clear hk hS a; intro w v hS a hk) | fail) | refine wx0 ?_ | (refine s_end hk ?_; clear hk a; intro a hk) | fail))
    exact done1 hk (h := hS)
theorem clone9I_any (l : List PrI) (v : Value) (w0 : World) (hv : SlT l v w0) (hl : l.length ≤ 900) : Calls Tryz.prog 89 #[v] w0 (Ret fun v w => St w0 [OwT 103 l v] w) := by
  obtain ⟨ao, c, rfl, hao, _⟩ := hv.shape
  refine enter Tryz.func89 rfl Tryz.ntmps89 rfl (fun a hk => ?_); have hS := St.refl w0
  (repeat' (first | (show wpListIn _ _ _ _ _ (_ :: _) _ _; first | (refine wx1 ?_; clear hk a; intro a hk) | (refine wx2 ?_ ?_ <;> (intro hp; clear hk a; intro a hk)) | (refine wx3 ?_; clear hk hS a; intro w b hS a hk) | (refine wx4 ?_; clear hk hS a; intro w hS a hk) | (refine wx5 ?_; clear hk hS a; intro w v hS a hk) | fail) | refine wx0 ?_ | (refine s_end hk ?_; clear hk a; intro a hk) | fail))
  refine sg hk (g_eqN hk ?_ (hT := eT rfl)); clear hk a; intro a hk
  cases ao with
  | none =>
    obtain ⟨h1, _⟩ := hao rfl
    subst h1
    (repeat' (first | (show wpListIn _ _ _ _ _ (_ :: _) _ _; first | (refine wx1 ?_; clear hk a; intro a hk) | (refine wx2 ?_ ?_ <;> (intro hp; clear hk a; intro a hk)) | (refine wx3 ?_; clear hk hS a; intro w b hS a hk) | (refine wx4 ?_; clear hk hS a; intro w hS a hk) | (refine wx5 ?_; clear hk hS a; intro w v hS a hk) | fail) | refine wx0 ?_ | (refine s_end hk ?_; clear hk a; intro a hk) | fail))
    exact done1 hk (h := hS.nilT 103 PrI)
  | some ad =>
    (repeat' (first | (show wpListIn _ _ _ _ _ (_ :: _) _ _; first | (refine wx1 ?_; clear hk a; intro a hk) | (refine wx2 ?_ ?_ <;> (intro hp; clear hk a; intro a hk)) | (refine wx3 ?_; clear hk hS a; intro w b hS a hk) | (refine wx4 ?_; clear hk hS a; intro w hS a hk) | (refine wx5 ?_; clear hk hS a; intro w v hS a hk) | fail) | refine wx0 ?_ | (refine s_end hk ?_; clear hk a; intro a hk) | fail))
    refine sg hk (g_bs0 PrI hS ?_ (hT := eT rfl) (hE := zT rfl)); clear hk hS a; intro w v0 hS a hk
    refine sg hk (g_move hk ?_); clear hk a; intro a hk
    refine sg hk (g_appT (xs := ([] : List PrI)) (ys := l) hk hS ?_ (hT := eT rfl) (hTx := eT rfl) (hE := zT rfl) (hz := oT rfl) (hzs := rfl) (hs := hS.rdT hv) (hby := bT rfl) (hbytes := by simp only [List.length_nil]; omega) (h63 := by simp only [maxLen, List.length_nil]; omega)); clear hk hS a; intro w v1 hS a hk
    rw [List.nil_append] at hS
    (repeat' (first | (show wpListIn _ _ _ _ _ (_ :: _) _ _; first | (refine wx1 ?_; clear hk a; intro a hk) | (refine wx2 ?_ ?_ <;> (intro hp; clear hk a; intro a hk)) | (refine wx3 ?_; clear hk hS a; intro w b hS a hk) | (refine wx4 ?_; clear hk hS a; intro w hS a hk) | (refine wx5 ?_; clear hk hS a; intro w v hS a hk) | fail) | refine wx0 ?_ | (refine s_end hk ?_; clear hk a; intro a hk) | fail))
    exact done1 hk (h := hS)

set_option maxHeartbeats 4000000 in
theorem still_any : ∀ (n : Nat) (t : Tree) (h : NdH) (w0 : World), SizeOf.sizeOf t < n → Fits t → TrR w0 t h → Calls Tryz.prog 39 #[ndV h] w0 (Ret fun v w => St w0 [streeH (stl t) v] w)
  | 0, _, _, _, hn, _, _ => by omega
  | n + 1, t, h, w0, hn, hf, hr => by
    have ih := still_any n
    obtain ⟨k, tag, key, text, cl, al, sl, e, lv, m, d, p, q, kids, a1, m1, a2, m2, a3, m3, a4, m4, H, rfl, rfl, c1, c2, c3, c4, hF⟩ := hr.split
    obtain ⟨l1, l2, l3, l4, l5⟩ := hf
    show Calls Tryz.prog 39 #[.agg #[.int .i64 k, .string tag, .string key, .string text, .slice a1 cl.length m1, .slice a2 al.length m2, .slice a3 sl.length m3, .int .i64 e, .int .i64 lv, .int .i64 m, .int .i64 d, .bool p, .bool q, .slice a4 H.length m4]] w0 _
    refine enter Tryz.func39 rfl Tryz.ntmps39 rfl (fun a hk => ?_); have hS := St.refl w0
    by_cases hk1 : k = 1
    · rw [stl, if_pos hk1]
      (repeat' (first | (show wpListIn _ _ _ _ _ (_ :: _) _ _; first | (refine wx1 ?_; clear hk a; intro a hk) | (refine wx2 ?_ ?_ <;> (intro hp; clear hk a; intro a hk)) | (refine wx3 ?_; clear hk hS a; intro w b hS a hk) | (refine wx4 ?_; clear hk hS a; intro w hS a hk) | (refine wx5 ?_; clear hk hS a; intro w v hS a hk) | fail) | refine wx0 ?_ | (refine s_end hk ?_; clear hk a; intro a hk) | fail))
      refine done1R hk rfl (.str hS (hT := aT rfl) (hs := zT rfl)) (h := ?_)
      exact streeH.of (h := (0, 1, ⟨#[]⟩, text, ⟨none, 0, 0⟩, ⟨none, 0, 0⟩, ⟨none, 0, 0⟩, ⟨none, 0, 0⟩)) (sleaf 0 1 ⟨#[]⟩ text hS.nil)
    · rw [stl, if_neg hk1]
      (repeat' (first | (show wpListIn _ _ _ _ _ (_ :: _) _ _; first | (refine wx1 ?_; clear hk a; intro a hk) | (refine wx2 ?_ ?_ <;> (intro hp; clear hk a; intro a hk)) | (refine wx3 ?_; clear hk hS a; intro w b hS a hk) | (refine wx4 ?_; clear hk hS a; intro w hS a hk) | (refine wx5 ?_; clear hk hS a; intro w v hS a hk) | fail) | refine wx0 ?_ | (refine s_end hk ?_; clear hk a; intro a hk) | fail))
      rename_i b1
      rename Nat => b2
      refine wp_drawn 13 mixed (by kernel_rfl) hk hS ?_; clear hk hS a
      (repeat' (first | (show ObxE _ _ _ _ _ _ _ _ _ (_ :: _) _ _ _; first | refine ox1 ?_ | (refine ox2 ?_ ?_ <;> intro hp) | fail) | fail))
      refine' obe_res (fun us a w hk hd hS => ?_) ?_; rotate_left; focus (have hk := Kn.vw hk (by repeat (first | exact VW.nil | apply VW.val rfl | apply VW.base rfl rfl | apply VW.res rfl | apply VW.upd rfl | apply VW.cpy rfl | apply VW.dep rfl | apply VW.fn rfl | apply VW.lnd rfl | apply VW.tak rfl)); exact g_callO hk (hf := by kernel_rfl) (hc := cloneS_any cl _ _ (hS.rdT c1) (by omega)) (h := fun _ _ h => h))
      (repeat' (first | (show ObxE _ _ _ _ _ _ _ _ _ (_ :: _) _ _ _; first | refine ox1 ?_ | (refine ox2 ?_ ?_ <;> intro hp) | fail) | fail))
      refine' obe_res (fun us a w hk hd hS => ?_) ?_; rotate_left; focus (have hk := Kn.vw hk (by repeat (first | exact VW.nil | apply VW.val rfl | apply VW.base rfl rfl | apply VW.res rfl | apply VW.upd rfl | apply VW.cpy rfl | apply VW.dep rfl | apply VW.fn rfl | apply VW.lnd rfl | apply VW.tak rfl)); exact g_callO hk (hf := by kernel_rfl) (hc := clone9S_any al _ _ (hS.rdT c2) (by omega)) (h := fun _ _ h => h))
      (repeat' (first | (show ObxE _ _ _ _ _ _ _ _ _ (_ :: _) _ _ _; first | refine ox1 ?_ | (refine ox2 ?_ ?_ <;> intro hp) | fail) | fail))
      refine' obe_res (fun us a w hk hd hS => ?_) ?_; rotate_left; focus (have hk := Kn.vw hk (by repeat (first | exact VW.nil | apply VW.val rfl | apply VW.base rfl rfl | apply VW.res rfl | apply VW.upd rfl | apply VW.cpy rfl | apply VW.dep rfl | apply VW.fn rfl | apply VW.lnd rfl | apply VW.tak rfl)); exact g_callO hk (hf := by kernel_rfl) (hc := clone9I_any sl _ _ (hS.rdT c3) (by omega)) (h := fun _ _ h => h))
      refine' obe_fn [4, 7, 10] (fun l => .agg #[.int .i64 0, .int .i64 2, .string tag, .string ⟨#[]⟩, l.getD 0 undef, l.getD 1 undef, l.getD 2 undef, .slice none 0 0]) (fun us a w hk hd hS => ?_) ?_ (by intro k e; simp only [List.mem_cons, List.not_mem_nil, or_false] at e; rcases e with rfl | rfl | rfl; exact ⟨16, _, rfl, rfl⟩; exact ⟨19, _, rfl, rfl⟩; exact ⟨22, _, rfl, rfl⟩)
      · have hk := Kn.vw hk (by repeat (first | exact VW.nil | apply VW.val rfl | apply VW.base rfl rfl | apply VW.res rfl | apply VW.upd rfl | apply VW.cpy rfl | apply VW.dep rfl | apply VW.fn rfl | apply VW.lnd rfl | apply VW.tak rfl))
        have h1 : (OwT 9 cl (us 4)).rd w := hd.2.1
        have h2 : (OwT 98 al (us 7)).rd w := hd.2.2.1
        have h3 : (OwT 103 sl (us 10)).rd w := hd.2.2.2.1
        obtain ⟨_, _, e1, _⟩ := (OwT.rd h1).shape
        obtain ⟨_, _, e2, _⟩ := (OwT.rd h2).shape
        obtain ⟨_, _, e3, _⟩ := (OwT.rd h3).shape
        simp only [Nat.zero_add, Nat.reduceAdd] at hk
        simp only [List.map, List.getD_cons_zero, List.getD_cons_succ]
        rw [e1, e2, e3] at hk ⊢
        exact g_build hk ⟨rfl, St.refl w⟩ (fsT rfl) (oT rfl)
      refine' obe_res (fun us a w hk hd hS => ?_) ?_; rotate_left; focus (have hk := Kn.vw hk (by repeat (first | exact VW.nil | apply VW.val rfl | apply VW.base rfl rfl | apply VW.res rfl | apply VW.upd rfl | apply VW.cpy rfl | apply VW.dep rfl | apply VW.fn rfl | apply VW.lnd rfl | apply VW.tak rfl)); exact v_alloc hk (oT rfl))
      refine obe_nil ⟨rfl, ?_⟩; intro us a w hk hS
      simp only [resE, List.cons_append, List.nil_append, Nat.zero_add, Nat.reduceAdd] at hS
      obtain ⟨b3, hb3, hS1⟩ := hS.ptv (by (repeat (first | exact At.here | apply At.there))); replace hS := hS1; clear hS1
      replace hk := Kn.kp [1, 2, 3, 23] hk
      simp only [HV.of, List.map, List.getD_cons_zero, List.getD_cons_succ, Nat.zero_add, Nat.reduceAdd] at hk
      generalize us 4 = v16 at hS hk
      generalize us 7 = v19 at hS hk
      generalize us 10 = v22 at hS hk
      rw [hb3] at hk
      obtain ⟨aov16, cv16, hshp, _⟩ := (OwT.rd (hS.rd (A := OwT 9 _ v16) (by (repeat (first | exact At.here | apply At.there))))).shape; subst hshp
      obtain ⟨aov19, cv19, hshp, _⟩ := (OwT.rd (hS.rd (A := OwT 98 _ v19) (by (repeat (first | exact At.here | apply At.there))))).shape; subst hshp
      obtain ⟨aov22, cv22, hshp, _⟩ := (OwT.rd (hS.rd (A := OwT 103 _ v22) (by (repeat (first | exact At.here | apply At.there))))).shape; subst hshp
      have c4' := hS.rdT c4
      (repeat' (first | (show wpListIn _ _ _ _ _ (_ :: _) _ _; first | (refine wx1 ?_; clear hk a; intro a hk) | (refine wx2 ?_ ?_ <;> (intro hp; clear hk a; intro a hk)) | (refine wx3 ?_; clear hk hS a; intro w b hS a hk) | (refine wx4 ?_; clear hk hS a; intro w hS a hk) | (refine wx5 ?_; clear hk hS a; intro w v hS a hk) | fail) | refine wx0 ?_ | (refine s_end hk ?_; clear hk a; intro a hk) | fail))
      replace hS := sforR.nil (hS.nilT 39 SnH)
      replace hk := Kn.kp [2, 3, 25, 26, 27] hk
      refine wp_for H.length (fun i _ => [(27, .int .i64 (i : Int))]) (fun i v => [sforR (stlL (kids.take i)) (v.2 : List SnH), OwT 39 v.2 (.slice v.1.1 i v.1.2), pts b3 [.int .i64 0, .int .i64 2, .string tag, .string ⟨#[]⟩, .slice aov16 cl.length cv16, .slice aov19 al.length cv19, .slice aov22 sl.length cv22, .slice v.1.1 i v.1.2] 39, OwT 9 cl (.slice aov16 cl.length cv16), OwT 98 al (.slice aov19 al.length cv19), OwT 103 sl (.slice aov22 sl.length cv22), pts b2 [.int .i64 0, .int .i64 0, .string ⟨#[]⟩, .string ⟨#[]⟩, .slice none 0 0, .slice none 0 0, .slice none 0 0, .slice none 0 0] 39]) (fun _ _ => True) (((none, 0), []) : (Option Addr × Nat) × List SnH) hk (by repeat (first | exact trivial | refine ⟨rfl, ?_⟩)) hS.sb trivial ?_
      clear hk hS a
      rintro j ⟨⟨ak, ck⟩, H'⟩ a w hj hk hS -
      have hFH := hS.soR .here
      have hkl : (stlL (kids.take j)).length = j := by rw [stlL_map, List.length_map, List.length_take, ← hF.1]; omega
      have hHl : H'.length = j := by rw [hFH.1, hkl]
      by_cases hjl : j < H.length
      · obtain ⟨tk, htk⟩ : ∃ t, kids[j]? = some t := ⟨_, List.getElem?_eq_getElem (by rw [← hF.1]; exact hjl)⟩
        obtain ⟨hd0, hx⟩ : ∃ x, H[j]? = some x := ⟨_, List.getElem?_eq_getElem hjl⟩
        have hTr := hF.2 j tk hd0 htk hx
        have hfk := l5 tk (List.mem_of_getElem? htk)
        have hlt : SizeOf.sizeOf tk < n := by have := kid_lt (k := k) (tag := tag) (key := key) (text := text) (cl := cl) (at_ := al) (st := sl) (o := (e, lv, m, d, p, q)) (List.mem_of_getElem? htk); omega
        have hst : stlL (kids.take (j + 1)) = stlL (kids.take j) ++ [stl tk] := by rw [stlL_map, stlL_map, take_snoc htk, List.map_append]; rfl
        have c4'' := hS.rdT c4
        simp only at hS hk
        obtain ⟨k', tag', key', text', ⟨x1, x2, x3⟩, ⟨y1, y2, y3⟩, ⟨z1, z2, z3⟩, ⟨e', lv', m', d', p', q'⟩, ⟨u1, u2, u3⟩⟩ := hd0
        (repeat' (first | (show wpListIn _ _ _ _ _ (_ :: _) _ _; first | (refine wx1 ?_; clear hk a; intro a hk) | (refine wx2 ?_ ?_ <;> (intro hp; clear hk a; intro a hk)) | (refine wx3 ?_; clear hk hS a; intro w b hS a hk) | (refine wx4 ?_; clear hk hS a; intro w hS a hk) | (refine wx5 ?_; clear hk hS a; intro w v hS a hk) | fail) | refine wx0 ?_ | (refine s_end hk ?_; clear hk a; intro a hk) | fail))
        refine wp_drawn 5 mixed (by kernel_rfl) hk hS ?_; clear hk hS a
        (repeat' (first | (show ObxE _ _ _ _ _ _ _ _ _ (_ :: _) _ _ _; first | refine ox1 ?_ | (refine ox2 ?_ ?_ <;> intro hp) | fail) | fail))
        refine' obe_res (fun us a w hk hd hS => ?_) ?_; rotate_left; focus (have hk := Kn.vw hk (by repeat (first | exact VW.nil | apply VW.val rfl | apply VW.base rfl rfl | apply VW.res rfl | apply VW.upd rfl | apply VW.cpy rfl | apply VW.dep rfl | apply VW.fn rfl | apply VW.lnd rfl | apply VW.tak rfl)); exact g_callO hk (hf := by kernel_rfl) (hc := ih tk (k', tag', key', text', ⟨x1, x2, x3⟩, ⟨y1, y2, y3⟩, ⟨z1, z2, z3⟩, (e', lv', m', d', p', q'), ⟨u1, u2, u3⟩) _ hlt hfk (hS.rdTr hTr)) (h := fun _ _ h => h))
        refine' obe_dep 34 3 (V := fun u v => OwT 39 [snOf u] v) (fun us a w hk hd hS => ?_) ?_
        · have hk := Kn.vw hk (by repeat (first | exact VW.nil | apply VW.val rfl | apply VW.base rfl rfl | apply VW.res rfl | apply VW.upd rfl | apply VW.cpy rfl | apply VW.dep rfl | apply VW.fn rfl | apply VW.lnd rfl | apply VW.tak rfl))
          have hG : (streeH (stl tk) (us 3)).rd w := hd.1
          obtain ⟨⟨id2, k2, tag2, text2, ⟨x12, x22, x32⟩, ⟨y12, y22, y32⟩, ⟨z12, z22, z32⟩, ⟨u12, u22, u32⟩⟩, he, _⟩ := streeH.rd hG
          show Gives _ _ _ _ (fun v w' => St w [OwT 39 [snOf (us 3)] v] w')
          simp only [Nat.zero_add, Nat.reduceAdd] at hk
          rw [he] at hk ⊢
          rw [snOf_snV]
          exact v_bsT (xs := [((id2, k2, tag2, text2, ⟨x12, x22, x32⟩, ⟨y12, y22, y32⟩, ⟨z12, z22, z32⟩, ⟨u12, u22, u32⟩) : SnH)]) (m := 0) hk (hT := eT rfl) (hE := zT rfl) (hz := oT rfl)
        refine obe_nil ⟨rfl, ?_⟩; intro us a w hk hS
        simp only [resE, List.cons_append, List.nil_append, Nat.zero_add, Nat.reduceAdd] at hS
        replace hk := Kn.kp [2, 3, 25, 26, 27, 32, 34, 35] hk
        simp only [HV.of, Nat.zero_add, Nat.reduceAdd] at hk
        generalize us 3 = v34 at hS hk
        generalize us 4 = v35 at hS hk
        obtain ⟨hd1, rfl, hS1⟩ := St.stree hS (.there .here)
        clear hS
        have hS := hS1
        clear hS1
        rw [snOf_snV] at hS
        have hHk : H.length = kids.length := hF.1
        (repeat' (first | (show wpListIn _ _ _ _ _ (_ :: _) _ _; first | (refine wx1 ?_; clear hk a; intro a hk) | (refine wx2 ?_ ?_ <;> (intro hp; clear hk a; intro a hk)) | (refine wx3 ?_; clear hk hS a; intro w b hS a hk) | (refine wx4 ?_; clear hk hS a; intro w hS a hk) | (refine wx5 ?_; clear hk hS a; intro w v hS a hk) | fail) | refine wx0 ?_ | (refine s_end hk ?_; clear hk a; intro a hk) | fail))
        have hl1 : (H' ++ [hd1]).length = j + 1 := by rw [List.length_append, hHl]; rfl
        rename Value => vn
        obtain ⟨aovn, cvn, hshp, _⟩ := (OwT.rd (hS.rd (A := OwT 39 _ vn) (by (repeat (first | exact At.here | apply At.there))))).shape; subst hshp
        rw [hl1] at hS hk
        (repeat' (first | (show wpListIn _ _ _ _ _ (_ :: _) _ _; first | (refine wx1 ?_; clear hk a; intro a hk) | (refine wx2 ?_ ?_ <;> (intro hp; clear hk a; intro a hk)) | (refine wx3 ?_; clear hk hS a; intro w b hS a hk) | (refine wx4 ?_; clear hk hS a; intro w hS a hk) | (refine wx5 ?_; clear hk hS a; intro w v hS a hk) | fail) | refine wx0 ?_ | (refine s_end hk ?_; clear hk a; intro a hk) | fail))
        have hS1 := sforR.snoc (L := [OwT 39 (H' ++ [hd1]) (.slice aovn (j + 1) cvn), pts b3 [.int .i64 0, .int .i64 2, .string tag, .string ⟨#[]⟩, .slice aov16 cl.length cv16, .slice aov19 al.length cv19, .slice aov22 sl.length cv22, .slice aovn (j + 1) cvn] 39, OwT 9 cl (.slice aov16 cl.length cv16), OwT 98 al (.slice aov19 al.length cv19), OwT 103 sl (.slice aov22 sl.length cv22), pts b2 [.int .i64 0, .int .i64 0, .string ⟨#[]⟩, .string ⟨#[]⟩, .slice none 0 0, .slice none 0 0, .slice none 0 0, .slice none 0 0] 39]) (ts := stlL (kids.take j)) (H := H') (t := stl tk) (h := hd1) (hS.sub (by (repeat (first | exact Sub.nil | exact Sub.refl | refine Sub.cons (by (repeat (first | exact At.here | apply At.there))) ?_))))
        rw [← hst] at hS1
        exact ⟨hjl, ((aovn, cvn), H' ++ [hd1]), hk.sd, hS1, trivial⟩
      · have hjj : j = kids.length := by have := hF.1; omega
        subst hjj
        rw [List.take_length] at hS
        simp only at hS hk
        (repeat' (first | (show wpListIn _ _ _ _ _ (_ :: _) _ _; first | (refine wx1 ?_; clear hk a; intro a hk) | (refine wx2 ?_ ?_ <;> (intro hp; clear hk a; intro a hk)) | (refine wx3 ?_; clear hk hS a; intro w b hS a hk) | (refine wx4 ?_; clear hk hS a; intro w hS a hk) | (refine wx5 ?_; clear hk hS a; intro w v hS a hk) | fail) | refine wx0 ?_ | (refine s_end hk ?_; clear hk a; intro a hk) | fail))
        refine done1R hk rfl (.str hS (hT := aT rfl) (hs := zT rfl)) (h := ?_)
        exact streeH.of (h := (0, 2, tag, ⟨#[]⟩, ⟨aov16, cl.length, cv16⟩, ⟨aov19, al.length, cv19⟩, ⟨aov22, sl.length, cv22⟩, ⟨ak, kids.length, ck⟩)) (streeR.of (A1 := OwT 9 cl (.slice aov16 cl.length cv16)) (A2 := OwT 98 al (.slice aov19 al.length cv19)) (A3 := OwT 103 sl (.slice aov22 sl.length cv22)) (A4 := OwT 39 H' (.slice ak kids.length ck)) (hS.sub (by (repeat (first | exact Sub.nil | exact Sub.refl | refine Sub.cons (by (repeat (first | exact At.here | apply At.there))) ?_)))))
end Go.Proofs.YtkcjkbnbblpomaaGreatDoor
namespace Go.Proofs.YtkcjkbnbblpomaaGreatDoor
open Go.RowKit

def Tree.kind : Tree → Int
  | .mk k _ _ _ _ _ _ _ _ => k
def Tree.text : Tree → ByteArray
  | .mk _ _ _ x _ _ _ _ _ => x
def Tree.plus : Tree → ByteArray → Tree
  | .mk k tag key text cl al sl o ks, x => .mk k tag key (text ++ x) cl al sl o ks
def Tree.void (t : Tree) : Prop := t.kind = 1 ∧ t.text = ⟨#[]⟩
instance (t : Tree) : Decidable t.void := by unfold Tree.void; exact inferInstance

def mrgS (out : List Tree) (t : Tree) : List Tree :=
  match out.getLast? with
  | some u => if t.kind = 1 ∧ u.kind = 1 then out.dropLast ++ [u.plus t.text] else out ++ [t]
  | none => out ++ [t]
def mrg (l : List Tree) : List Tree := l.foldl mrgS []
theorem mrg_snoc (l : List Tree) (t : Tree) : mrg (l ++ [t]) = mrgS (mrg l) t := by simp [mrg]

noncomputable section
mutual
def nrm : Tree → Tree
  | .mk k tag key text cl al sl o kids => .mk k tag key text (clnC cl) (snapF nmS al) (snapF nmI sl) o (mrg (nrmL kids))
def nrmL : List Tree → List Tree
  | [] => []
  | t :: ts => if t.void then nrmL ts else nrm t :: nrmL ts
end
end
theorem nrmL_app : ∀ (ts us : List Tree), nrmL (ts ++ us) = nrmL ts ++ nrmL us
  | [], us => by simp [nrmL]
  | t :: ts, us => by
    rw [List.cons_append, nrmL, nrmL, nrmL_app ts us]
    split
    · rfl
    · rfl
theorem nrmL_snoc (ts : List Tree) (t : Tree) : nrmL (ts ++ [t]) = if t.void then nrmL ts else nrmL ts ++ [nrm t] := by
  rw [nrmL_app]
  by_cases h : t.void
  · simp [nrmL, h]
  · simp [nrmL, h]
theorem nrm_kind (t : Tree) : (nrm t).kind = t.kind := by cases t; simp [nrm, Tree.kind]
theorem nrm_text (t : Tree) : (nrm t).text = t.text := by cases t; simp [nrm, Tree.text]
theorem plus_kind (t : Tree) (x : ByteArray) : (t.plus x).kind = t.kind := by cases t; rfl
theorem plus_text (t : Tree) (x : ByteArray) : (t.plus x).text = t.text ++ x := by cases t; rfl
theorem nrmL_len (ts : List Tree) : (nrmL ts).length ≤ ts.length := by
  induction ts with
  | nil => simp [nrmL]
  | cons t ts ih =>
    rw [nrmL]
    split
    · simp; omega
    · simp; omega
def txtL (l : List Tree) : Nat := l.foldl (fun n t => n + t.text.size) 0
theorem txtL_snoc (l : List Tree) (t : Tree) : txtL (l ++ [t]) = txtL l + t.text.size := by simp [txtL]
theorem txtL_mem : ∀ {l : List Tree} {t : Tree}, t ∈ l → t.text.size ≤ txtL l := by
  intro l t h
  have : ∀ r : List Tree, t ∈ r.reverse → t.text.size ≤ txtL r.reverse := by
    intro r
    induction r with
    | nil => intro h; simp at h
    | cons u r ih =>
      intro h
      rw [List.reverse_cons] at h ⊢
      rw [txtL_snoc]
      rcases List.mem_append.1 h with h | h
      · have := ih h; omega
      · rw [List.mem_singleton] at h; subst h; omega
  have h2 := this l.reverse (by simpa using h)
  simpa using h2
theorem mrgS_txt (out : List Tree) (t : Tree) : txtL (mrgS out t) = txtL out + t.text.size := by
  unfold mrgS
  split
  · rename_i u hu
    split
    · rw [txtL_snoc, plus_text, ByteArray.size_append]
      have e : out = out.dropLast ++ [u] := by
        have := List.dropLast_concat_getLast (l := out) (by intro e; subst e; simp at hu)
        rw [List.getLast?_eq_some_getLast (by intro e; subst e; simp at hu)] at hu
        rw [Option.some.inj hu] at this
        exact this.symm
      have e2 : txtL out = txtL out.dropLast + u.text.size := by
        conv => lhs; rw [e]
        rw [txtL_snoc]
      omega
    · rw [txtL_snoc]
  · rw [txtL_snoc]
theorem mrg_txt (l : List Tree) : txtL (mrg l) = txtL l := by
  have : ∀ r : List Tree, txtL (mrg r.reverse) = txtL r.reverse := by
    intro r
    induction r with
    | nil => rfl
    | cons u r ih => rw [List.reverse_cons, mrg_snoc, mrgS_txt, ih, txtL_snoc]
  have := this l.reverse
  simpa using this
theorem mrgS_len (out : List Tree) (t : Tree) : (mrgS out t).length ≤ out.length + 1 := by
  unfold mrgS
  split
  · split
    · simp
    · simp
  · simp
theorem mrgS_app {M : List Tree} {u t : Tree} : mrgS (M ++ [u]) t = if t.kind = 1 ∧ u.kind = 1 then M ++ [u.plus t.text] else M ++ [u] ++ [t] := by
  simp [mrgS]
theorem mrg_len (l : List Tree) : (mrg l).length ≤ l.length := by
  have : ∀ r : List Tree, (mrg r.reverse).length ≤ r.length := by
    intro r
    induction r with
    | nil => simp [mrg]
    | cons u r ih =>
      rw [List.reverse_cons, mrg_snoc, List.length_cons]
      have := mrgS_len (mrg r.reverse) u
      omega
  have := this l.reverse
  simpa using this

inductive Fit (X : Nat) : Tree → Prop
  | mk {k : Int} {tag key text : ByteArray} {cl : List ByteArray} {at_ : List (ByteArray × ByteArray)} {st : List (ByteArray × Int)} {o : Opt} {kids : List Tree}
    (h1 : cl.length ≤ 100) (h2 : at_.length ≤ 100) (h3 : st.length ≤ 100) (h4 : kids.length ≤ 1000) (h5 : text.size ≤ X) (h6 : ∀ t ∈ kids, Fit X t) : Fit X (.mk k tag key text cl at_ st o kids)
theorem Fit.fits {X : Nat} {t : Tree} (h : Fit X t) : Fits t := by
  induction h with
  | mk h1 h2 h3 h4 _ _ ih => exact .mk h1 h2 h3 h4 ih
theorem Fit.mono {X Y : Nat} {t : Tree} (h : Fit X t) (hXY : X ≤ Y) : Fit Y t := by
  induction h with
  | mk h1 h2 h3 h4 h5 _ ih => exact .mk h1 h2 h3 h4 (by omega) ih
theorem Fit.text {X : Nat} {t : Tree} (h : Fit X t) : t.text.size ≤ X := by cases h with | mk h1 h2 h3 h4 h5 _ => exact h5
theorem Fit.plus {X : Nat} {t : Tree} {x : ByteArray} (h : Fit X t) (hx : (t.plus x).text.size ≤ X) : Fit X (t.plus x) := by
  cases h with
  | mk h1 h2 h3 h4 h5 h6 => exact .mk h1 h2 h3 h4 hx h6
theorem last_split {α : Type} {l : List α} {u : α} (h : l.getLast? = some u) : l = l.dropLast ++ [u] := by
  have hne : l ≠ [] := by intro e; subst e; simp at h
  have := List.dropLast_concat_getLast hne
  rw [List.getLast?_eq_some_getLast hne] at h
  rw [Option.some.inj h] at this
  exact this.symm
theorem mrg_fit {X : Nat} (l : List Tree) (hl : ∀ t ∈ l, Fit X t) (hx : txtL l ≤ X) : ∀ u ∈ mrg l, Fit X u := by
  have : ∀ r : List Tree, (∀ t ∈ r, Fit X t) → txtL r.reverse ≤ X → ∀ u ∈ mrg r.reverse, Fit X u := by
    intro r
    induction r with
    | nil => intro _ _ u hu; simp [mrg] at hu
    | cons t r ih =>
      intro hr hx u hu
      have hs := mrgS_txt (mrg r.reverse) t
      have hT := mrg_txt r.reverse
      rw [List.reverse_cons, txtL_snoc] at hx
      have ih := ih (fun t ht => hr t (by simp [ht])) (by omega)
      have ht := hr t (by simp)
      rw [List.reverse_cons, mrg_snoc] at hu
      have hm := txtL_mem hu
      unfold mrgS at hu hs hm
      split at hu
      · rename_i u0 hu0
        have hu1 : u0 ∈ mrg r.reverse := by rw [last_split hu0]; simp
        split at hu
        · rename_i hc
          rcases List.mem_append.1 hu with h | h
          · exact ih u (by rw [last_split hu0]; simp [h])
          · rw [List.mem_singleton] at h
            subst h
            simp only [hu0, if_pos hc] at hm hs
            exact (ih u0 hu1).plus (by omega)
        · rcases List.mem_append.1 hu with h | h
          · exact ih u h
          · rw [List.mem_singleton] at h; subst h; exact ht
      · rcases List.mem_append.1 hu with h | h
        · exact ih u h
        · rw [List.mem_singleton] at h; subst h; exact ht
  have h := this l.reverse (by simpa using hl) (by simpa using hx)
  simpa using h
theorem nrmL_txt {X : Nat} : ∀ (ts : List Tree), (∀ t ∈ ts, Fit X t) → txtL (nrmL ts) ≤ X * ts.length
  | [], _ => by simp [nrmL, txtL]
  | t :: ts, h => by
    have ih := nrmL_txt ts (fun t ht => h t (by simp [ht]))
    have h1 := (h t (by simp)).text
    have e : ∀ (u : Tree) (l : List Tree), txtL (u :: l) = u.text.size + txtL l := by
      intro u l
      have : ∀ (l : List Tree) (n : Nat), l.foldl (fun n t => n + t.text.size) n = n + txtL l := by
        intro l
        induction l with
        | nil => intro n; simp [txtL]
        | cons x l ih =>
          intro n
          simp only [txtL, List.foldl_cons]
          rw [ih, ih (0 + x.text.size)]
          omega
      simp only [txtL, List.foldl_cons]
      rw [this l (0 + u.text.size)]
      simp only [txtL]
      omega
    rw [nrmL, List.length_cons, Nat.mul_add, Nat.mul_one]
    split
    · omega
    · rw [e, nrm_text]; omega
theorem nrmL_mem : ∀ {ts : List Tree} {u : Tree}, u ∈ nrmL ts → ∃ t ∈ ts, u = nrm t
  | t :: ts, u, h => by
    rw [nrmL] at h
    split at h
    · obtain ⟨x, hx, e⟩ := nrmL_mem h
      exact ⟨x, by simp [hx], e⟩
    · rcases List.mem_cons.1 h with h | h
      · exact ⟨t, by simp, h⟩
      · obtain ⟨x, hx, e⟩ := nrmL_mem h
        exact ⟨x, by simp [hx], e⟩
theorem clnC_le (l : List ByteArray) : (clnC l).length ≤ l.length := by have := clnC_len l l.length; rwa [List.take_length] at this
theorem Fit.nrm {X : Nat} {t : Tree} (h : Fit X t) : Fit (1001 * X) (nrm t) := by
  induction h with
  | @mk k tag key text cl al sl o kids h1 h2 h3 h4 h5 h6 ih =>
    have hc := clnC_le cl
    have hn1 := snap_len nmS al
    have hn2 := snap_len nmI sl
    have hl1 := mrg_len (nrmL kids)
    have hl2 := nrmL_len kids
    have ht := nrmL_txt kids h6
    have hm : X * kids.length ≤ X * 1000 := Nat.mul_le_mul_left X h4
    rw [Proofs.YtkcjkbnbblpomaaGreatDoor.nrm]
    refine .mk (by omega) (by omega) (by omega) (by omega) (by omega) (mrg_fit _ (fun u hu => ?_) (by omega))
    obtain ⟨t, ht, rfl⟩ := nrmL_mem hu
    exact ih t ht
theorem Small.fit {t : Tree} (h : Small t) (hc : cnt t ≤ 1000) : Fit 70 t := by
  induction h with
  | mk h hk ih =>
    obtain ⟨_, _, _, h4, h5, _, h6, _, h7, _⟩ := h
    rw [cnt] at hc
    refine .mk (by omega) (by omega) (by omega) ?_ h4 (fun t ht => ih t ht ?_)
    · have := cntL_len ‹List Tree›; omega
    · have := cntL_mem ht; omega
end Go.Proofs.YtkcjkbnbblpomaaGreatDoor
namespace Go.Proofs.YtkcjkbnbblpomaaGreatDoor
open Go.RowKit
set_option maxRecDepth 100000
attribute [local irreducible] Go.Code.wpIn Go.wpListIn Go.Calls Gives Go.Exit.then Go.Exit.inBlock Done ObxE

structure N2 where
  H : List NdH
  a : Option Addr
  c : Nat

end Go.Proofs.YtkcjkbnbblpomaaGreatDoor
