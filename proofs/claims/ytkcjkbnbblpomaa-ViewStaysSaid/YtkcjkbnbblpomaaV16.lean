import Derived.Test.YtkcjkbnbblpomaaV15
namespace Go.Proofs.Ytkcjkbnbblpomaa
open Go.RowKit
set_option maxRecDepth 100000
attribute [local irreducible] Go.Code.wpIn Go.wpListIn Go.Calls Gives Go.Exit.then Go.Exit.inBlock Done ObxE

def in64 (x : Int) : Prop := -9223372036854775808 ≤ x ∧ x ≤ 9223372036854775807
def FlR (w : World) (h : FlH) : Prop := ∃ (dp k : Int) (tag key text : ByteArray) (cl : List ByteArray) (al : List (ByteArray × ByteArray)) (sl : List (ByteArray × Int)) (e lv m d : Int) (p q : Bool) (a1 a2 a3 : Option Addr) (m1 m2 m3 : Nat),
  h = (dp, k, tag, key, text, ⟨a1, cl.length, m1⟩, ⟨a2, al.length, m2⟩, ⟨a3, sl.length, m3⟩, (e, lv, m, d, p, q)) ∧ SlT cl (.slice a1 cl.length m1) w ∧ SlT al (.slice a2 al.length m2) w ∧ SlT sl (.slice a3 sl.length m3) w ∧
  in64 dp ∧ in64 k ∧ in64 e ∧ in64 lv ∧ in64 m ∧ in64 d ∧ ∀ x ∈ sl, in64 x.2

def okN (k : Int) (tag key text : ByteArray) (cl : List ByteArray) (al : List (ByteArray × ByteArray)) (sl : List (ByteArray × Int)) (o : Opt) : Prop :=
  in64 k ∧ tag.size ≤ 20 ∧ key.size ≤ 20 ∧ text.size ≤ 70 ∧ cl.length ≤ 4 ∧ (∀ c ∈ cl, c.size ≤ 20) ∧ al.length ≤ 4 ∧ (∀ x ∈ al, x.1.size ≤ 20 ∧ x.2.size ≤ 40) ∧ sl.length ≤ 4 ∧ (∀ x ∈ sl, x.1.size ≤ 20 ∧ in64 x.2) ∧
  in64 o.1 ∧ in64 o.2.1 ∧ in64 o.2.2.1 ∧ in64 o.2.2.2.1
inductive Small : Tree → Prop where
  | mk {k : Int} {tag key text : ByteArray} {cl : List ByteArray} {al : List (ByteArray × ByteArray)} {sl : List (ByteArray × Int)} {o : Opt} {kids : List Tree} (h : okN k tag key text cl al sl o) (hk : ∀ t ∈ kids, Small t) : Small (.mk k tag key text cl al sl o kids)
mutual
def cnt : Tree → Nat
  | .mk _ _ _ _ _ _ _ _ kids => cntL kids + 1
def cntL : List Tree → Nat
  | [] => 0
  | t :: ts => cnt t + cntL ts
end
theorem cntL_app : ∀ (ts us : List Tree), cntL (ts ++ us) = cntL ts + cntL us
  | [], us => by simp [cntL]
  | t :: ts, us => by simp only [List.cons_append, cntL, cntL_app ts us]; omega
theorem cnt_pos (t : Tree) : 1 ≤ cnt t := by cases t; simp only [cnt]; omega
theorem cntL_len : ∀ ts : List Tree, ts.length ≤ cntL ts
  | [] => by simp
  | t :: ts => by have := cntL_len ts; have := cnt_pos t; simp only [List.length_cons, cntL]; omega
theorem cntL_mem : ∀ {ts : List Tree} {t : Tree}, t ∈ ts → cnt t ≤ cntL ts
  | t :: ts, u, h => by
    rcases List.mem_cons.1 h with rfl | h
    · simp only [cntL]; omega
    · have := cntL_mem h; simp only [cntL]; omega

theorem okN_node {k : Int} {tag key text : ByteArray} {cl : List ByteArray} {al : List (ByteArray × ByteArray)} {sl : List (ByteArray × Int)} {e lv m d : Int} {p q : Bool} (hk : in64 k) (he : in64 e) (hl : in64 lv) (hm : in64 m) (hd : in64 d) (hs : ∀ x ∈ sl, in64 x.2) :
    okN k (cutF tag 20) (cutF key 20) (cutF text 70) (few03 cl 4) (fewA al 4) (few04 sl 4) (e, lv, m, d, p, q) := by
  refine ⟨hk, cutF_len _ _, cutF_len _ _, cutF_len _ _, by rw [few03_len]; omega, fun c hc => ?_, by rw [fewA_len]; omega, fun x hx => ?_, by rw [few04_len]; omega, fun x hx => ?_, he, hl, hm, hd⟩
  · obtain ⟨y, _, rfl⟩ := List.mem_map.1 hc; exact cutF_len _ _
  · obtain ⟨y, _, rfl⟩ := List.mem_map.1 hx; exact ⟨cutF_len _ _, cutF_len _ _⟩
  · obtain ⟨y, hy, rfl⟩ := List.mem_map.1 hx; exact ⟨cutF_len _ _, hs y (List.mem_of_mem_take hy)⟩

theorem FlR.frz {w w' : World} {h : FlH} (hr : FlR w h) (hf : Frz w w') : FlR w' h := by
  obtain ⟨dp, k, tag, key, text, cl, al, sl, e, lv, m, d, p, q, a1, a2, a3, m1, m2, m3, e0, c1, c2, c3, hr⟩ := hr
  exact ⟨dp, k, tag, key, text, cl, al, sl, e, lv, m, d, p, q, a1, a2, a3, m1, m2, m3, e0, c1.frz hf, c2.frz hf, c3.frz hf, hr⟩
structure KS where
  at_ : Nat
  ts : List Tree
  H : List NdH
  a : Option Addr
  c : Nat

set_option maxHeartbeats 4000000 in
theorem kids07_any (F : List FlH) (v : Value) (hFl : F.length ≤ 1000) : ∀ (n at_ : Nat) (deep : Int) (w0 : World), F.length - at_ < n → at_ ≤ F.length → SlT F v w0 → (∀ h ∈ F, FlR w0 h) →
    Calls Try.prog 26 #[v, .int .i64 (at_ : Int), .int .i64 deep] w0 (Ret fun u w => ∃ (ts : List Tree) (H : List NdH) (at' : Nat) (ak : Option Addr) (ck : Nat), u = .tuple #[.slice ak H.length ck, .int .i64 (at' : Int)] ∧ at_ ≤ at' ∧ at' ≤ F.length ∧ at_ + cntL ts ≤ at' ∧ (∀ t ∈ ts, Small t) ∧
      St w0 [forR ts H, OwT 31 H (.slice ak H.length ck)] w)
  | 0, _, _, _, hn, _, _, _ => by omega
  | n + 1, at_, deep, w0, hn, hat, hv, hR => by
    have ih := kids07_any F v hFl n
    refine enter Try.func26 rfl Try.ntmps26 rfl (fun a hk => ?_); have hS := St.refl w0
    (repeat' (first | (show wpListIn _ _ _ _ _ (_ :: _) _ _; first | (refine wx1 ?_; clear hk a; intro a hk) | (refine wx2 ?_ ?_ <;> (intro hp; clear hk a; intro a hk)) | (refine wx3 ?_; clear hk hS a; intro w b hS a hk) | (refine wx4 ?_; clear hk hS a; intro w hS a hk) | (refine wx5 ?_; clear hk hS a; intro w v hS a hk) | fail) | refine wx0 ?_ | (refine s_end hk ?_; clear hk a; intro a hk) | fail))
    replace hS := forR.nil (hS.nilT 31 NdH)
    replace hk := Kn.kp [0, 1, 2, 8] hk
    refine wp_while (fun x : KS => [(1, .int .i64 (x.at_ : Int)), (8, .slice x.a x.H.length x.c)]) (fun x => [forR x.ts x.H, OwT 31 x.H (.slice x.a x.H.length x.c)])
      (fun x => at_ ≤ x.at_ ∧ x.at_ ≤ F.length ∧ at_ + cntL x.ts ≤ x.at_ ∧ ∀ t ∈ x.ts, Small t) (fun x => F.length - x.at_) ⟨at_, [], [], none, 0⟩ hk (by repeat (first | exact trivial | refine ⟨rfl, ?_⟩)) hS.sb ⟨Nat.le_refl _, hat, by simp [cntL], fun t h => by cases h⟩ ?_
    clear hk hS a
    rintro ⟨at1, ts, H, ak, ck⟩ a w hk hS ⟨g1, g2, g3, g4⟩
    simp only at hk hS g1 g2 g3 g4
    have hv1 := hS.rdT hv
    have hFH := hS.foR .here
    have hHl : H.length = ts.length := hFH.1
    have htl := cntL_len ts
    by_cases hlt : at1 < F.length
    · obtain ⟨x, hx⟩ : ∃ x, F[at1]? = some x := ⟨_, List.getElem?_eq_getElem hlt⟩
      obtain ⟨dp, k, tag, key, text, cl, al, sl, e, lv, m, d, p, q, a1, a2, a3, m1, m2, m3, rfl, c1, c2, c3, b1, b2, b3, b4, b5, b6, b7⟩ := hR x (List.mem_of_getElem? hx)
      by_cases hdp : deep < dp
      · (repeat' (first | (show wpListIn _ _ _ _ _ (_ :: _) _ _; first | (refine wx1 ?_; clear hk a; intro a hk) | (refine wx2 ?_ ?_ <;> (intro hp; clear hk a; intro a hk)) | (refine wx3 ?_; clear hk hS a; intro w b hS a hk) | (refine wx4 ?_; clear hk hS a; intro w hS a hk) | (refine wx5 ?_; clear hk hS a; intro w v hS a hk) | fail) | refine wx0 ?_ | (refine s_end hk ?_; clear hk a; intro a hk) | fail))
        refine sg hk (g_callO hk (hf := by kernel_rfl) (hc := node07_any dp k tag key text cl al sl e lv m d p q a1 a2 a3 m1 m2 m3 _ (hS.rdT c1) (hS.rdT c2) (hS.rdT c3)) (h := ?_)); clear hk a; rintro vn w hS1 a hk; replace hS := hS.call hS1; clear hS1
        rw [List.cons_append, List.nil_append] at hS
        obtain ⟨hd1, rfl, hS1⟩ := St.tree hS .here
        clear hS
        have hS := hS1
        clear hS1
        obtain ⟨k0, tag0, key0, text0, cl0, al0, sl0, e0, lv0, m0, d0, p0, q0, kids0, A1, M1, A2, M2, A3, M3, A4, M4, H0, he, rfl, _⟩ := (hS.trR .here).split
        have hok := okN_node (tag := tag) (key := key) (text := text) (cl := cl) (al := al) (p := p) (q := q) b2 b3 b4 b5 b6 b7
        unfold nodeF at he hS
        injection he with q1 q2 q3 q4 q5 q6 q7 q8 q9
        rw [q1, q2, q3, q4, q5, q6, q7, q8, q9] at hS
        rw [q1, q2, q3, q4, q5, q6, q7, q8] at hok
        clear q1 q2 q3 q4 q5 q6 q7 q8 q9
        (repeat' (first | (show wpListIn _ _ _ _ _ (_ :: _) _ _; first | (refine wx1 ?_; clear hk a; intro a hk) | (refine wx2 ?_ ?_ <;> (intro hp; clear hk a; intro a hk)) | (refine wx3 ?_; clear hk hS a; intro w b hS a hk) | (refine wx4 ?_; clear hk hS a; intro w hS a hk) | (refine wx5 ?_; clear hk hS a; intro w v hS a hk) | fail) | refine wx0 ?_ | (refine s_end hk ?_; clear hk a; intro a hk) | fail))
        refine sg hk (g_callO hk (hf := by kernel_rfl) (hc := ih (at1 + 1) dp _ (by omega) (by omega) (hS.rdT hv) (fun h hh => (hR h hh).frz hS.frz)) (h := ?_)); clear hk a; rintro vr w ⟨ts2, H2, at2, ak2, ck2, rfl, r1, r2, r3, r4, hS1⟩ a hk; replace hS := hS.call hS1; clear hS1
        rw [List.cons_append, List.cons_append, List.nil_append] at hS
        (repeat' (first | (show wpListIn _ _ _ _ _ (_ :: _) _ _; first | (refine wx1 ?_; clear hk a; intro a hk) | (refine wx2 ?_ ?_ <;> (intro hp; clear hk a; intro a hk)) | (refine wx3 ?_; clear hk hS a; intro w b hS a hk) | (refine wx4 ?_; clear hk hS a; intro w hS a hk) | (refine wx5 ?_; clear hk hS a; intro w v hS a hk) | fail) | refine wx0 ?_ | (refine s_end hk ?_; clear hk a; intro a hk) | fail))
        refine sg hk (g_bsT (xs := [((k0, tag0, key0, text0, ⟨A1, cl0.length, M1⟩, ⟨A2, al0.length, M2⟩, ⟨A3, sl0.length, M3⟩, (e0, lv0, m0, d0, p0, q0), ⟨ak2, H2.length, ck2⟩) : NdH)]) (m := 0) hk hS ?_ (hT := eT rfl) (hE := zT rfl) (hz := oT rfl)); clear hk hS a; intro w ve hS a hk
        (repeat' (first | (show wpListIn _ _ _ _ _ (_ :: _) _ _; first | (refine wx1 ?_; clear hk a; intro a hk) | (refine wx2 ?_ ?_ <;> (intro hp; clear hk a; intro a hk)) | (refine wx3 ?_; clear hk hS a; intro w b hS a hk) | (refine wx4 ?_; clear hk hS a; intro w hS a hk) | (refine wx5 ?_; clear hk hS a; intro w v hS a hk) | fail) | refine wx0 ?_ | (refine s_end hk ?_; clear hk a; intro a hk) | fail))
        rename Value => vn
        obtain ⟨aovn, cvn, hshp, _⟩ := (OwT.rd (hS.rd (A := OwT 31 _ vn) (by (repeat (first | exact At.here | apply At.there))))).shape; subst hshp
        have hS1 := treeR.kids (k := k0) (tag := tag0) (key := key0) (text := text0) (cl := cl0) (at_ := al0) (st := sl0) (o := (e0, lv0, m0, d0, p0, q0)) (hc := ⟨A1, cl0.length, M1⟩) (ha := ⟨A2, al0.length, M2⟩) (hs := ⟨A3, sl0.length, M3⟩) (hk0 := ⟨A4, H0.length, M4⟩) (kids := ts2) (kids0 := kids0) (E := 31) (hk := ⟨ak2, H2.length, ck2⟩) (H := H2)
          (L := [forR ts H, OwT 31 (H ++ [((k0, tag0, key0, text0, ⟨A1, cl0.length, M1⟩, ⟨A2, al0.length, M2⟩, ⟨A3, sl0.length, M3⟩, (e0, lv0, m0, d0, p0, q0), ⟨ak2, H2.length, ck2⟩) : NdH)]) (.slice aovn (H ++ [((k0, tag0, key0, text0, ⟨A1, cl0.length, M1⟩, ⟨A2, al0.length, M2⟩, ⟨A3, sl0.length, M3⟩, (e0, lv0, m0, d0, p0, q0), ⟨ak2, H2.length, ck2⟩) : NdH)]).length cvn)]) (hS.sub (by (repeat (first | exact Sub.nil | exact Sub.refl | refine Sub.cons (by (repeat (first | exact At.here | apply At.there))) ?_))))
        have hS2 := forR.snoc hS1
        refine ⟨⟨at2, ts ++ [.mk k0 tag0 key0 text0 cl0 al0 sl0 (e0, lv0, m0, d0, p0, q0) ts2], H ++ [((k0, tag0, key0, text0, ⟨A1, cl0.length, M1⟩, ⟨A2, al0.length, M2⟩, ⟨A3, sl0.length, M3⟩, (e0, lv0, m0, d0, p0, q0), ⟨ak2, H2.length, ck2⟩) : NdH)], aovn, cvn⟩, by show F.length - at2 < F.length - at1; omega, hk.sd, hS2, by show at_ ≤ at2; omega, r2, ?_, fun t ht => ?_⟩
        · show at_ + cntL (ts ++ [_]) ≤ at2
          rw [cntL_app]
          simp only [cntL, cnt]
          omega
        · rcases List.mem_append.1 ht with h | h
          · exact g4 t h
          · rw [List.mem_singleton] at h
            subst h
            exact .mk hok r4
      · (repeat' (first | (show wpListIn _ _ _ _ _ (_ :: _) _ _; first | (refine wx1 ?_; clear hk a; intro a hk) | (refine wx2 ?_ ?_ <;> (intro hp; clear hk a; intro a hk)) | (refine wx3 ?_; clear hk hS a; intro w b hS a hk) | (refine wx4 ?_; clear hk hS a; intro w hS a hk) | (refine wx5 ?_; clear hk hS a; intro w v hS a hk) | fail) | refine wx0 ?_ | (refine s_end hk ?_; clear hk a; intro a hk) | fail))
        exact done2 hk (h := ⟨ts, H, at1, ak, ck, rfl, g1, g2, g3, g4, hS⟩)
    · (repeat' (first | (show wpListIn _ _ _ _ _ (_ :: _) _ _; first | (refine wx1 ?_; clear hk a; intro a hk) | (refine wx2 ?_ ?_ <;> (intro hp; clear hk a; intro a hk)) | (refine wx3 ?_; clear hk hS a; intro w b hS a hk) | (refine wx4 ?_; clear hk hS a; intro w hS a hk) | (refine wx5 ?_; clear hk hS a; intro w v hS a hk) | fail) | refine wx0 ?_ | (refine s_end hk ?_; clear hk a; intro a hk) | fail))
      exact done2 hk (h := ⟨ts, H, at1, ak, ck, rfl, g1, g2, g3, g4, hS⟩)
end Go.Proofs.Ytkcjkbnbblpomaa
namespace Go.Proofs.Ytkcjkbnbblpomaa
open Go.RowKit

def Tree.kind : Tree → Int
  | .mk k _ _ _ _ _ _ _ _ => k
def Tree.text : Tree → ByteArray
  | .mk _ _ _ x _ _ _ _ _ => x
def Tree.plus : Tree → ByteArray → Tree
  | .mk k tag key text cl al sl o ks, x => .mk k tag key (text ++ x) cl al sl o ks
def Tree.void (t : Tree) : Prop := t.kind = 1 ∧ t.text = ⟨#[]⟩
instance (t : Tree) : Decidable t.void := by unfold Tree.void; exact inferInstance

def mrgS (out : List Tree) (t : Tree) : List Tree :=
  match out.getLast? with
  | some u => if t.kind = 1 ∧ u.kind = 1 then out.dropLast ++ [u.plus t.text] else out ++ [t]
  | none => out ++ [t]
def mrg (l : List Tree) : List Tree := l.foldl mrgS []
theorem mrg_snoc (l : List Tree) (t : Tree) : mrg (l ++ [t]) = mrgS (mrg l) t := by simp [mrg]

noncomputable section
mutual
def nrm : Tree → Tree
  | .mk k tag key text cl al sl o kids => .mk k tag key text (clnC cl) (snapF nmS al) (snapF nmI sl) o (mrg (nrmL kids))
def nrmL : List Tree → List Tree
  | [] => []
  | t :: ts => if t.void then nrmL ts else nrm t :: nrmL ts
end
end
theorem nrmL_app : ∀ (ts us : List Tree), nrmL (ts ++ us) = nrmL ts ++ nrmL us
  | [], us => by simp [nrmL]
  | t :: ts, us => by
    rw [List.cons_append, nrmL, nrmL, nrmL_app ts us]
    split
    · rfl
    · rfl
theorem nrmL_snoc (ts : List Tree) (t : Tree) : nrmL (ts ++ [t]) = if t.void then nrmL ts else nrmL ts ++ [nrm t] := by
  rw [nrmL_app]
  by_cases h : t.void
  · simp [nrmL, h]
  · simp [nrmL, h]
theorem nrm_kind (t : Tree) : (nrm t).kind = t.kind := by cases t; simp [nrm, Tree.kind]
theorem nrm_text (t : Tree) : (nrm t).text = t.text := by cases t; simp [nrm, Tree.text]
theorem plus_kind (t : Tree) (x : ByteArray) : (t.plus x).kind = t.kind := by cases t; rfl
theorem plus_text (t : Tree) (x : ByteArray) : (t.plus x).text = t.text ++ x := by cases t; rfl
theorem nrmL_len (ts : List Tree) : (nrmL ts).length ≤ ts.length := by
  induction ts with
  | nil => simp [nrmL]
  | cons t ts ih =>
    rw [nrmL]
    split
    · simp; omega
    · simp; omega
def txtL (l : List Tree) : Nat := l.foldl (fun n t => n + t.text.size) 0
theorem txtL_snoc (l : List Tree) (t : Tree) : txtL (l ++ [t]) = txtL l + t.text.size := by simp [txtL]
theorem txtL_mem : ∀ {l : List Tree} {t : Tree}, t ∈ l → t.text.size ≤ txtL l := by
  intro l t h
  have : ∀ r : List Tree, t ∈ r.reverse → t.text.size ≤ txtL r.reverse := by
    intro r
    induction r with
    | nil => intro h; simp at h
    | cons u r ih =>
      intro h
      rw [List.reverse_cons] at h ⊢
      rw [txtL_snoc]
      rcases List.mem_append.1 h with h | h
      · have := ih h; omega
      · rw [List.mem_singleton] at h; subst h; omega
  have h2 := this l.reverse (by simpa using h)
  simpa using h2
theorem mrgS_txt (out : List Tree) (t : Tree) : txtL (mrgS out t) = txtL out + t.text.size := by
  unfold mrgS
  split
  · rename_i u hu
    split
    · rw [txtL_snoc, plus_text, ByteArray.size_append]
      have e : out = out.dropLast ++ [u] := by
        have := List.dropLast_concat_getLast (l := out) (by intro e; subst e; simp at hu)
        rw [List.getLast?_eq_some_getLast (by intro e; subst e; simp at hu)] at hu
        rw [Option.some.inj hu] at this
        exact this.symm
      have e2 : txtL out = txtL out.dropLast + u.text.size := by
        conv => lhs; rw [e]
        rw [txtL_snoc]
      omega
    · rw [txtL_snoc]
  · rw [txtL_snoc]
theorem mrg_txt (l : List Tree) : txtL (mrg l) = txtL l := by
  have : ∀ r : List Tree, txtL (mrg r.reverse) = txtL r.reverse := by
    intro r
    induction r with
    | nil => rfl
    | cons u r ih => rw [List.reverse_cons, mrg_snoc, mrgS_txt, ih, txtL_snoc]
  have := this l.reverse
  simpa using this
theorem mrgS_len (out : List Tree) (t : Tree) : (mrgS out t).length ≤ out.length + 1 := by
  unfold mrgS
  split
  · split
    · simp
    · simp
  · simp
theorem mrg_last {l : List Tree} {j : Nat} {t : Tree} (h : l[j]? = some t) : ∃ M u, mrg (l.take (j + 1)) = M ++ [u] ∧ u.kind = t.kind := by
  rw [take_snoc h, mrg_snoc]
  unfold mrgS
  split
  · rename_i u hu
    split
    · rename_i hc
      exact ⟨_, _, rfl, by rw [plus_kind, hc.1, hc.2]⟩
    · exact ⟨_, _, rfl, rfl⟩
  · exact ⟨_, _, rfl, rfl⟩
theorem mrgS_app {M : List Tree} {u t : Tree} : mrgS (M ++ [u]) t = if t.kind = 1 ∧ u.kind = 1 then M ++ [u.plus t.text] else M ++ [u] ++ [t] := by
  simp [mrgS]
theorem txtL_take (l : List Tree) (i : Nat) : txtL (l.take i) ≤ txtL l := by
  have : ∀ (r : List Tree) (l : List Tree), txtL l ≤ txtL (l ++ r) := by
    intro r
    induction r with
    | nil => intro l; simp
    | cons u r ih =>
      intro l
      have := ih (l ++ [u])
      rw [txtL_snoc, List.append_assoc, List.singleton_append] at this
      omega
  have := this (l.drop i) (l.take i)
  rwa [List.take_append_drop] at this
theorem mrg_len (l : List Tree) : (mrg l).length ≤ l.length := by
  have : ∀ r : List Tree, (mrg r.reverse).length ≤ r.length := by
    intro r
    induction r with
    | nil => simp [mrg]
    | cons u r ih =>
      rw [List.reverse_cons, mrg_snoc, List.length_cons]
      have := mrgS_len (mrg r.reverse) u
      omega
  have := this l.reverse
  simpa using this

inductive Fit (X : Nat) : Tree → Prop
  | mk {k : Int} {tag key text : ByteArray} {cl : List ByteArray} {at_ : List (ByteArray × ByteArray)} {st : List (ByteArray × Int)} {o : Opt} {kids : List Tree}
    (h1 : cl.length ≤ 100) (h2 : at_.length ≤ 100) (h3 : st.length ≤ 100) (h4 : kids.length ≤ 1000) (h5 : text.size ≤ X) (h6 : ∀ t ∈ kids, Fit X t) : Fit X (.mk k tag key text cl at_ st o kids)
theorem Fit.fits {X : Nat} {t : Tree} (h : Fit X t) : Fits t := by
  induction h with
  | mk h1 h2 h3 h4 _ _ ih => exact .mk h1 h2 h3 h4 ih
theorem Fit.text {X : Nat} {t : Tree} (h : Fit X t) : t.text.size ≤ X := by cases h with | mk h1 h2 h3 h4 h5 _ => exact h5
theorem Fit.plus {X : Nat} {t : Tree} {x : ByteArray} (h : Fit X t) (hx : (t.plus x).text.size ≤ X) : Fit X (t.plus x) := by
  cases h with
  | mk h1 h2 h3 h4 h5 h6 => exact .mk h1 h2 h3 h4 hx h6
theorem last_split {α : Type} {l : List α} {u : α} (h : l.getLast? = some u) : l = l.dropLast ++ [u] := by
  have hne : l ≠ [] := by intro e; subst e; simp at h
  have := List.dropLast_concat_getLast hne
  rw [List.getLast?_eq_some_getLast hne] at h
  rw [Option.some.inj h] at this
  exact this.symm
theorem mrg_fit {X : Nat} (l : List Tree) (hl : ∀ t ∈ l, Fit X t) (hx : txtL l ≤ X) : ∀ u ∈ mrg l, Fit X u := by
  have : ∀ r : List Tree, (∀ t ∈ r, Fit X t) → txtL r.reverse ≤ X → ∀ u ∈ mrg r.reverse, Fit X u := by
    intro r
    induction r with
    | nil => intro _ _ u hu; simp [mrg] at hu
    | cons t r ih =>
      intro hr hx u hu
      have hs := mrgS_txt (mrg r.reverse) t
      have hT := mrg_txt r.reverse
      rw [List.reverse_cons, txtL_snoc] at hx
      have ih := ih (fun t ht => hr t (by simp [ht])) (by omega)
      have ht := hr t (by simp)
      rw [List.reverse_cons, mrg_snoc] at hu
      have hm := txtL_mem hu
      unfold mrgS at hu hs hm
      split at hu
      · rename_i u0 hu0
        have hu1 : u0 ∈ mrg r.reverse := by rw [last_split hu0]; simp
        split at hu
        · rename_i hc
          rcases List.mem_append.1 hu with h | h
          · exact ih u (by rw [last_split hu0]; simp [h])
          · rw [List.mem_singleton] at h
            subst h
            simp only [hu0, if_pos hc] at hm hs
            exact (ih u0 hu1).plus (by omega)
        · rcases List.mem_append.1 hu with h | h
          · exact ih u h
          · rw [List.mem_singleton] at h; subst h; exact ht
      · rcases List.mem_append.1 hu with h | h
        · exact ih u h
        · rw [List.mem_singleton] at h; subst h; exact ht
  have h := this l.reverse (by simpa using hl) (by simpa using hx)
  simpa using h
theorem nrmL_txt {X : Nat} : ∀ (ts : List Tree), (∀ t ∈ ts, Fit X t) → txtL (nrmL ts) ≤ X * ts.length
  | [], _ => by simp [nrmL, txtL]
  | t :: ts, h => by
    have ih := nrmL_txt ts (fun t ht => h t (by simp [ht]))
    have h1 := (h t (by simp)).text
    have e : ∀ (u : Tree) (l : List Tree), txtL (u :: l) = u.text.size + txtL l := by
      intro u l
      have : ∀ (l : List Tree) (n : Nat), l.foldl (fun n t => n + t.text.size) n = n + txtL l := by
        intro l
        induction l with
        | nil => intro n; simp [txtL]
        | cons x l ih =>
          intro n
          simp only [txtL, List.foldl_cons]
          rw [ih, ih (0 + x.text.size)]
          omega
      simp only [txtL, List.foldl_cons]
      rw [this l (0 + u.text.size)]
      simp only [txtL]
      omega
    rw [nrmL, List.length_cons, Nat.mul_add, Nat.mul_one]
    split
    · omega
    · rw [e, nrm_text]; omega
theorem nrmL_mem : ∀ {ts : List Tree} {u : Tree}, u ∈ nrmL ts → ∃ t ∈ ts, u = nrm t
  | t :: ts, u, h => by
    rw [nrmL] at h
    split at h
    · obtain ⟨x, hx, e⟩ := nrmL_mem h
      exact ⟨x, by simp [hx], e⟩
    · rcases List.mem_cons.1 h with h | h
      · exact ⟨t, by simp, h⟩
      · obtain ⟨x, hx, e⟩ := nrmL_mem h
        exact ⟨x, by simp [hx], e⟩
theorem clnC_le (l : List ByteArray) : (clnC l).length ≤ l.length := by have := clnC_len l l.length; rwa [List.take_length] at this
theorem Fit.nrm {X : Nat} {t : Tree} (h : Fit X t) : Fit (1001 * X) (nrm t) := by
  induction h with
  | @mk k tag key text cl al sl o kids h1 h2 h3 h4 h5 h6 ih =>
    have hc := clnC_le cl
    have hn1 := snap_len nmS al
    have hn2 := snap_len nmI sl
    have hl1 := mrg_len (nrmL kids)
    have hl2 := nrmL_len kids
    have ht := nrmL_txt kids h6
    have hm : X * kids.length ≤ X * 1000 := Nat.mul_le_mul_left X h4
    rw [Proofs.Ytkcjkbnbblpomaa.nrm]
    refine .mk (by omega) (by omega) (by omega) (by omega) (by omega) (mrg_fit _ (fun u hu => ?_) (by omega))
    obtain ⟨t, ht, rfl⟩ := nrmL_mem hu
    exact ih t ht
theorem nrmL_fit {X : Nat} {ts : List Tree} (h : ∀ t ∈ ts, Fit X t) : ∀ t ∈ nrmL ts, Fit (1001 * X) t := fun u hu => by
  obtain ⟨t, ht, rfl⟩ := nrmL_mem hu
  exact (h t ht).nrm
theorem Small.fit {t : Tree} (h : Small t) (hc : cnt t ≤ 1000) : Fit 70 t := by
  induction h with
  | mk h hk ih =>
    obtain ⟨_, _, _, h4, h5, _, h6, _, h7, _⟩ := h
    rw [cnt] at hc
    refine .mk (by omega) (by omega) (by omega) ?_ h4 (fun t ht => ih t ht ?_)
    · have := cntL_len ‹List Tree›; omega
    · have := cntL_mem ht; omega
end Go.Proofs.Ytkcjkbnbblpomaa
namespace Go.Proofs.Ytkcjkbnbblpomaa
open Go.RowKit

noncomputable section
open Classical in
mutual
def samT : Tree → Tree → Bool
  | .mk k tag key text cl al sl o kids, .mk k' tag' key' text' cl' al' sl' o' kids' =>
    decide (k = k' ∧ tag = tag' ∧ key = key' ∧ text = text' ∧ o = o' ∧ cl = cl' ∧ snapF nmS al = snapF nmS al' ∧ snapF nmI sl = snapF nmI sl') && samL kids kids'
def samL : List Tree → List Tree → Bool
  | [], [] => true
  | t :: ts, u :: us => samT t u && samL ts us
  | [], _ :: _ => false
  | _ :: _, [] => false
end
end
theorem samL_iff : ∀ (ts us : List Tree), samL ts us = true ↔ ts.length = us.length ∧ ∀ (i : Nat) (t u : Tree), ts[i]? = some t → us[i]? = some u → samT t u = true
  | [], [] => by simp [samL]
  | [], _ :: _ => by simp [samL]
  | _ :: _, [] => by simp [samL]
  | t :: ts, u :: us => by
    rw [samL, Bool.and_eq_true, samL_iff ts us]
    constructor
    · rintro ⟨h1, h2, h3⟩
      refine ⟨by simp [h2], fun i a b ha hb => ?_⟩
      cases i with
      | zero => simp at ha hb; subst ha hb; exact h1
      | succ i => simp at ha hb; exact h3 i a b ha hb
    · rintro ⟨h1, h2⟩
      exact ⟨h2 0 t u rfl rfl, by simpa using h1, fun i a b ha hb => h2 (i + 1) a b (by simpa using ha) (by simpa using hb)⟩
theorem sam_iff {k k' : Int} {tag key text tag' key' text' : ByteArray} {cl cl' : List ByteArray} {al al' : List (ByteArray × ByteArray)} {sl sl' : List (ByteArray × Int)} {o o' : Opt} {kids kids' : List Tree} :
    samT (.mk k tag key text cl al sl o kids) (.mk k' tag' key' text' cl' al' sl' o' kids') = true ↔
      (k = k' ∧ tag = tag' ∧ key = key' ∧ text = text' ∧ o = o' ∧ cl = cl' ∧ snapF nmS al = snapF nmS al' ∧ snapF nmI sl = snapF nmI sl') ∧ samL kids kids' = true := by
  rw [samT, Bool.and_eq_true, decide_eq_true_iff]
theorem sam_refl : ∀ (n : Nat) (t : Tree), SizeOf.sizeOf t < n → samT t t = true
  | 0, _, h => by omega
  | n + 1, .mk k tag key text cl al sl o kids, h => by
    rw [sam_iff]
    refine ⟨⟨rfl, rfl, rfl, rfl, rfl, rfl, rfl, rfl⟩, (samL_iff _ _).2 ⟨rfl, fun i t u ht hu => ?_⟩⟩
    rw [ht] at hu
    cases hu
    exact sam_refl n t (by have := kid_lt (k := k) (tag := tag) (key := key) (text := text) (cl := cl) (at_ := al) (st := sl) (o := o) (List.mem_of_getElem? ht); omega)
theorem sam_self (t : Tree) : samT t t = true := sam_refl _ t (Nat.lt_succ_self _)
theorem sam_false {t u : Tree} (h : ¬ samT t u = true) : samT t u = false := by simpa using h
end Go.Proofs.Ytkcjkbnbblpomaa
