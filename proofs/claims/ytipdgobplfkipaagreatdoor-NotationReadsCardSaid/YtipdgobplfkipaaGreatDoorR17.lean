/- More values that may be taken first in a region that draws its order; and cuts where orders meet. Layer 8: the document's reader of a view. Layer 8, plain: a view, of tokens alone. Layer 8, plain: tokens spelled out with blanks between are the same tokens. Layer 8, plain: an element's words, read again. Layer 8, plain: what is written is read again. Layer 8, plain: a written view's text is its tokens, spelled out; read again it is that view. Layer 8, plain: how a view is written. A strings.Builder that a call has made itself. -/
import Derived.Test.YtipdgobplfkipaaGreatDoorR13
import Derived.Test.YtipdgobplfkipaaGreatDoorR06
import Derived.Test.YtipdgobplfkipaaGreatDoorR14
import Derived.Test.YtipdgobplfkipaaGreatDoorR15
import Derived.Test.YtipdgobplfkipaaGreatDoorR16
import Derived.Test.YtipdgobplfkipaaGreatDoorR07
import Derived.Lib.ItoaLen
import Derived.Test.YtipdgobplfkipaaGreatDoorR08
set_option linter.all false
namespace Go.Proofs.YtipdgobplfkipaaGreatDoor
open Go.RowKit
section
variable {P : Program} {Q : Exit → Act → World → Prop} {a : Act} {w w' : World} {n : Nat} {l : List (Nat × Value)} {df : List Deferred} {rr : Option Nat} {ops : Array Oper} {K : Act → World → Prop}
  {d : Nat} {dst : Option Nat} {ty : TypeId} {pos : String} {af : Array Edge} {g : Option (Nat × Bool)}
theorem an_at {k : Nat} {listed l' : Array Bool} (h : Any rr P ops Q k l' a w) (e : listed = l') : Any rr P ops Q k listed a w := e ▸ h
theorem y_assign {x : Operand} {v : Value} (hk : Kn df n a l) (hx : ev l x = some v) : ∀ w, (execOp a.eval ⟨dst, .assign x, ty, pos, af, g⟩).run P w = .ok (.value v) w := fun w => by rw [← hk.eval hx]; rfl
theorem y_ext {x : Operand} {i : Nat} {vs : Array Value} {v : Value} (hk : Kn df n a l) (hx : ev l x = some (.tuple vs)) (hv : vs[i]? = some v) : ∀ w, (execOp a.eval ⟨dst, .extract x i, ty, pos, af, g⟩).run P w = .ok (.value v) w := fun w => by
  simp [execOp, hk.eval hx, Instr.extract, hv]
theorem y_ixT {α : Type} [Enc α] {x y : Operand} {t : TypeId} {i : Nat} {v : Value} {xs : List α} {E : Nat} {kk : IntKind} (hk : Kn df n a l) (hs : SlT xs v w') (hi : i < xs.length) (ht : elOf P t = some E) (hE : szOf P E = some (Enc.k α + 1))
    (hx : ev l x = some v) (hy : ev l y = some (.int kk (i : Int))) : ∀ w, (execOp a.eval ⟨dst, .indexAddr t x y, ty, pos, af, g⟩).run P w = .ok (.value (.pointer (some ⟨blk v, offs v + i * (Enc.k α + 1), none⟩))) w := fun w => by
  rcases hs.2.2 with ⟨h1, h2⟩ | ⟨ad, c, rfl, _, _, hcell⟩
  · omega
  · have hlt : i * (Enc.k α + 1) < (enc xs).length := by
      rw [hs.1]
      exact Nat.mul_lt_mul_of_pos_right hi (by omega)
    obtain ⟨hsp, _⟩ := hcell (i * (Enc.k α + 1)) _ (List.getElem?_eq_getElem hlt)
    obtain ⟨b, o, sp⟩ := ad
    simp only at hsp
    subst hsp
    have key : (execOp a.eval ⟨dst, .indexAddr t x y, ty, pos, af, g⟩).run P w = .ok (.value (.pointer (some ⟨b, o + i * (Enc.k α + 1), none⟩))) w := by
      simp [execOp, hk.eval hx, hk.eval hy, Instr.indexAt, run_underlying (elOf_und ht), asIntOf, hi, szOf_run hE, addr_add]
    exact key
theorem y_slT {x y : Operand} {t E k m c j : Nat} {ao : Option Addr} {kk : IntKind} (hk : Kn df n a l)
    (hx : ev l x = some (.slice ao m c)) (hy : ev l y = some (.int kk (j : Int))) (ht : elOf P t = some E) (hE : szOf P E = some k) (hj : j ≤ c) :
    ∀ w, (execOp a.eval ⟨dst, .slice t x none (some y) none, ty, pos, af, g⟩).run P w = .ok (.value (.slice (if c = 0 then ao else ao.map (·.add 0)) j c)) w := fun w => by
  simp [execOp, hk.eval hx, hk.eval hy, Instr.sliceAt, Instr.slice, run_underlying (elOf_und ht), Instr.sliceBounds, Instr.sliceBound, asIntOf, hj, szOf_run hE]
theorem y_slF {x y : Operand} {t E k m c i : Nat} {ao : Option Addr} {kk : IntKind} (hk : Kn df n a l)
    (hx : ev l x = some (.slice ao m c)) (hy : ev l y = some (.int kk (i : Int))) (ht : elOf P t = some E) (hE : szOf P E = some k) (hi : i ≤ m) :
    ∀ w, (execOp a.eval ⟨dst, .slice t x (some y) none none, ty, pos, af, g⟩).run P w = .ok (.value (.slice (if c = i then ao else ao.map (·.add (i * k))) (m - i) (c - i))) w := fun w => by
  simp [execOp, hk.eval hx, hk.eval hy, Instr.sliceAt, Instr.slice, run_underlying (elOf_und ht), Instr.sliceBounds, Instr.sliceBound, asIntOf, hi, szOf_run hE]
end
end Go.Proofs.YtipdgobplfkipaaGreatDoor
namespace Go.Proofs.YtipdgobplfkipaaGreatDoor
open Go.RowKit
set_option maxRecDepth 100000
attribute [local irreducible] Go.Code.wpIn Go.wpListIn Go.Calls Gives Go.Exit.then Go.Exit.inBlock Done ObxE

theorem drop_hd {s : ByteArray} {a i : Nat} (h : (toksL s 0).drop a = toksL s i) : (toksL s 0)[a]? = some (tokF s i) := by
  obtain ⟨r, hr⟩ := toks_ne s i
  rw [← List.head?_drop, h, hr]; rfl
theorem drop_tl {s : ByteArray} {a i : Nat} (h : (toksL s 0).drop a = toksL s i) (h0 : (tokF s i).kind ≠ 0) (h5 : (tokF s i).kind ≠ 5) : (toksL s 0).drop (a + 1) = toksL s (tokF s i).till := by
  rw [← List.drop_drop, h, toks_more h0 h5, List.drop_one]; rfl
theorem item_seen {n m : Itm} {w : ByteArray} {seen more : List ByteArray} (h : itemF n w seen = some (m, more)) : more.length ≤ seen.length + 1 := by
  unfold itemF at h
  cases ha : addF n w with
  | none => rw [ha] at h; cases h
  | some q =>
    rw [ha] at h
    simp only at h
    repeat' split at h
    all_goals first
      | (cases h; done)
      | (injection h with h; injection h with _ h; subst h; simp)
def ItS (B : Bs) (L : List HP) (it : Option (Itm × List ByteArray)) (m : Itm) (hc ha hs : Hd) (vs : Value) (ok : Bool) (w : World) : Prop := match it with
  | some (mm, more) => m = mm ∧ ok = true ∧ St B (OwT 9 m.cl hc.v :: OwT 73 m.al ha.v :: OwT 75 m.sl hs.v :: OwT 9 more vs :: L) w
  | none => ok = false ∧ St B L w
theorem ItR.flat {B : Bs} {L : List HP} {hh : Hd} {it : Option (Itm × List ByteArray)} {v : Value} {w : World} (h : ItR B L hh it v w) :
    ∃ (m : Itm) (hc ha hs : Hd) (vs : Value) (ok : Bool), v = .tuple #[.agg (ndC m.k m.tag m.key hc ha hs m.o hh).toArray, vs, .bool ok] ∧ ItS B L it m hc ha hs vs ok w := by
  cases it with
  | none => obtain ⟨m, hc, ha, hs, vs, h1, h2⟩ := h; exact ⟨m, hc, ha, hs, vs, false, h1, rfl, h2⟩
  | some y => obtain ⟨m, more⟩ := y; obtain ⟨hc, ha, hs, vs, h1, h2⟩ := h; exact ⟨m, hc, ha, hs, vs, true, h1, rfl, rfl, h2⟩
structure E8 where
  i : Nat
  f : Nat
  a : Nat
  n : Itm
  seen : List ByteArray
  kids : List Tree
  H : List NdH
  hc : Hd
  ha : Hd
  hs : Hd
  hh : Hd
  vs : Value
section
variable (s : ByteArray) (vl : Value)
abbrev e8L (T : List Tok) (b6 b9 b10 : Nat) (x : E8) (L : List HP) : List HP :=
  pts b10 (ndC x.n.k x.n.tag x.n.key x.hc x.ha x.hs x.n.o x.hh) 42 :: OwT 9 x.n.cl x.hc.v :: OwT 73 x.n.al x.ha.v :: OwT 75 x.n.sl x.hs.v :: OwT 9 x.seen x.vs ::
  OwT 42 x.H x.hh.v :: forR x.kids x.H :: pts b9 nd0 42 :: pts b6 nd0 42 :: OwT 52 (T.map tkC) vl :: L
def RdR (B : Bs) (L : List HP) (r : Rd Tree) (v : Value) (w : World) : Prop := match r with
  | .ok t j => ∃ u, ∃ a : Nat, v = .tuple #[u, .int .i64 (a : Int), .int .i64 0] ∧ (toksL s 0).drop a = toksL s j ∧ St B (treeH t u :: OwT 52 ((toksL s 0).map tkC) vl :: L) w
  | .no p e => ∃ a : Nat, ∃ tk, v = .tuple #[.agg nd0.toArray, .int .i64 (a : Int), .int .i64 e] ∧ (toksL s 0)[a]? = some tk ∧ tk.at_ = p ∧ e ≠ 0 ∧ St B (OwT 52 ((toksL s 0).map tkC) vl :: L) w
def VC8 (f : Nat) : Prop := ∀ (i op a : Nat) (B : Bs) (L : List HP) (w : World), i ≤ s.size → op ≤ 40 → 2 * (s.size - i) + 2 ≤ f → (toksL s 0).drop a = toksL s i → TabW B.w → St B (OwT 52 ((toksL s 0).map tkC) vl :: L) w →
  Calls Tryz.prog 26 #[vl, .int .i64 (a : Int), .int .i64 (op : Int)] w (Ret (RdR s vl B L (viewF s f i op)))
set_option maxHeartbeats 16000000 in
theorem read8_all (hs : s.size ≤ 900) : ∀ f, VC8 s vl f := by
  intro f
  induction f using Nat.strongRecOn with
  | _ f ih =>
  intro i op a0 B L w hi hop hf hdr ht hS
  obtain ⟨m, rfl⟩ : ∃ m, f = m + 1 := ⟨f - 1, by omega⟩
  have hg := drop_hd hdr
  have htl := drop_tl hdr
  have htt := tok_till (s := s) (i := i)
  have hR : viewF s (m + 1) i op = viewF s (m + 1) i op := rfl
  conv at hR => rhs; simp only [viewF]
  have hTl := toks_len1 s s.size 0 (by omega)
  generalize hT : toksL s 0 = T at *
  generalize hg0 : tokF s i = g at *
  have hgm : (T.map tkC)[a0]? = some (tkC g) := by rw [List.getElem?_map, hg]; rfl
  have hal : a0 < T.length := by
    rcases Nat.lt_or_ge a0 T.length with h | h
    · exact h
    · rw [List.getElem?_eq_none h] at hg; cases hg
  have hml : (T.map tkC).length = T.length := List.length_map _
  have q1 : (tkC g).1 = (g.kind : Int) := rfl
  generalize viewF s (m + 1) i op = R0 at *
  refine enter Tryz.func26 rfl Tryz.ntmps26 rfl (fun a hk => ?_)
  by_cases k3 : g.kind = 3
  · rw [if_pos k3] at hR
    have hz : g.txt = g.txt := rfl
    (repeat' (first | (show wpListIn _ _ _ _ _ (_ :: _) _ _; first | (refine wx1 ?_; clear hk a; intro a hk) | (refine wx2 ?_ ?_ <;> (intro hp; clear hk a; intro a hk)) | (refine wx3 ?_; clear hk hS a; intro w b hS a hk) | (refine wx4 ?_; clear hk hS a; intro w hS a hk) | (refine wx5 ?_; clear hk hS a; intro w v hS a hk) | fail) | refine wx0 ?_ | (refine s_end hk ?_; clear hk a; intro a hk) | fail))
    refine done3R hk rfl (.str hS (hT := aT rfl) (hs := zT rfl)) (.tmp rfl) (.tmp rfl) (h := ?_)
    rw [hR]
    have h5 := (((((forR.nil (hS.sub (L' := OwT 52 (T.map tkC) vl :: L) (.cons (by (repeat (first | exact At.here | apply At.there))) (by (repeat (first | exact Sub.refl | apply Sub.under)))))).nilT 42 NdH).nilT 75 PrI).nilT 73 PrS).nilT 9 ByteArray)
    refine ⟨_, a0 + 1, rfl, by rw [hT]; exact htl (by omega) (by omega), ?_⟩
    rw [hT]
    exact treeH.of (h := (1, ⟨#[]⟩, ⟨#[]⟩, g.txt, ⟨none, 0, 0⟩, ⟨none, 0, 0⟩, ⟨none, 0, 0⟩, o0, ⟨none, 0, 0⟩)) (treeR.of h5)
  · rw [if_neg k3] at hR
    by_cases k1 : g.kind = 1
    · rw [if_pos k1] at hR
      by_cases h40 : 40 ≤ op
      · rw [if_pos h40] at hR
        have hoe : op = 40 := by omega
        (repeat' (first | (show wpListIn _ _ _ _ _ (_ :: _) _ _; first | (refine wx1 ?_; clear hk a; intro a hk) | (refine wx2 ?_ ?_ <;> (intro hp; clear hk a; intro a hk)) | (refine wx3 ?_; clear hk hS a; intro w b hS a hk) | (refine wx4 ?_; clear hk hS a; intro w hS a hk) | (refine wx5 ?_; clear hk hS a; intro w v hS a hk) | fail) | refine wx0 ?_ | (refine s_end hk ?_; clear hk a; intro a hk) | fail))
        refine done3R hk rfl (.str hS (hT := aT rfl) (hs := zT rfl)) (.tmp rfl) (.tmp rfl) (h := ?_)
        rw [hR]
        exact ⟨a0, g, rfl, by rw [hT]; exact hg, rfl, by decide, by rw [hT]; exact hS.sub (.cons (by (repeat (first | exact At.here | apply At.there))) (by (repeat (first | exact Sub.refl | apply Sub.under))))⟩
      · rw [if_neg h40] at hR
        have hdr2 := htl (by omega) (by omega)
        obtain ⟨hm1, hm2⟩ := htt (by omega) (by omega)
        have hg2 : T[a0 + 1]? = some (tokF s g.till) := by rw [← hT] at hdr2 ⊢; exact drop_hd hdr2
        have htl2 : (tokF s g.till).kind ≠ 0 → (tokF s g.till).kind ≠ 5 → T.drop (a0 + 1 + 1) = toksL s (tokF s g.till).till := by rw [← hT] at hdr2 ⊢; exact drop_tl hdr2
        have htt2 := tok_till (s := s) (i := g.till)
        have hw2 := tok_w (s := s) (i := g.till) hm2
        generalize hg1 : tokF s g.till = g2 at *
        have hgm2 : (T.map tkC)[a0 + 1]? = some (tkC g2) := by rw [List.getElem?_map, hg2]; rfl
        have hal2 : a0 + 1 < T.length := by
          rcases Nat.lt_or_ge (a0 + 1) T.length with h | h
          · exact h
          · rw [List.getElem?_eq_none h] at hg2; cases hg2
        have q2 : (tkC g2).1 = (g2.kind : Int) := rfl
        rw [show ((a0 + 1 : Nat)) = a0 + 1 from rfl] at hgm2
        by_cases k4 : g2.kind = 4
        · obtain ⟨hw3, hw4⟩ := hw2 k4
          obtain ⟨hn1, hn2⟩ := htt2 (by omega) (by omega)
          (repeat' (first | (show wpListIn _ _ _ _ _ (_ :: _) _ _; first | (refine wx1 ?_; clear hk a; intro a hk) | (refine wx2 ?_ ?_ <;> (intro hp; clear hk a; intro a hk)) | (refine wx3 ?_; clear hk hS a; intro w b hS a hk) | (refine wx4 ?_; clear hk hS a; intro w hS a hk) | (refine wx5 ?_; clear hk hS a; intro w v hS a hk) | fail) | refine wx0 ?_ | (refine s_end hk ?_; clear hk a; intro a hk) | fail))
          rename_i b6 w1
          rename Nat => b9
          refine sg hk (g_callO hk (hf := by kernel_rfl) (hc := rname_any g2.txt (by omega) _) (h := ?_)); clear hk a; rintro _ w ⟨rfl, hS1⟩ a hk; replace hS := hS.call0 hS1; clear hS1
          cases hb : nameS g2.txt with
          | false =>
            rw [hb] at hk
            rw [if_neg (by rw [hb]; rintro ⟨-, h⟩; cases h)] at hR
            (repeat' (first | (show wpListIn _ _ _ _ _ (_ :: _) _ _; first | (refine wx1 ?_; clear hk a; intro a hk) | (refine wx2 ?_ ?_ <;> (intro hp; clear hk a; intro a hk)) | (refine wx3 ?_; clear hk hS a; intro w b hS a hk) | (refine wx4 ?_; clear hk hS a; intro w hS a hk) | (refine wx5 ?_; clear hk hS a; intro w v hS a hk) | fail) | refine wx0 ?_ | (refine s_end hk ?_; clear hk a; intro a hk) | fail))
            refine done3R hk rfl (.str hS (hT := aT rfl) (hs := zT rfl)) (.tmp rfl) (.tmp rfl) (h := ?_)
            rw [hR]
            exact ⟨a0 + 1, g2, rfl, by rw [hT]; exact hg2, rfl, by decide, by rw [hT]; exact hS.sub (.cons (by (repeat (first | exact At.here | apply At.there))) (by (repeat (first | exact Sub.refl | apply Sub.under))))⟩
          | true =>
            rw [hb] at hk
            rw [if_pos ⟨k4, hb⟩] at hR
            (repeat' (first | (show wpListIn _ _ _ _ _ (_ :: _) _ _; first | (refine wx1 ?_; clear hk a; intro a hk) | (refine wx2 ?_ ?_ <;> (intro hp; clear hk a; intro a hk)) | (refine wx3 ?_; clear hk hS a; intro w b hS a hk) | (refine wx4 ?_; clear hk hS a; intro w hS a hk) | (refine wx5 ?_; clear hk hS a; intro w v hS a hk) | fail) | refine wx0 ?_ | (refine s_end hk ?_; clear hk a; intro a hk) | fail))
            rename Nat => b10
            refine sg hk (g_bs0 ByteArray hS ?_ (hT := eT rfl) (hE := zT rfl)); clear hk hS a; intro w v11 hS a hk
            (repeat' (first | (show wpListIn _ _ _ _ _ (_ :: _) _ _; first | (refine wx1 ?_; clear hk a; intro a hk) | (refine wx2 ?_ ?_ <;> (intro hp; clear hk a; intro a hk)) | (refine wx3 ?_; clear hk hS a; intro w b hS a hk) | (refine wx4 ?_; clear hk hS a; intro w hS a hk) | (refine wx5 ?_; clear hk hS a; intro w v hS a hk) | fail) | refine wx0 ?_ | (refine s_end hk ?_; clear hk a; intro a hk) | fail))
            have h5 := (((((forR.nil hS).nilT 42 NdH).nilT 75 PrI).nilT 73 PrS).nilT 9 ByteArray)
            replace hk := Kn.kp [0, 1, 2, 6, 9, 10, 11] hk
            rw [show ((a0 : Int) + 1 + 1) = ((a0 + 1 + 1 : Nat) : Int) by omega] at hk
            refine wp_while (fun x : E8 => [(1, .int .i64 (x.a : Int)), (11, x.vs)]) (fun x => e8L vl T b6 b9 b10 x L)
              (fun x => elemF s x.f x.i (op + 1) x.n x.seen x.kids = R0 ∧ x.i ≤ s.size ∧ 2 * (s.size - x.i) + 3 ≤ x.f ∧ x.f ≤ m ∧ T.drop x.a = toksL s x.i ∧ x.n.cl.length ≤ x.i ∧ x.n.al.length ≤ x.i ∧ x.n.sl.length ≤ x.i ∧ x.kids.length ≤ x.i ∧ x.seen.length ≤ x.i)
              (fun x => s.size - x.i) ⟨g2.till, m, a0 + 1 + 1, ⟨2, g2.txt, ⟨#[]⟩, [], [], [], o0⟩, [], [], [], ⟨none, 0, 0⟩, ⟨none, 0, 0⟩, ⟨none, 0, 0⟩, ⟨none, 0, 0⟩, v11⟩ hk (by repeat (first | exact trivial | refine ⟨rfl, ?_⟩))
              (h5.sub (.cons (by (repeat (first | exact At.here | apply At.there))) (.cons (by (repeat (first | exact At.here | apply At.there))) (.cons (by (repeat (first | exact At.here | apply At.there))) (.cons (by (repeat (first | exact At.here | apply At.there))) (.cons (by (repeat (first | exact At.here | apply At.there))) (.cons (by (repeat (first | exact At.here | apply At.there))) (.cons (by (repeat (first | exact At.here | apply At.there))) (.cons (by (repeat (first | exact At.here | apply At.there))) (.cons (by (repeat (first | exact At.here | apply At.there))) (.cons (by (repeat (first | exact At.here | apply At.there))) (by (repeat (first | exact Sub.refl | apply Sub.under))))))))))))))
              ⟨hR.symm, hn2, by show 2 * (s.size - g2.till) + 3 ≤ m; omega, Nat.le_refl _, htl2 (by omega) (by omega), Nat.zero_le _, Nat.zero_le _, Nat.zero_le _, Nat.zero_le _, Nat.zero_le _⟩ ?_
            clear hk hS a h5 hR
            rintro ⟨i2, fu, a2, ⟨k, tag, key, cl, al, sl, ⟨e, lv, mo, d, p1, p2⟩⟩, seen, kids, H, hc, ha, hss, hh, vs⟩ a w hk hS ⟨hR, hi2, hfu, hff, hdr3, lcl, lal, lsl, lks, lse⟩
            simp only at hk hS hR hi2 hfu hff hdr3 lcl lal lsl lks lse
            obtain ⟨m2, rfl⟩ : ∃ m2, fu = m2 + 1 := ⟨fu - 1, by omega⟩
            simp only [elemF] at hR
            have hg3 : T[a2]? = some (tokF s i2) := by rw [← hT] at hdr3 ⊢; exact drop_hd hdr3
            have htl3 : (tokF s i2).kind ≠ 0 → (tokF s i2).kind ≠ 5 → T.drop (a2 + 1) = toksL s (tokF s i2).till := by rw [← hT] at hdr3 ⊢; exact drop_tl hdr3
            have htt3 := tok_till (s := s) (i := i2)
            have hw3' := tok_w (s := s) (i := i2) hi2
            generalize hge : tokF s i2 = ge at *
            have hgm3 : (T.map tkC)[a2]? = some (tkC ge) := by rw [List.getElem?_map, hg3]; rfl
            have hal3 : a2 < T.length := by
              rcases Nat.lt_or_ge a2 T.length with h | h
              · exact h
              · rw [List.getElem?_eq_none h] at hg3; cases hg3
            have q3 : (tkC ge).1 = (ge.kind : Int) := rfl
            by_cases c2 : ge.kind = 2
            · rw [if_pos c2] at hR
              (repeat' (first | (show wpListIn _ _ _ _ _ (_ :: _) _ _; first | (refine wx1 ?_; clear hk a; intro a hk) | (refine wx2 ?_ ?_ <;> (intro hp; clear hk a; intro a hk)) | (refine wx3 ?_; clear hk hS a; intro w b hS a hk) | (refine wx4 ?_; clear hk hS a; intro w hS a hk) | (refine wx5 ?_; clear hk hS a; intro w v hS a hk) | fail) | refine wx0 ?_ | (refine s_end hk ?_; clear hk a; intro a hk) | fail))
              refine done3R hk rfl (.str hS (hT := aT rfl) (hs := zT rfl)) (.tmp rfl) (.tmp rfl) (h := ?_)
              rw [← hR]
              refine ⟨_, a2 + 1, rfl, by rw [hT]; exact htl3 (by omega) (by omega), ?_⟩
              rw [hT]
              exact treeH.of (h := (k, tag, key, ⟨#[]⟩, hc, ha, hss, (e, lv, mo, d, p1, p2), hh)) (treeR.of (A1 := OwT 9 cl hc.v) (A2 := OwT 73 al ha.v) (A3 := OwT 75 sl hss.v) (A4 := OwT 42 H hh.v) (kids := kids) (H := H) (hS.sub (.cons (by (repeat (first | exact At.here | apply At.there))) (.cons (by (repeat (first | exact At.here | apply At.there))) (.cons (by (repeat (first | exact At.here | apply At.there))) (.cons (by (repeat (first | exact At.here | apply At.there))) (.cons (by (repeat (first | exact At.here | apply At.there))) (.cons (by (repeat (first | exact At.here | apply At.there))) (by (repeat (first | exact Sub.refl | apply Sub.under)))))))))))
            · rw [if_neg c2] at hR
              by_cases c4 : ge.kind = 4
              · obtain ⟨hw5, hw6⟩ := hw3' c4
                obtain ⟨hn3, hn4⟩ := htt3 (by omega) (by omega)
                rw [if_pos c4] at hR
                (repeat' (first | (show wpListIn _ _ _ _ _ (_ :: _) _ _; first | (refine wx1 ?_; clear hk a; intro a hk) | (refine wx2 ?_ ?_ <;> (intro hp; clear hk a; intro a hk)) | (refine wx3 ?_; clear hk hS a; intro w b hS a hk) | (refine wx4 ?_; clear hk hS a; intro w hS a hk) | (refine wx5 ?_; clear hk hS a; intro w v hS a hk) | fail) | refine wx0 ?_ | (refine s_end hk ?_; clear hk a; intro a hk) | fail))
                generalize hit : itemF ⟨k, tag, key, cl, al, sl, (e, lv, mo, d, p1, p2)⟩ ge.txt seen = it at hR
                have hq4 : (tkC ge).2.2 = ge.txt := rfl
                refine an_region (fun a w => match it with
                  | some (mm, more) => ∃ (hc' ha' hs' : Hd) (vs' : Value) (b12 : Nat), Kn [] 131 a [(0, vl), (1, .int .i64 (a2 : Int)), (2, .int .i64 (op : Int)), (6, .pointer (some ⟨b6, 0, none⟩)), (9, .pointer (some ⟨b9, 0, none⟩)), (10, .pointer (some ⟨b10, 0, none⟩)), (12, .pointer (some ⟨b12, 0, none⟩)), (13, vs'), (14, .bool true)] ∧
                      St B (pts b12 (ndC mm.k mm.tag mm.key hc' ha' hs' mm.o hh) 42 :: pts b10 (ndC k tag key hc ha hss (e, lv, mo, d, p1, p2) hh) 42 :: OwT 9 mm.cl hc'.v :: OwT 73 mm.al ha'.v :: OwT 75 mm.sl hs'.v :: OwT 9 more vs' ::
                        OwT 42 H hh.v :: forR kids H :: pts b9 nd0 42 :: pts b6 nd0 42 :: OwT 52 (T.map tkC) vl :: L) w
                  | none => Kn [] 131 a [(0, vl), (1, .int .i64 (a2 : Int)), (2, .int .i64 (op : Int)), (6, .pointer (some ⟨b6, 0, none⟩)), (9, .pointer (some ⟨b9, 0, none⟩)), (14, .bool false)] ∧ St B (pts b9 nd0 42 :: pts b6 nd0 42 :: OwT 52 (T.map tkC) vl :: L) w)
                  (fun _ _ => False) hk (by kernel_rfl) ?_ ?_ ?_
                · intro a w hK
                  (repeat (first | refine q_then ?_ | refine q_inN ?_))
                  cases it with
                  | none =>
                    obtain ⟨hk, hS⟩ := hK
                    (repeat' (first | (show wpListIn _ _ _ _ _ (_ :: _) _ _; first | (refine wx1 ?_; clear hk a; intro a hk) | (refine wx2 ?_ ?_ <;> (intro hp; clear hk a; intro a hk)) | (refine wx3 ?_; clear hk hS a; intro w b hS a hk) | (refine wx4 ?_; clear hk hS a; intro w hS a hk) | (refine wx5 ?_; clear hk hS a; intro w v hS a hk) | fail) | refine wx0 ?_ | (refine s_end hk ?_; clear hk a; intro a hk) | fail))
                    refine done3R hk rfl (.str hS (hT := aT rfl) (hs := zT rfl)) (.tmp rfl) (.tmp rfl) (h := ?_)
                    rw [← hR]
                    exact ⟨a2, ge, rfl, by rw [hT]; exact hg3, rfl, by decide, by rw [hT]; exact hS.sub (.cons (by (repeat (first | exact At.here | apply At.there))) (by (repeat (first | exact Sub.refl | apply Sub.under))))⟩
                  | some y =>
                    obtain ⟨⟨k', tag', key', cl', al', sl', ⟨e', lv', mo', d', p1', p2'⟩⟩, more⟩ := y
                    obtain ⟨hc', ha', hs', vs', b12, hk, hS⟩ := hK
                    simp only at hS hR
                    obtain ⟨il1, il2, il3⟩ := item_len hit
                    have il4 := item_seen hit
                    simp only at il1 il2 il3
                    (repeat' (first | (show wpListIn _ _ _ _ _ (_ :: _) _ _; first | (refine wx1 ?_; clear hk a; intro a hk) | (refine wx2 ?_ ?_ <;> (intro hp; clear hk a; intro a hk)) | (refine wx3 ?_; clear hk hS a; intro w b hS a hk) | (refine wx4 ?_; clear hk hS a; intro w hS a hk) | (refine wx5 ?_; clear hk hS a; intro w v hS a hk) | fail) | refine wx0 ?_ | (refine s_end hk ?_; clear hk a; intro a hk) | fail))
                    rw [show ((a2 : Int) + 1) = ((a2 + 1 : Nat) : Int) by omega] at hk
                    exact ⟨⟨ge.till, m2, a2 + 1, ⟨k', tag', key', cl', al', sl', (e', lv', mo', d', p1', p2')⟩, more, kids, H, hc', ha', hs', hh, vs'⟩, by show s.size - ge.till < s.size - i2; omega, hk.sd, hS.sub (.cons (by (repeat (first | exact At.here | apply At.there))) (.cons (by (repeat (first | exact At.here | apply At.there))) (.cons (by (repeat (first | exact At.here | apply At.there))) (.cons (by (repeat (first | exact At.here | apply At.there))) (.cons (by (repeat (first | exact At.here | apply At.there))) (.cons (by (repeat (first | exact At.here | apply At.there))) (.cons (by (repeat (first | exact At.here | apply At.there))) (.cons (by (repeat (first | exact At.here | apply At.there))) (.cons (by (repeat (first | exact At.here | apply At.there))) (.cons (by (repeat (first | exact At.here | apply At.there))) (by (repeat (first | exact Sub.refl | apply Sub.under))))))))))))), hR, hn4, by show 2 * (s.size - ge.till) + 3 ≤ m2; omega, by show m2 ≤ m; omega, htl3 (by omega) (by omega),
                      by show cl'.length ≤ ge.till; omega, by show al'.length ≤ ge.till; omega, by show sl'.length ≤ ge.till; omega, by show kids.length ≤ ge.till; omega, by show more.length ≤ ge.till; omega⟩
                · intro ch a w _ h; exact h.elim
                · replace hS := hS.drew
                  generalize w.drew = w at hS
                  refine an_take (i := 1) (k := 15) rfl hk (by kernel_rfl) (by kernel_rfl) (by kernel_rfl) (y_move hk rfl) (fun _ => rfl) rfl (fun a hk => ?_) rfl
                  refine an_take (i := 2) (k := 14) rfl hk (by kernel_rfl) (by kernel_rfl) (by kernel_rfl) (y_move hk rfl) (fun _ => rfl) rfl (fun a hk => ?_) rfl
                  refine an_take (i := 6) (k := 13) rfl hk (by kernel_rfl) (by kernel_rfl) (by kernel_rfl) (y_move hk rfl) (fun _ => rfl) rfl (fun a hk => ?_) rfl
                  have hsl0 : SlT (T.map tkC) vl w := (by first | exact St.rdT hS (by assumption) | exact OwT.rd (hS.rd (A := OwT _ _ _) (by (repeat (first | exact At.here | apply At.there)))) | assumption)
                  refine an_take (i := 3) (k := 12) rfl hk (by kernel_rfl) (by kernel_rfl) (by kernel_rfl) (y_ixT (i := a2) hk hsl0 (by omega) (eT rfl) (zT rfl) rfl rfl) (fun _ => rfl) rfl (fun a hk => ?_) rfl
                  refine an_take (i := 4) (k := 11) rfl hk (by kernel_rfl) (by kernel_rfl) (by kernel_rfl) (y_field hk (fT rfl) rfl) (fun _ => rfl) rfl (fun a hk => ?_) rfl
                  clear hsl0
                  try clear ih htl htt hw2 htl3 htt3 hw3' htl2 htt2 hdr hg hgm hdr2 hg2 hgm2
                  refine an_cut (fun a w => ∃ (m : Itm) (hc' ha' hs' : Hd) (vs' : Value) (ok : Bool) (b12 : Nat), Kn [] 131 a [(0, vl), (1, .int .i64 (a2 : Int)), (2, .int .i64 (op : Int)), (6, .pointer (some ⟨b6, 0, none⟩)), (9, .pointer (some ⟨b9, 0, none⟩)), (10, .pointer (some ⟨b10, 0, none⟩)), (12, .pointer (some ⟨b12, 0, none⟩)), (94, .agg (ndC m.k m.tag m.key hc' ha' hs' m.o hh).toArray), (95, vs'), (96, .bool ok)] ∧ ItS B (pts b12 nd0 42 :: pts b10 (ndC k tag key hc ha hss (e, lv, mo, d, p1, p2) hh) 42 :: OwT 42 H hh.v :: forR kids H :: pts b9 nd0 42 :: pts b6 nd0 42 :: OwT 52 (T.map tkC) vl :: L) it m hc' ha' hs' vs' ok w) 3 #[true, true, true, true, true, true, true, true, true, true, true, true, true, false, false, false] (fun a w hJ => ?_) (fun hC => ?_)
                  · clear hk hS
                    obtain ⟨m, hc', ha', hs', vs', ok, b12, hk, hI⟩ := hJ
                    refine an_step (i := 13) (rs := []) (by kernel_rfl) ?_
                    intro jx hjx
                    simp only [List.mem_cons, List.not_mem_nil, or_false] at hjx
                    subst hjx
                    cases it with
                    | none =>
                      obtain ⟨rfl, hS⟩ := hI
                      refine an_opu (i := 13) rfl hk (g_store hk hS (fun w hS a hk => ?_) (hsz := zT rfl))
                      refine an_take (i := 14) (k := 1) rfl hk (by kernel_rfl) (by kernel_rfl) (by kernel_rfl) (y_assign hk rfl) (fun _ => rfl) rfl (fun a hk => ?_) rfl
                      refine an_take (i := 15) (k := 0) rfl hk (by kernel_rfl) (by kernel_rfl) (by kernel_rfl) (y_assign hk rfl) (fun _ => rfl) rfl (fun a hk => ?_) rfl
                      exact an_end (by kernel_rfl) (QX.normal ⟨hk.sub (by repeat (first | exact trivial | refine ⟨rfl, ?_⟩)), hS.sub (.cons (by (repeat (first | exact At.here | apply At.there))) (.cons (by (repeat (first | exact At.here | apply At.there))) (.cons (by (repeat (first | exact At.here | apply At.there))) (by (repeat (first | exact Sub.refl | apply Sub.under))))))⟩)
                    | some y =>
                      obtain ⟨mm, more⟩ := y
                      obtain ⟨rfl, rfl, hS⟩ := hI
                      refine an_opu (i := 13) rfl hk (g_store hk hS (fun w hS a hk => ?_) (hsz := zT rfl))
                      refine an_take (i := 14) (k := 1) rfl hk (by kernel_rfl) (by kernel_rfl) (by kernel_rfl) (y_assign hk rfl) (fun _ => rfl) rfl (fun a hk => ?_) rfl
                      refine an_take (i := 15) (k := 0) rfl hk (by kernel_rfl) (by kernel_rfl) (by kernel_rfl) (y_assign hk rfl) (fun _ => rfl) rfl (fun a hk => ?_) rfl
                      exact an_end (by kernel_rfl) (QX.normal ⟨hc', ha', hs', vs', b12, hk.sub (by repeat (first | exact trivial | refine ⟨rfl, ?_⟩)), hS.sub (by (repeat (first | exact Sub.nil | exact Sub.refl | refine Sub.cons (by (repeat (first | exact At.here | apply At.there))) ?_)))⟩)
                  refine an_cut (fun a w => ∃ b12 : Nat, Kn [] 131 a [(0, vl), (1, .int .i64 (a2 : Int)), (2, .int .i64 (op : Int)), (6, .pointer (some ⟨b6, 0, none⟩)), (9, .pointer (some ⟨b9, 0, none⟩)), (10, .pointer (some ⟨b10, 0, none⟩)), (12, .pointer (some ⟨b12, 0, none⟩)), (86, .agg (ndC k tag key hc ha hss (e, lv, mo, d, p1, p2) hh).toArray), (91, .string ge.txt), (92, vs)] ∧ St B (OwT 9 cl hc.v :: OwT 73 al ha.v :: OwT 75 sl hss.v :: OwT 9 seen vs :: pts b12 nd0 42 :: pts b10 (ndC k tag key hc ha hss (e, lv, mo, d, p1, p2) hh) 42 :: OwT 42 H hh.v :: forR kids H :: pts b9 nd0 42 :: pts b6 nd0 42 :: OwT 52 (T.map tkC) vl :: L) w) 8 #[true, true, true, true, true, true, true, false, false, false, false, false, true, false, false, false] (fun a w hJ => ?_) (fun hB => ?_)
                  · clear hk hS
                    obtain ⟨b12, hk, hS⟩ := hJ
                    refine an_step (i := 7) (rs := []) (by kernel_rfl) ?_
                    intro jx hjx
                    simp only [List.mem_cons, List.not_mem_nil, or_false] at hjx
                    subst hjx
                    refine an_op (i := 7) rfl hk (g_callO hk (hf := by kernel_rfl) (hc := item8_any (L := pts b12 nd0 42 :: pts b10 (ndC k tag key hc ha hss (e, lv, mo, d, p1, p2) hh) 42 :: OwT 42 H hh.v :: forR kids H :: pts b9 nd0 42 :: pts b6 nd0 42 :: OwT 52 (T.map tkC) vl :: L) k tag key cl al sl hc ha hss hh (e, lv, mo, d, p1, p2) ge.txt seen vs hw5 (by omega) (by omega) (by omega) (by omega) (by omega) ht (hS.sub (by (repeat (first | exact Sub.nil | exact Sub.refl | refine Sub.cons (by (repeat (first | exact At.here | apply At.there))) ?_))))) (h := fun vr w hS a hk => ?_)) rfl
                    rw [hit] at hS
                    obtain ⟨m, hc', ha', hs', vs', ok, rfl, hI⟩ := ItR.flat hS
                    clear hS
                    refine an_take (i := 8) (k := 6) rfl hk (by kernel_rfl) (by kernel_rfl) (by kernel_rfl) (y_move hk rfl) (fun _ => rfl) rfl (fun a hk => ?_) rfl
                    refine an_take (i := 9) (k := 5) rfl hk (by kernel_rfl) (by kernel_rfl) (by kernel_rfl) (y_ext hk rfl rfl) (fun _ => rfl) rfl (fun a hk => ?_) rfl
                    refine an_take (i := 10) (k := 4) rfl hk (by kernel_rfl) (by kernel_rfl) (by kernel_rfl) (y_ext hk rfl rfl) (fun _ => rfl) rfl (fun a hk => ?_) rfl
                    refine an_take (i := 11) (k := 3) rfl hk (by kernel_rfl) (by kernel_rfl) (by kernel_rfl) (y_ext hk rfl rfl) (fun _ => rfl) rfl (fun a hk => ?_) rfl
                    exact an_at (hC a w ⟨m, hc', ha', hs', vs', ok, b12, hk.sub (by repeat (first | exact trivial | refine ⟨rfl, ?_⟩)), hI⟩) (by kernel_rfl)
                  refine an_cut (fun a w => Kn [] 131 a [(0, vl), (1, .int .i64 (a2 : Int)), (2, .int .i64 (op : Int)), (6, .pointer (some ⟨b6, 0, none⟩)), (9, .pointer (some ⟨b9, 0, none⟩)), (10, .pointer (some ⟨b10, 0, none⟩)), (86, .agg (ndC k tag key hc ha hss (e, lv, mo, d, p1, p2) hh).toArray), (91, .string ge.txt), (92, vs)] ∧ St B (OwT 9 cl hc.v :: OwT 73 al ha.v :: OwT 75 sl hss.v :: OwT 9 seen vs :: pts b10 (ndC k tag key hc ha hss (e, lv, mo, d, p1, p2) hh) 42 :: OwT 42 H hh.v :: forR kids H :: pts b9 nd0 42 :: pts b6 nd0 42 :: OwT 52 (T.map tkC) vl :: L) w) 9 #[true, true, true, true, true, true, true, false, false, false, false, false, false, false, false, false] (fun a w hJ => ?_) (fun hA => ?_)
                  · clear hk hS
                    obtain ⟨hk, hS⟩ := hJ
                    refine an_step (i := 7) (rs := [12]) (by kernel_rfl) ?_
                    intro jx hjx
                    simp only [List.mem_cons, List.not_mem_nil, or_false] at hjx
                    rcases hjx with rfl | rfl
                    · refine an_op (i := 7) rfl hk (g_callO hk (hf := by kernel_rfl) (hc := item8_any (L := pts b10 (ndC k tag key hc ha hss (e, lv, mo, d, p1, p2) hh) 42 :: OwT 42 H hh.v :: forR kids H :: pts b9 nd0 42 :: pts b6 nd0 42 :: OwT 52 (T.map tkC) vl :: L) k tag key cl al sl hc ha hss hh (e, lv, mo, d, p1, p2) ge.txt seen vs hw5 (by omega) (by omega) (by omega) (by omega) (by omega) ht (hS.sub (by (repeat (first | exact Sub.nil | exact Sub.refl | refine Sub.cons (by (repeat (first | exact At.here | apply At.there))) ?_))))) (h := fun vr w hS a hk => ?_)) rfl
                      rw [hit] at hS
                      obtain ⟨m, hc', ha', hs', vs', ok, rfl, hI⟩ := ItR.flat hS
                      clear hS
                      refine an_take (i := 8) (k := 7) rfl hk (by kernel_rfl) (by kernel_rfl) (by kernel_rfl) (y_move hk rfl) (fun _ => rfl) rfl (fun a hk => ?_) rfl
                      refine an_take (i := 9) (k := 6) rfl hk (by kernel_rfl) (by kernel_rfl) (by kernel_rfl) (y_ext hk rfl rfl) (fun _ => rfl) rfl (fun a hk => ?_) rfl
                      refine an_take (i := 10) (k := 5) rfl hk (by kernel_rfl) (by kernel_rfl) (by kernel_rfl) (y_ext hk rfl rfl) (fun _ => rfl) rfl (fun a hk => ?_) rfl
                      refine an_take (i := 11) (k := 4) rfl hk (by kernel_rfl) (by kernel_rfl) (by kernel_rfl) (y_ext hk rfl rfl) (fun _ => rfl) rfl (fun a hk => ?_) rfl
                      refine an_step (i := 12) (rs := []) (by kernel_rfl) ?_
                      intro jx hjx
                      simp only [List.mem_cons, List.not_mem_nil, or_false] at hjx
                      subst hjx
                      cases it with
                      | none =>
                        obtain ⟨rfl, hS⟩ := hI
                        refine an_op (i := 12) rfl hk (g_alloc hk hS (fun w b12 hS a hk => ?_) (oT rfl)) rfl
                        exact an_at (hC a w ⟨m, hc', ha', hs', vs', false, b12, hk.sub (by repeat (first | exact trivial | refine ⟨rfl, ?_⟩)), rfl, hS.sub (by (repeat (first | exact Sub.nil | exact Sub.refl | refine Sub.cons (by (repeat (first | exact At.here | apply At.there))) ?_)))⟩) (by kernel_rfl)
                      | some y =>
                        obtain ⟨mm, more⟩ := y
                        obtain ⟨rfl, rfl, hS⟩ := hI
                        refine an_op (i := 12) rfl hk (g_alloc hk hS (fun w b12 hS a hk => ?_) (oT rfl)) rfl
                        exact an_at (hC a w ⟨m, hc', ha', hs', vs', true, b12, hk.sub (by repeat (first | exact trivial | refine ⟨rfl, ?_⟩)), rfl, rfl, hS.sub (by (repeat (first | exact Sub.nil | exact Sub.refl | refine Sub.cons (by (repeat (first | exact At.here | apply At.there))) ?_)))⟩) (by kernel_rfl)
                    · refine an_op (i := 12) rfl hk (g_alloc hk hS (fun w b12 hS a hk => ?_) (oT rfl)) rfl
                      exact an_at (hB a w ⟨b12, hk.sub (by repeat (first | exact trivial | refine ⟨rfl, ?_⟩)), hS.sub (by (repeat (first | exact Sub.nil | exact Sub.refl | refine Sub.cons (by (repeat (first | exact At.here | apply At.there))) ?_)))⟩) (by kernel_rfl)
                  refine an_step (i := 0) (rs := [5, 12]) (by kernel_rfl) ?_
                  intro jx hjx
                  simp only [List.mem_cons, List.not_mem_nil, or_false] at hjx
                  rcases hjx with rfl | rfl | rfl
                  · refine an_op (i := 0) rfl hk (g_ownN hk hS (fun a hk => ?_) (aT rfl) (zT rfl)) rfl
                    refine an_step (i := 5) (rs := [12]) (by kernel_rfl) ?_
                    intro jx hjx
                    simp only [List.mem_cons, List.not_mem_nil, or_false] at hjx
                    rcases hjx with rfl | rfl
                    · refine an_op (i := 5) rfl hk (g_ldTF (i := a2) (e := tkC ge) hk (fun a hk => ?_) (aT rfl) rfl (by first | exact St.rdT hS (by assumption) | exact OwT.rd (hS.rd (A := OwT _ _ _) (by (repeat (first | exact At.here | apply At.there)))) | assumption) hgm3 rfl) rfl
                      exact an_at (hA a w ⟨hk.sub (by repeat (first | exact trivial | refine ⟨rfl, ?_⟩)), hS.sub (by (repeat (first | exact Sub.nil | exact Sub.refl | refine Sub.cons (by (repeat (first | exact At.here | apply At.there))) ?_)))⟩) (by kernel_rfl)
                    · refine an_op (i := 12) rfl hk (g_alloc hk hS (fun w b12 hS a hk => ?_) (oT rfl)) rfl
                      refine an_step (i := 5) (rs := []) (by kernel_rfl) ?_
                      intro jx hjx
                      simp only [List.mem_cons, List.not_mem_nil, or_false] at hjx
                      subst hjx
                      refine an_op (i := 5) rfl hk (g_ldTF (i := a2) (e := tkC ge) hk (fun a hk => ?_) (aT rfl) rfl (by first | exact St.rdT hS (by assumption) | exact OwT.rd (hS.rd (A := OwT _ _ _) (by (repeat (first | exact At.here | apply At.there)))) | assumption) hgm3 rfl) rfl
                      exact an_at (hB a w ⟨b12, hk.sub (by repeat (first | exact trivial | refine ⟨rfl, ?_⟩)), hS.sub (by (repeat (first | exact Sub.nil | exact Sub.refl | refine Sub.cons (by (repeat (first | exact At.here | apply At.there))) ?_)))⟩) (by kernel_rfl)
                  · refine an_op (i := 5) rfl hk (g_ldTF (i := a2) (e := tkC ge) hk (fun a hk => ?_) (aT rfl) rfl (by first | exact St.rdT hS (by assumption) | exact OwT.rd (hS.rd (A := OwT _ _ _) (by (repeat (first | exact At.here | apply At.there)))) | assumption) hgm3 rfl) rfl
                    refine an_step (i := 0) (rs := [12]) (by kernel_rfl) ?_
                    intro jx hjx
                    simp only [List.mem_cons, List.not_mem_nil, or_false] at hjx
                    rcases hjx with rfl | rfl
                    · refine an_op (i := 0) rfl hk (g_ownN hk hS (fun a hk => ?_) (aT rfl) (zT rfl)) rfl
                      exact an_at (hA a w ⟨hk.sub (by repeat (first | exact trivial | refine ⟨rfl, ?_⟩)), hS.sub (by (repeat (first | exact Sub.nil | exact Sub.refl | refine Sub.cons (by (repeat (first | exact At.here | apply At.there))) ?_)))⟩) (by kernel_rfl)
                    · refine an_op (i := 12) rfl hk (g_alloc hk hS (fun w b12 hS a hk => ?_) (oT rfl)) rfl
                      refine an_step (i := 0) (rs := []) (by kernel_rfl) ?_
                      intro jx hjx
                      simp only [List.mem_cons, List.not_mem_nil, or_false] at hjx
                      subst hjx
                      refine an_op (i := 0) rfl hk (g_ownN hk hS (fun a hk => ?_) (aT rfl) (zT rfl)) rfl
                      exact an_at (hB a w ⟨b12, hk.sub (by repeat (first | exact trivial | refine ⟨rfl, ?_⟩)), hS.sub (by (repeat (first | exact Sub.nil | exact Sub.refl | refine Sub.cons (by (repeat (first | exact At.here | apply At.there))) ?_)))⟩) (by kernel_rfl)
                  · refine an_op (i := 12) rfl hk (g_alloc hk hS (fun w b12 hS a hk => ?_) (oT rfl)) rfl
                    refine an_step (i := 0) (rs := [5]) (by kernel_rfl) ?_
                    intro jx hjx
                    simp only [List.mem_cons, List.not_mem_nil, or_false] at hjx
                    rcases hjx with rfl | rfl
                    · refine an_op (i := 0) rfl hk (g_ownN hk hS (fun a hk => ?_) (aT rfl) (zT rfl)) rfl
                      refine an_step (i := 5) (rs := []) (by kernel_rfl) ?_
                      intro jx hjx
                      simp only [List.mem_cons, List.not_mem_nil, or_false] at hjx
                      subst hjx
                      refine an_op (i := 5) rfl hk (g_ldTF (i := a2) (e := tkC ge) hk (fun a hk => ?_) (aT rfl) rfl (by first | exact St.rdT hS (by assumption) | exact OwT.rd (hS.rd (A := OwT _ _ _) (by (repeat (first | exact At.here | apply At.there)))) | assumption) hgm3 rfl) rfl
                      exact an_at (hB a w ⟨b12, hk.sub (by repeat (first | exact trivial | refine ⟨rfl, ?_⟩)), hS.sub (by (repeat (first | exact Sub.nil | exact Sub.refl | refine Sub.cons (by (repeat (first | exact At.here | apply At.there))) ?_)))⟩) (by kernel_rfl)
                    · refine an_op (i := 5) rfl hk (g_ldTF (i := a2) (e := tkC ge) hk (fun a hk => ?_) (aT rfl) rfl (by first | exact St.rdT hS (by assumption) | exact OwT.rd (hS.rd (A := OwT _ _ _) (by (repeat (first | exact At.here | apply At.there)))) | assumption) hgm3 rfl) rfl
                      refine an_step (i := 0) (rs := []) (by kernel_rfl) ?_
                      intro jx hjx
                      simp only [List.mem_cons, List.not_mem_nil, or_false] at hjx
                      subst hjx
                      refine an_op (i := 0) rfl hk (g_ownN hk hS (fun a hk => ?_) (aT rfl) (zT rfl)) rfl
                      exact an_at (hB a w ⟨b12, hk.sub (by repeat (first | exact trivial | refine ⟨rfl, ?_⟩)), hS.sub (by (repeat (first | exact Sub.nil | exact Sub.refl | refine Sub.cons (by (repeat (first | exact At.here | apply At.there))) ?_)))⟩) (by kernel_rfl)
              · rw [if_neg c4] at hR
                have ih2 := ih m2 (by omega) i2 (op + 1) a2
                rw [hT] at ih2
                (repeat' (first | (show wpListIn _ _ _ _ _ (_ :: _) _ _; first | (refine wx1 ?_; clear hk a; intro a hk) | (refine wx2 ?_ ?_ <;> (intro hp; clear hk a; intro a hk)) | (refine wx3 ?_; clear hk hS a; intro w b hS a hk) | (refine wx4 ?_; clear hk hS a; intro w hS a hk) | (refine wx5 ?_; clear hk hS a; intro w v hS a hk) | fail) | refine wx0 ?_ | (refine s_end hk ?_; clear hk a; intro a hk) | fail))
                rw [show ((op : Int) + 1) = ((op + 1 : Nat) : Int) by omega] at hk
                refine sg hk (g_callO hk (hf := by kernel_rfl) (hc := ih2 _ _ _ hi2 (by omega) (by omega) hdr3 ht (hS.sub (.cons (by (repeat (first | exact At.here | apply At.there))) .refl))) (h := ?_)); clear hk hS a; intro vr w hS a hk
                cases hv : viewF s m2 i2 (op + 1) with
                | no p e0 =>
                  rw [hv] at hS hR
                  obtain ⟨a3, tk, rfl, ht3, hp3, he3, hS⟩ := hS
                  rw [hT] at ht3 hS
                  (repeat' (first | (show wpListIn _ _ _ _ _ (_ :: _) _ _; first | (refine wx1 ?_; clear hk a; intro a hk) | (refine wx2 ?_ ?_ <;> (intro hp; clear hk a; intro a hk)) | (refine wx3 ?_; clear hk hS a; intro w b hS a hk) | (refine wx4 ?_; clear hk hS a; intro w hS a hk) | (refine wx5 ?_; clear hk hS a; intro w v hS a hk) | fail) | refine wx0 ?_ | (refine s_end hk ?_; clear hk a; intro a hk) | fail))
                  refine done3R hk rfl (.str hS (hT := aT rfl) (hs := zT rfl)) (.tmp rfl) (.tmp rfl) (h := ?_)
                  rw [← hR]
                  exact ⟨a3, tk, rfl, by rw [hT]; exact ht3, hp3, he3, by rw [hT]; exact hS.sub (.cons (by (repeat (first | exact At.here | apply At.there))) (by (repeat (first | exact Sub.refl | apply Sub.under))))⟩
                | ok t3 j =>
                  rw [hv] at hS hR
                  obtain ⟨u, a3, rfl, hd3, hS⟩ := hS
                  rw [hT] at hd3 hS
                  obtain ⟨⟨k2, tag2, key2, text2, ⟨x12, x22, x32⟩, ⟨y12, y22, y32⟩, ⟨z12, z22, z32⟩, ⟨e2, lv2, mm2, d2, pp2, qq2⟩, ⟨u12, u22, u32⟩⟩, rfl, hS1⟩ := St.tree hS .here
                  clear hS
                  have hS := hS1
                  clear hS1
                  simp only at hR
                  obtain ⟨hj1, hj2⟩ := (view_pos s m2).1 _ _ _ _ hv
                  (repeat' (first | (show wpListIn _ _ _ _ _ (_ :: _) _ _; first | (refine wx1 ?_; clear hk a; intro a hk) | (refine wx2 ?_ ?_ <;> (intro hp; clear hk a; intro a hk)) | (refine wx3 ?_; clear hk hS a; intro w b hS a hk) | (refine wx4 ?_; clear hk hS a; intro w hS a hk) | (refine wx5 ?_; clear hk hS a; intro w v hS a hk) | fail) | refine wx0 ?_ | (refine s_end hk ?_; clear hk a; intro a hk) | fail))
                  have hHl := (hS.foR (ts := kids) (H := H) (by (repeat (first | exact At.here | apply At.there)))).1
                  refine wp_drawn 7 mixed (by kernel_rfl) hk hS ?_; clear hk hS a
                  refine' obe_res (fun us a w hk hd hS => ?_) ?_; rotate_left; focus (have hk := Kn.vw hk (by repeat (first | exact VW.nil | apply VW.val rfl | apply VW.base rfl rfl | apply VW.res rfl | apply VW.upd rfl | apply VW.cpy rfl | apply VW.dep rfl | apply VW.fn rfl | apply VW.lnd rfl | apply VW.tak rfl)); exact v_bs0 (hT := eT rfl) (hE := zT rfl))
                  (repeat' (first | (show ObxE _ _ _ _ _ _ _ _ _ (_ :: _) _ _ _; first | refine ox1 ?_ | (refine ox2 ?_ ?_ <;> intro hp) | fail) | fail))
                  refine' obe_lnd 6 (p := fun _ => True) (V := appH 42 H) (fun us a w hk hd hS => ?_) ?_
                  · have hk := Kn.vw hk (by repeat (first | exact VW.nil | apply VW.val rfl | apply VW.base rfl rfl | apply VW.res rfl | apply VW.upd rfl | apply VW.cpy rfl | apply VW.dep rfl | apply VW.fn rfl | apply VW.lnd rfl | apply VW.tak rfl))
                    exact (v_appR (ys := H) hk hd.1 (hT := eT rfl) (hTx := eT rfl) (hE := zT rfl) (hz := oT rfl) (hzs := rfl) (hs := (by first | exact St.rdT hS (by assumption) | exact OwT.rd (hS.rd (A := OwT _ _ _) (by (repeat (first | exact At.here | apply At.there)))) | assumption)) (hby := bT rfl) (hbytes := by omega) (h63 := by simp only [maxLen]; omega)).mono (fun _ _ h => St.tru h)
                  (repeat' (first | (show ObxE _ _ _ _ _ _ _ _ _ (_ :: _) _ _ _; first | refine ox1 ?_ | (refine ox2 ?_ ?_ <;> intro hp) | fail) | fail))
                  refine' obe_res (fun us a w hk hd hS => ?_) ?_; rotate_left; focus (have hk := Kn.vw hk (by repeat (first | exact VW.nil | apply VW.val rfl | apply VW.base rfl rfl | apply VW.res rfl | apply VW.upd rfl | apply VW.cpy rfl | apply VW.dep rfl | apply VW.fn rfl | apply VW.lnd rfl | apply VW.tak rfl)); exact v_bsT (xs := [((k2, tag2, key2, text2, ⟨x12, x22, x32⟩, ⟨y12, y22, y32⟩, ⟨z12, z22, z32⟩, (e2, lv2, mm2, d2, pp2, qq2), ⟨u12, u22, u32⟩) : NdH)]) (m := 0) hk (hT := eT rfl) (hE := zT rfl) (hz := oT rfl))
                  refine' obe_tak 122 3 (V := appH 42 (H ++ [((k2, tag2, key2, text2, ⟨x12, x22, x32⟩, ⟨y12, y22, y32⟩, ⟨z12, z22, z32⟩, (e2, lv2, mm2, d2, pp2, qq2), ⟨u12, u22, u32⟩) : NdH)])) (fun us a w X hk hd hS hL => ?_) ?_
                  · have hk := Kn.vw hk (by repeat (first | exact VW.nil | apply VW.val rfl | apply VW.base rfl rfl | apply VW.res rfl | apply VW.upd rfl | apply VW.cpy rfl | apply VW.dep rfl | apply VW.fn rfl | apply VW.lnd rfl | apply VW.tak rfl))
                    exact v_app2 hk hS (hT := eT rfl) (hTx := eT rfl) (hE := zT rfl) (hz := oT rfl) (hzs := rfl) (hs := OwT.rd hd.2.1) (hby := bT rfl) (hbytes := by simp only [List.length_cons, List.length_nil]; omega) (h63 := by simp only [List.length_cons, List.length_nil, maxLen]; omega)
                  refine obe_nil ⟨rfl, ?_⟩; intro us a w hk hS
                  simp only [resE, List.cons_append, List.nil_append, Nat.zero_add, Nat.reduceAdd] at hS
                  replace hk := Kn.kp [0, 1, 2, 6, 9, 10, 11, 16, 125] hk
                  simp only [HV.of, Nat.zero_add, Nat.reduceAdd] at hk
                  rename Nat → Value => us
                  generalize us 6 = v125 at hS hk
                  rw [appH_ne] at hS
                  obtain ⟨aov125, cv125, hshp, _⟩ := (OwT.rd (hS.rd (A := OwT 42 _ v125) (by (repeat (first | exact At.here | apply At.there))))).shape; subst hshp
                  (repeat' (first | (show wpListIn _ _ _ _ _ (_ :: _) _ _; first | (refine wx1 ?_; clear hk a; intro a hk) | (refine wx2 ?_ ?_ <;> (intro hp; clear hk a; intro a hk)) | (refine wx3 ?_; clear hk hS a; intro w b hS a hk) | (refine wx4 ?_; clear hk hS a; intro w hS a hk) | (refine wx5 ?_; clear hk hS a; intro w v hS a hk) | fail) | refine wx0 ?_ | (refine s_end hk ?_; clear hk a; intro a hk) | fail))
                  have hS1 := forR.snoc (ts := kids) (H := H) (t := t3) (h := ((k2, tag2, key2, text2, ⟨x12, x22, x32⟩, ⟨y12, y22, y32⟩, ⟨z12, z22, z32⟩, (e2, lv2, mm2, d2, pp2, qq2), ⟨u12, u22, u32⟩) : NdH)) (hS.sub (.cons (by (repeat (first | exact At.here | apply At.there))) (.cons (by (repeat (first | exact At.here | apply At.there))) (by (repeat (first | exact Sub.refl | apply Sub.under))))))
                  exact ⟨⟨j, m2, a3, ⟨k, tag, key, cl, al, sl, (e, lv, mo, d, p1, p2)⟩, seen, kids ++ [t3], H ++ [((k2, tag2, key2, text2, ⟨x12, x22, x32⟩, ⟨y12, y22, y32⟩, ⟨z12, z22, z32⟩, (e2, lv2, mm2, d2, pp2, qq2), ⟨u12, u22, u32⟩) : NdH)], hc, ha, hss, ⟨aov125, (H ++ [((k2, tag2, key2, text2, ⟨x12, x22, x32⟩, ⟨y12, y22, y32⟩, ⟨z12, z22, z32⟩, (e2, lv2, mm2, d2, pp2, qq2), ⟨u12, u22, u32⟩) : NdH)]).length, cv125⟩, vs⟩, by show s.size - j < s.size - i2; omega, hk.sd, hS1.sub (.cons (by (repeat (first | exact At.here | apply At.there))) (.cons (by (repeat (first | exact At.here | apply At.there))) (.cons (by (repeat (first | exact At.here | apply At.there))) (.cons (by (repeat (first | exact At.here | apply At.there))) (.cons (by (repeat (first | exact At.here | apply At.there))) (.cons (by (repeat (first | exact At.here | apply At.there))) (.cons (by (repeat (first | exact At.here | apply At.there))) (.cons (by (repeat (first | exact At.here | apply At.there))) (.cons (by (repeat (first | exact At.here | apply At.there))) (.cons (by (repeat (first | exact At.here | apply At.there))) (by (repeat (first | exact Sub.refl | apply Sub.under))))))))))))), hR, hj2, by show 2 * (s.size - j) + 3 ≤ m2; omega, by show m2 ≤ m; omega, hd3,
                    by show cl.length ≤ j; omega, by show al.length ≤ j; omega, by show sl.length ≤ j; omega, by show (kids ++ [t3]).length ≤ j; rw [List.length_append, List.length_cons, List.length_nil]; omega, by show seen.length ≤ j; omega⟩
        · rw [if_neg (fun h => k4 h.1)] at hR
          (repeat' (first | (show wpListIn _ _ _ _ _ (_ :: _) _ _; first | (refine wx1 ?_; clear hk a; intro a hk) | (refine wx2 ?_ ?_ <;> (intro hp; clear hk a; intro a hk)) | (refine wx3 ?_; clear hk hS a; intro w b hS a hk) | (refine wx4 ?_; clear hk hS a; intro w hS a hk) | (refine wx5 ?_; clear hk hS a; intro w v hS a hk) | fail) | refine wx0 ?_ | (refine s_end hk ?_; clear hk a; intro a hk) | fail))
          refine done3R hk rfl (.str hS (hT := aT rfl) (hs := zT rfl)) (.tmp rfl) (.tmp rfl) (h := ?_)
          rw [hR]
          exact ⟨a0 + 1, g2, rfl, by rw [hT]; exact hg2, rfl, by decide, by rw [hT]; exact hS.sub (.cons (by (repeat (first | exact At.here | apply At.there))) (by (repeat (first | exact Sub.refl | apply Sub.under))))⟩
    · rw [if_neg k1] at hR
      (repeat' (first | (show wpListIn _ _ _ _ _ (_ :: _) _ _; first | (refine wx1 ?_; clear hk a; intro a hk) | (refine wx2 ?_ ?_ <;> (intro hp; clear hk a; intro a hk)) | (refine wx3 ?_; clear hk hS a; intro w b hS a hk) | (refine wx4 ?_; clear hk hS a; intro w hS a hk) | (refine wx5 ?_; clear hk hS a; intro w v hS a hk) | fail) | refine wx0 ?_ | (refine s_end hk ?_; clear hk a; intro a hk) | fail))
      refine done3R hk rfl (.str hS (hT := aT rfl) (hs := zT rfl)) (.tmp rfl) (.tmp rfl) (h := ?_)
      rw [hR]
      exact ⟨a0, g, rfl, by rw [hT]; exact hg, rfl, by decide, by rw [hT]; exact hS.sub (.cons (by (repeat (first | exact At.here | apply At.there))) (by (repeat (first | exact Sub.refl | apply Sub.under))))⟩
end
end Go.Proofs.YtipdgobplfkipaaGreatDoor
namespace Go.Proofs.YtipdgobplfkipaaGreatDoor

abbrev TK := Nat × ByteArray
def bare (l : List Tok) : List TK := l.map (fun t => (t.kind, t.txt))
inductive Rl (α : Type) where
  | ok (x : α) (r : List TK)
  | no (r : List TK) (e : Int)
mutual
def viewL : Nat → List TK → Nat → Rl Tree
  | 0, l, _ => .no l 0
  | f + 1, l, op => match l with
    | [] => .no l 2
    | (k, x) :: r =>
      if k = 3 then .ok (.mk 1 ⟨#[]⟩ ⟨#[]⟩ x [] [] [] o0 []) r
      else if k = 1 then
        if 40 ≤ op then .no l 7
        else match r with
          | [] => .no r 2
          | (k', x') :: q => if k' = 4 ∧ nameS x' = true then elemL f q (op + 1) ⟨2, x', ⟨#[]⟩, [], [], [], o0⟩ [] [] else .no r 2
      else .no l 2
def elemL : Nat → List TK → Nat → Itm → List ByteArray → List Tree → Rl Tree
  | 0, l, _, _, _, _ => .no l 0
  | f + 1, l, op, n, seen, kids => match l with
    | [] => .no l 2
    | (k, x) :: r =>
      if k = 2 then .ok (n.tree kids) r
      else if k = 4 then
        match itemF n x seen with
        | some (m, more) => elemL f r op m more kids
        | none => .no l 2
      else
        match viewL f l op with
        | .ok t q => elemL f q op n seen (kids ++ [t])
        | .no a e => .no a e
end
def RdT (s : ByteArray) (a : Rd Tree) (b : Rl Tree) : Prop := match a with
  | .ok t j => b = .ok t (bare (toksL s j))
  | .no p e => ∃ r, b = .no r e ∧ (e ≠ 0 → ∃ q, (tokF s q).at_ = p ∧ r = bare (toksL s q))
def parseL (l : List TK) : Option Tree × Int := match viewL (l.length + 1) l 0 with
  | .ok t r => match r with
    | (0, _) :: _ => (some t, 0)
    | _ => (none, 2)
  | .no _ e => (none, e)
def Rd.bare : Rd Tree → Option Tree × Int
  | .ok t _ => (some t, 0)
  | .no _ e => (none, e)
end Go.Proofs.YtipdgobplfkipaaGreatDoor
namespace Go.Proofs.YtipdgobplfkipaaGreatDoor

def spL : TK → List UInt8
  | (1, _) => [40]
  | (2, _) => [41]
  | (3, x) => 39 :: x.data.toList ++ [39]
  | (4, x) => x.data.toList
  | _ => []
def TkOk : TK → Prop
  | (0, x) => x = ⟨#[]⟩
  | (1, x) => x = ⟨#[]⟩
  | (2, x) => x = ⟨#[]⟩
  | (3, x) => x.data.toList.all nqB = true ∧ x.data.toList.all priL = true
  | (4, x) => x.data.toList ≠ [] ∧ x.data.toList.all visB = true
  | _ => False
def SpOk : List (Nat × TK) → Prop
  | [] => False
  | [(_, t)] => t = (0, ⟨#[]⟩)
  | (_, t) :: (n, u) :: r => t.1 ≠ 0 ∧ TkOk t ∧ (t.1 = 4 → u.1 = 4 → 1 ≤ n) ∧ SpOk ((n, u) :: r)
def spAll : List (Nat × TK) → List UInt8
  | [] => []
  | (n, t) :: r => List.replicate n 32 ++ (spL t ++ spAll r)
def Blanked (s : ByteArray) (i : Nat) (L : List (Nat × TK)) : Prop := L.map (·.2) = bare (toksL s i) ∧ (∃ x, L.getLast? = some x ∧ x.2.1 = 0) ∧ ∀ (j n m : Nat) (t u : TK), L[j]? = some (n, t) → L[j + 1]? = some (m, u) → t.1 = 4 → u.1 = 4 → 1 ≤ m
end Go.Proofs.YtipdgobplfkipaaGreatDoor
namespace Go.Proofs.YtipdgobplfkipaaGreatDoor

def neB (b : UInt8) : Bool := !decide (b.toNat = 61)
def addsF : Itm → List ByteArray → Option Itm
  | n, [] => some n
  | n, w :: r => match addF n w with
    | some m => addsF m r
    | none => none
def itB (n : Int) : ByteArray := ⟨(Lib.itoa n).toArray⟩
def kndW (k : Int) : List ByteArray := if k = 3 then [wGroup] else if k = 4 then [wSlot] else []
def keyB (key : ByteArray) : List ByteArray := if key = ⟨#[]⟩ then [] else [⟨#[35]⟩ ++ key]
def durB (nm : ByteArray) (x : Int) : List ByteArray := if x = 0 then [] else [nm ++ ⟨#[61]⟩ ++ itB x]
def mdB (m : Int) : List ByteArray := if m = 1 then [wOutIn] else if m = 2 then [wInOut] else []
def apB (b : Bool) : List ByteArray := if b = true then [wAppear] else []
def mvB (b : Bool) : List ByteArray := if b = true then [wMoves] else []
def itmB (k : Int) (key : ByteArray) (cl : List ByteArray) (al : List (ByteArray × ByteArray)) (sl : List (ByteArray × Int)) (o : Opt) : List ByteArray :=
  keyB key ++ (cl.map (fun c => ⟨#[46]⟩ ++ c) ++ (al.map (fun x => ⟨#[64]⟩ ++ x.1 ++ ⟨#[61]⟩ ++ x.2) ++ (sl.map (fun x => x.1 ++ ⟨#[61]⟩ ++ itB x.2) ++ (kndW k ++ (durB wEnter o.1 ++ (durB wLeave o.2.1 ++ (durB wMove o.2.2.1 ++ (apB o.2.2.2.2.1 ++ (mvB o.2.2.2.2.2 ++ mdB o.2.2.2.1)))))))))
structure ItV (k : Int) (key : ByteArray) (cl : List ByteArray) (al : List (ByteArray × ByteArray)) (sl : List (ByteArray × Int)) (o : Opt) : Prop where
  k : k = 2 ∨ k = 3 ∨ k = 4
  key : key = ⟨#[]⟩ ∨ keyS key = true
  cl : ∀ c ∈ cl, nameS c = true
  al : ∀ x ∈ al, nameS x.1 = true ∧ valS x.2 = true
  sl : ∀ x ∈ sl, nameS x.1 = true ∧ ¬ outR x.2
  o1 : ¬ outR o.1
  o2 : ¬ outR o.2.1
  o3 : ¬ outR o.2.2.1
  o4 : o.2.2.2.1 = 0 ∨ o.2.2.2.1 = 1 ∨ o.2.2.2.1 = 2
def wKind : ByteArray := ⟨#[33, 107, 105, 110, 100]⟩
def wMode : ByteArray := ⟨#[33, 109, 111, 100, 101]⟩
def seenB (k : Int) (key : ByteArray) (al : List (ByteArray × ByteArray)) (sl : List (ByteArray × Int)) (o : Opt) : List ByteArray :=
  (if key = ⟨#[]⟩ then [] else [⟨#[35]⟩]) ++ (al.map (fun x => ⟨#[64]⟩ ++ x.1) ++ (sl.map (fun x => ⟨#[61]⟩ ++ x.1) ++ ((if k = 3 ∨ k = 4 then [wKind] else []) ++ ((if o.1 = 0 then [] else [wEnter]) ++ ((if o.2.1 = 0 then [] else [wLeave]) ++ ((if o.2.2.1 = 0 then [] else [wMove]) ++
    (apB o.2.2.2.2.1 ++ (mvB o.2.2.2.2.2 ++ (if o.2.2.2.1 = 1 ∨ o.2.2.2.1 = 2 then [wMode] else [])))))))))
end Go.Proofs.YtipdgobplfkipaaGreatDoor
namespace Go.Proofs.YtipdgobplfkipaaGreatDoor

def F7 : List ByteArray := [wKind, wEnter, wLeave, wMove, wAppear, wMoves, wMode]
mutual
def tkT : Tree → List TK
  | .mk k tag key text cl al sl o kids => if k = 1 then [(3, text)] else (1, ⟨#[]⟩) :: (4, tag) :: ((itmB k key cl al sl o).map (fun w => (4, w)) ++ (tkL kids ++ [(2, ⟨#[]⟩)]))
def tkL : List Tree → List TK
  | [] => []
  | t :: ts => tkT t ++ tkL ts
end
inductive PrV : Nat → Tree → Prop
  | txt {n : Nat} {text : ByteArray} (h : text.data.toList.all priB = true) : PrV (n + 1) (.mk 1 ⟨#[]⟩ ⟨#[]⟩ text [] [] [] o0 [])
  | elm {n : Nat} {k : Int} {tag key : ByteArray} {cl : List ByteArray} {al : List (ByteArray × ByteArray)} {sl : List (ByteArray × Int)} {o : Opt} {kids : List Tree} (h : ItV k key cl al sl o) (ht : nameS tag = true)
      (ha : (al.map (·.1)).Nodup) (hs : (sl.map (·.1)).Nodup) (hk : ∀ t ∈ kids, PrV n t) : PrV (n + 1) (.mk k tag key ⟨#[]⟩ cl al sl o kids)
end Go.Proofs.YtipdgobplfkipaaGreatDoor
namespace Go.Proofs.YtipdgobplfkipaaGreatDoor

def wdL (ws : List ByteArray) : List UInt8 := ws.flatMap (fun w => 32 :: w.data.toList)
mutual
def prB : Tree → List UInt8
  | .mk k tag key text cl al sl o kids => if k = 1 then 39 :: text.data.toList ++ [39] else 40 :: (tag.data.toList ++ (wdL (itmB k key cl al sl o) ++ (prBL kids ++ [41])))
def prBL : List Tree → List UInt8
  | [] => []
  | t :: ts => 32 :: prB t ++ prBL ts
end
mutual
def spT (n : Nat) : Tree → List (Nat × TK)
  | .mk k tag key text cl al sl o kids => if k = 1 then [(n, (3, text))] else (n, (1, ⟨#[]⟩)) :: (0, (4, tag)) :: ((itmB k key cl al sl o).map (fun w => (1, (4, w))) ++ (spTL kids ++ [(0, (2, ⟨#[]⟩))]))
def spTL : List Tree → List (Nat × TK)
  | [] => []
  | t :: ts => spT 1 t ++ spTL ts
end
def Sp1 (r : List (Nat × TK)) : Prop := SpOk r ∧ ∀ m u q, r = (m, u) :: q → u.1 = 4 → 1 ≤ m
abbrev tk0 : TK := (0, ⟨#[]⟩)
end Go.Proofs.YtipdgobplfkipaaGreatDoor
namespace Go.Proofs.YtipdgobplfkipaaGreatDoor

def addW (s w : ByteArray) : ByteArray := s ++ ⟨#[32]⟩ ++ w
def keyW (key : ByteArray) : List ByteArray := if key = ⟨#[]⟩ then [] else [⟨#[35]⟩ ++ key]
def kindW (k : Int) : List ByteArray := if k = 3 then [wGroup] else if k = 4 then [wSlot] else []
def durW (nm : ByteArray) (x : Int) : List ByteArray := if x = 0 then [] else [nm ++ itoS x]
def modeW (m : Int) : List ByteArray := if m = 1 then [wOutIn] else if m = 2 then [wInOut] else []
def optW (o : Opt) : List ByteArray := durW (wEnter ++ ⟨#[61]⟩) o.1 ++ durW (wLeave ++ ⟨#[61]⟩) o.2.1 ++ durW (wMove ++ ⟨#[61]⟩) o.2.2.1 ++ (if o.2.2.2.2.1 = true then [wAppear] else []) ++ (if o.2.2.2.2.2 = true then [wMoves] else []) ++ modeW o.2.2.2.1
def itmW (k : Int) (key : ByteArray) (cl : List ByteArray) (al : List (ByteArray × ByteArray)) (sl : List (ByteArray × Int)) (o : Opt) : List ByteArray :=
  keyW key ++ cl.map (fun c => ⟨#[46]⟩ ++ c) ++ al.map (fun x => ⟨#[64]⟩ ++ x.1 ++ ⟨#[61]⟩ ++ x.2) ++ sl.map (fun x => x.1 ++ ⟨#[61]⟩ ++ itoS x.2) ++ kindW k ++ optW o
mutual
def prnT : Tree → ByteArray
  | .mk k tag key text cl al sl o kids => if k = 1 then ⟨#[39]⟩ ++ text ++ ⟨#[39]⟩ else ⟨#[40]⟩ ++ (itmW k key cl al sl o ++ prnL kids).foldl addW tag ++ ⟨#[41]⟩
def prnL : List Tree → List ByteArray
  | [] => []
  | t :: ts => prnT t :: prnL ts
end
theorem prnL_app : ∀ (a b : List Tree), prnL (a ++ b) = prnL a ++ prnL b
  | [], b => rfl
  | t :: a, b => by rw [List.cons_append, prnL, prnL, prnL_app a b]; rfl
theorem prnL_map : ∀ l : List Tree, prnL l = l.map prnT
  | [] => rfl
  | t :: l => by rw [prnL, prnL_map l]; rfl
end Go.Proofs.YtipdgobplfkipaaGreatDoor
namespace Go.Proofs.YtipdgobplfkipaaGreatDoor
open Go.RowKit
set_option maxRecDepth 100000
attribute [local irreducible] Go.Code.wpIn Go.wpListIn Go.Calls Gives Go.Exit.then Go.Exit.inBlock Done ObxE

def bldIn (T e : TypeId) (B N b : Nat) (l : List UInt8) (w : World) : Prop :=
  B ≤ b ∧ b < N ∧ N ≤ w.heap.size ∧ ∃ p v, (p = .pointer none ∨ p = .pointer (some ⟨b, 0, none⟩)) ∧ w.heap[b]? = some (.cells #[p, v] T (0, 0)) ∧ w.ownsRow B e 1 v (Lib.byteCells l).length (Lib.byteCells l) ∧ v.ownBlock ≠ some b ∧ ∀ g, v.ownBlock = some g → g < N
theorem bldIn.same {T e : TypeId} {B N b : Nat} {l : List UInt8} {w w' : World} (h : bldIn T e B N b l w) (hf : ∀ k, B ≤ k ∧ k < N → w'.heap[k]? = w.heap[k]?) : bldIn T e B N b l w' := by
  obtain ⟨h1, h2, h3, p, v, hp, hb, ho, hn, hg⟩ := h
  have hN : N ≤ w'.heap.size := by
    have hk := hf (N - 1) ⟨by omega, by omega⟩
    rw [Array.getElem?_eq_getElem (by omega : N - 1 < w.heap.size)] at hk
    have := (Array.getElem?_eq_some_iff.1 hk).1
    omega
  refine ⟨h1, h2, hN, p, v, hp, by rw [hf b ⟨h1, h2⟩]; exact hb, ⟨ho.1, ?_⟩, hn, hg⟩
  rcases ho.2 with hz | ⟨g, cap, cur, rfl, hBg, hgg, rest⟩
  · exact .inl hz
  · exact .inr ⟨g, cap, cur, rfl, hBg, by rw [hf g ⟨hBg, hg g rfl⟩]; exact hgg, rest⟩
def blH (T e : TypeId) (b : Nat) (l : List UInt8) : HP where
  holds F w := ∃ B N, (∀ k, F k ↔ B ≤ k ∧ k < N) ∧ bldIn T e B N b l w
  stable := fun F w w' ⟨B, N, hF, h⟩ hs => ⟨B, N, hF, h.same fun k hk => hs k ((hF k).2 hk)⟩
  dom := fun F w k ⟨B, N, hF, h⟩ hk => by
    have := (hF k).1 hk
    obtain ⟨_, _, h3, _⟩ := h
    omega
theorem bldIn.is {T e : TypeId} {B N b : Nat} {l : List UInt8} {w : World} (h : bldIn T e B N b l w) : Lib.IsBuilder T e B b (Lib.byteCells l) w := by
  obtain ⟨h1, _, _, p, v, hp, hb, ho, hn, _⟩ := h
  rcases hp with rfl | rfl
  · exact .inl ⟨h1, v, hb, ho, hn⟩
  · exact .inr ⟨h1, v, hb, ho, hn⟩
theorem bldIn.of {T e : TypeId} {B b : Nat} {l : List UInt8} {w : World} (h : Lib.BuilderAt T e B b (.pointer (some ⟨b, 0, none⟩)) (Lib.byteCells l) w) : bldIn T e B w.heap.size b l w := by
  have hlt := h.lt
  obtain ⟨h1, v, hb, ho, hn⟩ := h
  refine ⟨h1, hlt, Nat.le_refl _, _, v, .inr rfl, hb, ho, hn, fun g hg => ?_⟩
  rcases ho.2 with ⟨rfl, _⟩ | ⟨g', cap, cur, rfl, _, hgg, _⟩
  · cases hg
  · simp only [Value.ownBlock, Option.some.injEq] at hg
    subst hg
    exact (Array.getElem?_eq_some_iff.1 hgg).1
theorem St.bld {w0 w : World} {T e : TypeId} {b : Nat} {l : List UInt8} {L L' : List HP} (hS : St w0 L w) (hat : At (blH T e b l) L L') : ∃ B, w0.heap.size ≤ B ∧ B ≤ w.heap.size ∧ Lib.IsBuilder T e B b (Lib.byteCells l) w := by
  obtain ⟨F, hF, hp⟩ := hS.own
  obtain ⟨F1, F2, h1, h2, h3, ⟨B, N, hFB, hb⟩, h5⟩ := hp.pull hat
  have h := hb
  obtain ⟨g1, g2, g3, _⟩ := h
  have hB := (hF B (h1 B ((hFB B).2 ⟨Nat.le_refl _, by omega⟩))).1.1
  exact ⟨B, hB, by omega, hb.is⟩
theorem St.bldOf {w0 w w' : World} {T e : TypeId} {B b : Nat} {l : List UInt8} {L : List HP} (hS : St w0 L w) (hB : w0.heap.size ≤ B) (hw : Below B w w') (h : Lib.BuilderAt T e B b (.pointer (some ⟨b, 0, none⟩)) (Lib.byteCells l) w') : St w0 [blH T e b l] w' := by
  have hbel : Below w0.heap.size w0 w' := hS.below.trans (hw.mono hB)
  refine ⟨hbel, Frz.of_below hbel, fun k => B ≤ k ∧ k < w'.heap.size, fun k hk => ⟨⟨Nat.le_trans hB hk.1, fun hl => ?_⟩, hk.2⟩, ⟨fun k => B ≤ k ∧ k < w'.heap.size, fun _ => False, fun _ h => h, fun _ h => h.elim, fun _ _ h => h, ⟨B, w'.heap.size, fun _ => Iff.rfl, bldIn.of h⟩, trivial⟩⟩
  have := hl.lt
  have := hk.1
  simp only at *
  omega
end Go.Proofs.YtipdgobplfkipaaGreatDoor
