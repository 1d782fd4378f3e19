/- The top (flips): kids of a node in another order lie, moved by their shifts, where they lay. -/
import Derived.Test.YtbpkddpkcnlmhaaGreatF14
import Derived.Test.YtbpkddpkcnlmhaaGreatF18
import Derived.Test.YtbpkddpkcnlmhaaGreatF10
import Derived.Test.YtbpkddpkcnlmhaaGreatF07
set_option linter.all false
namespace Go.Proofs.YtbpkddpkcnlmhaaGreat
open Go.RowKit
theorem and_inF (p : Int) (m : Nat) (hm : m < 9223372036854775808) : 0 ≤ bits .and .i64 p m ∧ bits .and .i64 p m ≤ m := by
 have h : bits .and .i64 p m = IntKind.i64.wrap ((BitVec.ofInt 64 p &&& BitVec.ofInt 64 (m : Int)).toNat : Int) := rfl
 have h2 : (BitVec.ofInt 64 p &&& BitVec.ofInt 64 (m : Int)).toNat ≤ m := by
  rw [BitVec.toNat_and]
  have : (BitVec.ofInt 64 (m : Int)).toNat = m := by
   rw [BitVec.toNat_ofInt]
   omega
  rw [this]
  exact Nat.and_le_right
 rw [h]
 generalize (BitVec.ofInt 64 p &&& BitVec.ofInt 64 (m : Int)).toNat = n at h2
 unfold IntKind.wrap
 simp only [IntKind.bits, IntKind.signed, Bool.true_and]
 split
 ·rename_i hh
  have hh := of_decide_eq_true hh
  omega
 ·omega
theorem cnt_note : ∀ {S : List StepW}, (∀ s ∈ S, s.1 = 3) → cntO (S.map noteS) 4 = (S.map noteS).length
 | [], _ => rfl
 | s :: S, h => by
  have ih := cnt_note (S := S) (fun x hx => h x (List.mem_cons_of_mem _ hx))
  have h3 := h s List.mem_cons_self
  have e : noteS s = (4, s.2.1, s.2.2, 0, ⟨#[]⟩, ⟨#[]⟩) := if_neg (by omega)
  unfold cntO at ih ⊢
  rw [List.map_cons, e, List.filter_cons_of_pos rfl, List.length_cons, List.length_cons, ih]
theorem St.trF {B : Bs} {w : World} {A : HP} (h : St B [A] w) : St B [A, pureH True] w := by
 obtain ⟨F, hF, F1, F2, h1, h2, h3, h4, h5⟩ := h.own
 exact ⟨h.below, h.frz, F, hF, F1, fun _ => False, h1, fun _ h => h.elim, fun _ _ h => h, h4, fun _ => False, fun _ => False, fun _ h => h, fun _ h => h, fun _ h _ => h, ⟨fun _ h => h, trivial⟩, trivial⟩
section
variable {df : List Deferred} {P : Program} {a : Act} {w : World} {n : Nat} {l : List (Nat × Value)} {dst : Option Nat} {ty : TypeId} {pos : String} {af : Array Edge} {g : Option (Nat × Bool)} {R : Value → World → Prop}
theorem g_pT {x y : Operand} {t E k m c : Nat} {ao : Option Addr} {kk : IntKind} (j : Nat) (hk : Kn df n a l) (h : R (.slice (if c = 0 then ao else ao.map (·.add 0)) j c) w)
  (ht : elOf P t = some E) (hE : szOf P E = some k) (hj : j ≤ c) (hx : ev l x = some (.slice ao m c) := by rfl) (hy : ev l y = some (.int kk (j : Int)) := by rfl) : Gives P ⟨dst, .slice t x none (some y) none, ty, pos, af, g⟩ a w R :=
 givesv (v := .slice (if c = 0 then ao else ao.map (·.add 0)) j c) (by simp [execOp, hk.eval hx, hk.eval hy, Instr.sliceAt, Instr.slice, run_underlying (elOf_und ht), Instr.sliceBounds, Instr.sliceBound, asIntOf, hj, szOf_run hE]) h
theorem g_pF {x y : Operand} {t E k m c : Nat} {ao : Option Addr} {kk : IntKind} (i : Nat) (hk : Kn df n a l) (h : R (.slice (if c = i then ao else ao.map (·.add (i * k))) (m - i) (c - i)) w)
  (ht : elOf P t = some E) (hE : szOf P E = some k) (hi : i ≤ m) (hx : ev l x = some (.slice ao m c) := by rfl) (hy : ev l y = some (.int kk ((i : Nat) : Int)) := by rfl) : Gives P ⟨dst, .slice t x (some y) none none, ty, pos, af, g⟩ a w R :=
 givesv (v := .slice (if c = i then ao else ao.map (·.add (i * k))) (m - i) (c - i)) (by simp [execOp, hk.eval hx, hk.eval hy, Instr.sliceAt, Instr.slice, run_underlying (elOf_und ht), Instr.sliceBounds, Instr.sliceBound, asIntOf, hi, szOf_run hE]) h
end
set_option maxRecDepth 100000
attribute [local irreducible] Go.Code.wpIn Go.wpListIn Go.Calls Gives Go.Exit.then Go.Exit.inBlock Done ObxE
set_option maxHeartbeats 32000000 in
theorem flips_any (kids order : List Int) (way : Int) (va vo : Value) (w0 : World) (ha : SlT kids va w0) (ho : SlT order vo w0) :
  Calls Tryz.prog 3 #[va, vo, .int .i64 way] w0 (Ret fun v w => v = .bool true ∧ St w0 [] w) := by
 refine enter Tryz.func3 rfl Tryz.ntmps3 rfl (fun a hk => ?_);have hS := St.refl w0
 (repeat' (first|((first|refine wx1 ?_|refine wx2 ?_ ?_<;>intro hp|refine s_end hk ?_)<;>(clear hk a;intro a hk))|((first|refine wx3 ?_;intro w b|refine wx4 ?_;intro w|refine wx5 ?_;intro w v);clear hk hS a;intro hS a hk)|refine wx0 ?_|fail))
 refine sg hk (g_callO hk (hf := by kernel_rfl) (hc := new5_any 40 _) (h := ?_));clear hk a;rintro vr w ⟨bd, rfl, hS1⟩ a hk;replace hS := hS.call hS1;clear hS1
 rw [List.cons_append, List.nil_append] at hS
 (repeat' (first|((first|refine wx1 ?_|refine wx2 ?_ ?_<;>intro hp|refine s_end hk ?_)<;>(clear hk a;intro a hk))|((first|refine wx3 ?_;intro w b|refine wx4 ?_;intro w|refine wx5 ?_;intro w v);clear hk hS a;intro hS a hk)|refine wx0 ?_|fail))
 refine sg hk (g_callO hk (hf := by kernel_rfl) (hc := on6_any bd _) (h := ?_));clear hk a;rintro vr w ⟨bl, rfl, hS1⟩ a hk;replace hS := hS.call hS1;clear hS1
 rw [List.cons_append, List.nil_append] at hS
 (repeat' (first|((first|refine wx1 ?_|refine wx2 ?_ ?_<;>intro hp|refine s_end hk ?_)<;>(clear hk a;intro a hk))|((first|refine wx3 ?_;intro w b|refine wx4 ?_;intro w|refine wx5 ?_;intro w v);clear hk hS a;intro hS a hk)|refine wx0 ?_|fail))
 refine sg hk (g_pnE hk ?_ (by kernel_rfl));clear hk a;intro a hk
 simp only [Option.isNone_some] at hk
 obtain ⟨ao, c, ht1, -⟩ := trailH.get (hS.rd (A := trailH bl bd []) atx)
 (repeat' (first|((first|refine wx1 ?_|refine wx2 ?_ ?_<;>intro hp|refine s_end hk ?_)<;>(clear hk a;intro a hk))|((first|refine wx3 ?_;intro w b|refine wx4 ?_;intro w|refine wx5 ?_;intro w v);clear hk hS a;intro hS a hk)|refine wx0 ?_|fail))
 refine sg hk (g_pnE hk ?_ (by kernel_rfl));clear hk a;intro a hk
 simp only [Option.isNone_some] at hk
 (repeat' (first|((first|refine wx1 ?_|refine wx2 ?_ ?_<;>intro hp|refine s_end hk ?_)<;>(clear hk a;intro a hk))|((first|refine wx3 ?_;intro w b|refine wx4 ?_;intro w|refine wx5 ?_;intro w v);clear hk hS a;intro hS a hk)|refine wx0 ?_|fail))
 obtain ⟨bm, bb, hDR⟩ := domH.get (hS.rd (A := domH bd (newP 40)) atx)
 refine sg hk (g_callO hk (hf := by kernel_rfl) (hc := room5_any _ hDR (by decide) (by decide)) (h := ?_));clear hk a;rintro _ w ⟨rfl, hS1⟩ a hk;replace hS := hS.call0 hS1;clear hS1
 rw [show (newP 40).most - (((newP 40).l.length : Int) - 1) = 40 by decide] at hk
 clear ht1 hDR
 (repeat' (first|((first|refine wx1 ?_|refine wx2 ?_ ?_<;>intro hp|refine s_end hk ?_)<;>(clear hk a;intro a hk))|((first|refine wx3 ?_;intro w b|refine wx4 ?_;intro w|refine wx5 ?_;intro w v);clear hk hS a;intro hS a hk)|refine wx0 ?_|fail))
 have hm : kids.length ≤ maxLen := ha.len_le
 simp only [maxLen] at hm
 rw [show min ((kids.length : Nat) : Int) 8 = ((min kids.length 8 : Nat) : Int) by omega] at hk
 refine sg hk (g_partT (j := (min kids.length 8)) hk ?_ (ht := eT rfl) (hs := (by first | exact St.rdT hS (by assumption) | exact OwT.rd (hS.rd (A := OwT _ _ _) atx) | assumption)) (hE := zT rfl) (hj := by omega));clear hk a;intro vp hvp a hk
 have hvp1 := hvp w0 ha
 have hkl : (kids.take (min kids.length 8)).length ≤ 8 ∧ (kids.take (min kids.length 8)).length ≤ kids.length := by rw [List.length_take];omega
 clear hvp
 (repeat' (first|((first|refine wx1 ?_|refine wx2 ?_ ?_<;>intro hp|refine s_end hk ?_)<;>(clear hk a;intro a hk))|((first|refine wx3 ?_;intro w b|refine wx4 ?_;intro w|refine wx5 ?_;intro w v);clear hk hS a;intro hS a hk)|refine wx0 ?_|fail))
 generalize (kids.take (min kids.length 8)).length = n0 at *
 rw [show (1 : Int) + (n0 : Int) = ((n0 + 1 : Nat) : Int) by omega] at hk
 (repeat' (first|((first|refine wx1 ?_|refine wx2 ?_ ?_<;>intro hp|refine s_end hk ?_)<;>(clear hk a;intro a hk))|((first|refine wx3 ?_;intro w b|refine wx4 ?_;intro w|refine wx5 ?_;intro w v);clear hk hS a;intro hS a hk)|refine wx0 ?_|fail))
 refine sg hk (g_callO hk (hf := by kernel_rfl) (hc := lelem6_any (D := newP 40) (K := 0) (ops := []) ulS (by decide) (newP_wf 40) (newP_bnd 40 0) (by omega) (by decide) (hS.sub (L' := [domH bd (newP 40), trailH bl bd []]) (.cons atx (.cons atx sbx)))) (h := ?_));clear hk hS a;rintro _ w ⟨rfl, hS⟩ a hk
 rw [show (elemP (newP 40) ulS).1 = beg1 from rfl] at hS
 rw [show (elemP (newP 40) ulS).2.1 = 1 by rw [beg1_eq], show (elemP (newP 40) ulS).2.2 = 0 by rw [beg1_eq]] at hk
 have hol := noteP_len (elemP (newP 40) ulS).2.2 [] (1, (elemP (newP 40) ulS).2.1, 0, 0, ulS, ⟨#[]⟩)
 generalize noteP (elemP (newP 40) ulS).2.2 [] (1, (elemP (newP 40) ulS).2.1, 0, 0, ulS, ⟨#[]⟩) = O at *
 simp only [List.length_nil] at hol
 (repeat' (first|((first|refine wx1 ?_|refine wx2 ?_ ?_<;>intro hp|refine s_end hk ?_)<;>(clear hk a;intro a hk))|((first|refine wx3 ?_;intro w b|refine wx4 ?_;intro w|refine wx5 ?_;intro w v);clear hk hS a;intro hS a hk)|refine wx0 ?_|fail))
 refine sg hk (g_callO hk (hf := by kernel_rfl) (hc := lins6_any (D := beg1) (K := 1) 0 0 1 (elemP_wf (newP_wf 40) ulS) (elemP_bnd (newP_bnd 40 0) ulS) (by omega) (by omega) hS) (h := ?_));clear hk hS a;rintro _ w ⟨rfl, hS⟩ a hk
 have hol2 := noteP_len (insP beg1 0 0 1).2 O (3, 0, 0, 1, ⟨#[]⟩, ⟨#[]⟩)
 rw [show (insP beg1 0 0 1).1 = beg2 from rfl] at hS
 generalize noteP (insP beg1 0 0 1).2 O (3, 0, 0, 1, ⟨#[]⟩, ⟨#[]⟩) = O2 at *
 (repeat' (first|((first|refine wx1 ?_|refine wx2 ?_ ?_<;>intro hp|refine s_end hk ?_)<;>(clear hk a;intro a hk))|((first|refine wx3 ?_;intro w b|refine wx4 ?_;intro w|refine wx5 ?_;intro w v);clear hk hS a;intro hS a hk)|refine wx0 ?_|fail))
 refine sg hk (g_callO hk (hf := by kernel_rfl) (hc := lsty6_any (D := beg2) (K := 2) 1 flowS way (by decide) beg2_fk.wf beg2_fk.bnd (by omega) (by omega) hS) (h := ?_));clear hk hS a;rintro _ w ⟨rfl, hS⟩ a hk
 have hol3 := noteP_len (setP beg2 4 1 flowS ⟨#[]⟩ way).2 O2 (10, 1, 0, way, flowS, ⟨#[]⟩)
 generalize noteP (setP beg2 4 1 flowS ⟨#[]⟩ way).2 O2 (10, 1, 0, way, flowS, ⟨#[]⟩) = O3 at *
 have hD0 := beg2_fk.set 4 1 flowS ⟨#[]⟩ way
 generalize (setP beg2 4 1 flowS ⟨#[]⟩ way).1 = D0 at *
 (repeat' (first|((first|refine wx1 ?_|refine wx2 ?_ ?_<;>intro hp|refine s_end hk ?_)<;>(clear hk a;intro a hk))|((first|refine wx3 ?_;intro w b|refine wx4 ?_;intro w|refine wx5 ?_;intro w v);clear hk hS a;intro hS a hk)|refine wx0 ?_|fail))
 replace hS := hS.nilT 3 Int
 replace hk := Kn.kp [0, 1, 7, 8, 9, 11, 73, 74] hk
 refine wp_for (n0 + 1) (fun i (y : DomP × List OpP × Value) => [(11, y.2.2), (74, .int .i64 (i : Int))]) (fun i y => [domH bd y.1, trailH bl bd y.2.1, OwT 3 (idsM i) y.2.2]) (fun i y => FkD y.1 i [] (3 + 3 * i) ∧ y.2.1.length ≤ 3 + 3 * i) (D0, O3, .slice none 0 0) hk skx (hS.sub (.cons atx (.cons atx (.cons atx sbx)))) ⟨hD0, by simp only;omega⟩ ?_
 clear hk hS a hD0
 rintro i ⟨D, O, v⟩ a w hi hk hS ⟨h, hol⟩
 simp only at hk hS h hol
 by_cases hil : i < n0 + 1
 ·obtain ⟨e1, e2, hD⟩ := h.more (by omega)
  have hIl := idsM_len i
  have hIs := idsM_succ i
  generalize idsM i = I at *
  have hv1 := hS.rdT ha
  (repeat' (first|((first|refine wx1 ?_|refine wx2 ?_ ?_<;>intro hp|refine s_end hk ?_)<;>(clear hk a;intro a hk))|((first|refine wx3 ?_;intro w b|refine wx4 ?_;intro w|refine wx5 ?_;intro w v);clear hk hS a;intro hS a hk)|refine wx0 ?_|fail))
  clear hv1
  refine sg hk (g_callO hk (hf := by kernel_rfl) (hc := lelem6_any liS (by decide) h.wf h.bnd (by omega) (by omega) (hS.sub (L' := [domH bd D, trailH bl bd O, OwT 3 I v]) (.cons atx (.cons atx (.cons atx sbx))))) (h := ?_));clear hk hS a;rintro _ w ⟨rfl, hS⟩ a hk
  rw [e1, e2] at hk
  have hol2 := noteP_len (elemP D liS).2.2 O (1, (elemP D liS).2.1, 0, 0, liS, ⟨#[]⟩)
  generalize noteP (elemP D liS).2.2 O (1, (elemP D liS).2.1, 0, 0, liS, ⟨#[]⟩) = O2 at *
  generalize (elemP D liS).1 = D2 at *
  by_cases hi0 : 0 < i
  ·have hv1 := hS.rdT ha
   (repeat' (first|((first|refine wx1 ?_|refine wx2 ?_ ?_<;>intro hp|refine s_end hk ?_)<;>(clear hk a;intro a hk))|((first|refine wx3 ?_;intro w b|refine wx4 ?_;intro w|refine wx5 ?_;intro w v);clear hk hS a;intro hS a hk)|refine wx0 ?_|fail))
   rename Value => vn
   rw [← hIs] at hS
   obtain ⟨z1, hz⟩ : ∃ z, z = bits .and .i64 (kids[((i : Int) - 1).toNat]'(by omega)) 15 := ⟨_, rfl⟩
   have hv1 := hS.rdT ha
   (repeat' (first|((first|refine wx1 ?_|refine wx2 ?_ ?_<;>intro hp|refine s_end hk ?_)<;>(clear hk a;intro a hk))|((first|refine wx3 ?_;intro w b|refine wx4 ?_;intro w|refine wx5 ?_;intro w v);clear hk hS a;intro hS a hk)|refine wx0 ?_|fail))
   refine sg hk (g_and hk ?_ hz.symm);clear hk a;intro a hk
   clear hz hv1
   (repeat' (first|((first|refine wx1 ?_|refine wx2 ?_ ?_<;>intro hp|refine s_end hk ?_)<;>(clear hk a;intro a hk))|((first|refine wx3 ?_;intro w b|refine wx4 ?_;intro w|refine wx5 ?_;intro w v);clear hk hS a;intro hS a hk)|refine wx0 ?_|fail))
   refine sg hk (g_callO hk (hf := by kernel_rfl) (hc := lsty6_any (D := D2) (ops := O2) (2 + (i : Int)) hS6 z1 (by decide) hD.wf hD.bnd (by omega) (by omega) (hS.sub (L' := [domH bd D2, trailH bl bd O2, OwT 3 (idsM (i + 1)) vn]) (.cons atx (.cons atx (.cons atx sbx))))) (h := ?_));clear hk hS a;rintro _ w ⟨rfl, hS⟩ a hk
   have hol3 := noteP_len (setP D2 4 (2 + (i : Int)) hS6 ⟨#[]⟩ z1).2 O2 (10, 2 + (i : Int), 0, z1, hS6, ⟨#[]⟩)
   generalize noteP (setP D2 4 (2 + (i : Int)) hS6 ⟨#[]⟩ z1).2 O2 (10, 2 + (i : Int), 0, z1, hS6, ⟨#[]⟩) = O4 at *
   have hD3 := hD.set 4 (2 + (i : Int)) hS6 ⟨#[]⟩ z1
   generalize (setP D2 4 (2 + (i : Int)) hS6 ⟨#[]⟩ z1).1 = D3 at *
   have hv1 := hS.rdT ha
   (repeat' (first|((first|refine wx1 ?_|refine wx2 ?_ ?_<;>intro hp|refine s_end hk ?_)<;>(clear hk a;intro a hk))|((first|refine wx3 ?_;intro w b|refine wx4 ?_;intro w|refine wx5 ?_;intro w v);clear hk hS a;intro hS a hk)|refine wx0 ?_|fail))
   refine sg hk (g_shr (m := 4) hk ?_ (hm := by decide));clear hk a;intro a hk
   obtain ⟨z3, hz⟩ : ∃ z, z = bits .and .i64 ((kids[((i : Int) - 1).toNat]'(by omega)).fdiv (2 ^ 4)) 15 := ⟨_, rfl⟩
   refine sg hk (g_and hk ?_ hz.symm);clear hk a;intro a hk
   clear hz hv1
   (repeat' (first|((first|refine wx1 ?_|refine wx2 ?_ ?_<;>intro hp|refine s_end hk ?_)<;>(clear hk a;intro a hk))|((first|refine wx3 ?_;intro w b|refine wx4 ?_;intro w|refine wx5 ?_;intro w v);clear hk hS a;intro hS a hk)|refine wx0 ?_|fail))
   refine sg hk (g_callO hk (hf := by kernel_rfl) (hc := lsty6_any (D := D3) (ops := O4) (2 + (i : Int)) wS z3 (by decide) hD3.wf hD3.bnd (by omega) (by omega) (hS.sub (L' := [domH bd D3, trailH bl bd O4, OwT 3 (idsM (i + 1)) vn]) (.cons atx (.cons atx (.cons atx sbx))))) (h := ?_));clear hk hS a;rintro _ w ⟨rfl, hS⟩ a hk
   have hol5 := noteP_len (setP D3 4 (2 + (i : Int)) wS ⟨#[]⟩ z3).2 O4 (10, 2 + (i : Int), 0, z3, wS, ⟨#[]⟩)
   generalize noteP (setP D3 4 (2 + (i : Int)) wS ⟨#[]⟩ z3).2 O4 (10, 2 + (i : Int), 0, z3, wS, ⟨#[]⟩) = O5 at *
   have hD4 := hD3.set 4 (2 + (i : Int)) wS ⟨#[]⟩ z3
   generalize (setP D3 4 (2 + (i : Int)) wS ⟨#[]⟩ z3).1 = D4 at *
   (repeat' (first|((first|refine wx1 ?_|refine wx2 ?_ ?_<;>intro hp|refine s_end hk ?_)<;>(clear hk a;intro a hk))|((first|refine wx3 ?_;intro w b|refine wx4 ?_;intro w|refine wx5 ?_;intro w v);clear hk hS a;intro hS a hk)|refine wx0 ?_|fail))
   exact ⟨hil, (D4, O5, vn), hk.sd, hS, hD4.up (by omega), by simp only;omega⟩
  ·(repeat' (first|((first|refine wx1 ?_|refine wx2 ?_ ?_<;>intro hp|refine s_end hk ?_)<;>(clear hk a;intro a hk))|((first|refine wx3 ?_;intro w b|refine wx4 ?_;intro w|refine wx5 ?_;intro w v);clear hk hS a;intro hS a hk)|refine wx0 ?_|fail))
   rename Value => vn
   rw [← hIs] at hS
   exact ⟨hil, (D2, O2, vn), hk.sd, hS.sub (.cons atx (.cons atx (.cons atx sbx))), hD.up (by omega), by simp only;omega⟩
 ·have hii : i = n0 + 1 := by omega
  subst hii
  have hIl := idsM_len (n0 + 1)
  (repeat' (first|((first|refine wx1 ?_|refine wx2 ?_ ?_<;>intro hp|refine s_end hk ?_)<;>(clear hk a;intro a hk))|((first|refine wx3 ?_;intro w b|refine wx4 ?_;intro w|refine wx5 ?_;intro w v);clear hk hS a;intro hS a hk)|refine wx0 ?_|fail))
  refine sg hk (g_callO hk (hf := by kernel_rfl) (hc := kids12_any (ks := []) (idsM (n0 + 1)) v h (by omega) (idsM_nodup _) (fun x hx => idsM_mem.1 hx) (fun x hx => by cases hx) (by simp) (by omega) (by omega) (hS.sub (L' := [domH bd D, trailH bl bd O, OwT 3 (idsM (n0 + 1)) v]) (.cons atx (.cons atx (.cons atx sbx))))) (h := ?_));clear hk hS a;rintro _ w ⟨rfl, D1, h1, hS⟩ a hk
  have hsl1 := (st_len [] (idsM (n0 + 1)) 0).2
  rw [show (stW [] (idsM (n0 + 1)) 0).2 = stepsF [] (idsM (n0 + 1)) from rfl, List.length_nil, hIl] at hsl1
  have hol1 : (O ++ (stepsF [] (idsM (n0 + 1))).map noteS).length ≤ 100 := by rw [List.length_append, List.length_map];omega
  replace h1 := h1.up (K' := 60) (by omega)
  generalize O ++ (stepsF [] (idsM (n0 + 1))).map noteS = O1 at *
  clear hsl1 hol h
  obtain ⟨ao, c, ht1, -⟩ := trailH.get (hS.rd (A := trailH bl bd O1) atx)
  (repeat' (first|((first|refine wx1 ?_|refine wx2 ?_ ?_<;>intro hp|refine s_end hk ?_)<;>(clear hk a;intro a hk))|((first|refine wx3 ?_;intro w b|refine wx4 ?_;intro w|refine wx5 ?_;intro w v);clear hk hS a;intro hS a hk)|refine wx0 ?_|fail))
  obtain ⟨r, hr, -⟩ := h1.root
  obtain ⟨hp1, hp2, hp3⟩ := h1.laid
  obtain ⟨bm, bb, hDR⟩ := domH.get (hS.rd (A := domH bd D1) atx)
  refine sg hk (g_callO hk (hf := by kernel_rfl) (hc := ldom6_any h1.wf (h1.bnd.up (by omega)) 30 hr (by omega) _ hDR) (h := ?_));clear hk a;rintro vx w hS1 a hk;replace hS := hS.call hS1;clear hS1
  clear ht1 hDR hr r hp1
  have hX1 : (layE D1).length ≤ n0 + 3 := by omega
  clear hp2
  generalize hX : layE D1 = X at *
  rw [show snapF eid (plcF (trN D1.f 0) 0 0 30) = X from hX] at hS
  rw [List.cons_append, List.nil_append] at hS
  (repeat' (first|((first|refine wx1 ?_|refine wx2 ?_ ?_<;>intro hp|refine s_end hk ?_)<;>(clear hk a;intro a hk))|((first|refine wx3 ?_;intro w b|refine wx4 ?_;intro w|refine wx5 ?_;intro w v);clear hk hS a;intro hS a hk)|refine wx0 ?_|fail))
  refine sg hk (g_bs0 Int hS ?_ (hT := eT rfl) (hE := zT rfl));clear hk hS a;intro w v118 hS a hk
  refine sg hk (g_move hk ?_);clear hk a;intro a hk
  refine sg hk (g_appT (xs := ([] : List Int)) (ys := idsM (n0 + 1)) hk hS ?_ (hT := eT rfl) (hTx := eT rfl) (hE := zT rfl) (hz := oT rfl) (hzs := rfl) (hs := OwT.rd (hS.rd (A := OwT 3 (idsM (n0 + 1)) v) atx)) (hby := bT rfl) (hbytes := by simp only [List.length_nil];omega) (h63 := by simp only [maxLen, List.length_nil];omega));clear hk hS a;intro w v120 hS a hk
  rw [List.nil_append] at hS
  have eapp : appH 3 (idsM (n0 + 1)) v120 = OwT 3 (idsM (n0 + 1)) v120 := by
   cases hq : idsM (n0 + 1) with
   | nil => rw [hq] at hIl;cases hIl
   | cons q Q => rfl
  rw [← eapp] at hS
  (repeat' (first|((first|refine wx1 ?_|refine wx2 ?_ ?_<;>intro hp|refine s_end hk ?_)<;>(clear hk a;intro a hk))|((first|refine wx3 ?_;intro w b|refine wx4 ?_;intro w|refine wx5 ?_;intro w v);clear hk hS a;intro hS a hk)|refine wx0 ?_|fail))
  refine sg hk (g_bs0 Int hS ?_ (hT := eT rfl) (hE := zT rfl));clear hk hS a;intro w v121 hS a hk
  (repeat' (first|((first|refine wx1 ?_|refine wx2 ?_ ?_<;>intro hp|refine s_end hk ?_)<;>(clear hk a;intro a hk))|((first|refine wx3 ?_;intro w b|refine wx4 ?_;intro w|refine wx5 ?_;intro w v);clear hk hS a;intro hS a hk)|refine wx0 ?_|fail))
  replace hk := Kn.kp [1, 7, 8, 9, 15, 16, 17, 18] hk
  refine wp_for (n0 + 1) (fun i (y : List Int × List Int × Value × Value) => [(16, y.2.2.1), (17, y.2.2.2), (18, .int .i64 (i : Int))]) (fun i y => [domH bd D1, trailH bl bd O1, OwT 90 X vx, appH 3 y.1 y.2.2.1, OwT 3 y.2.1 y.2.2.2]) (fun i y => List.Perm (y.2.1 ++ y.1) (idsM (n0 + 1)) ∧ y.1.length + i = n0 + 1) (idsM (n0 + 1), [], v120, v121) hk skx (hS.sub (.cons atx (.cons atx (.cons atx (.cons atx (.cons atx sbx)))))) ⟨List.Perm.refl _, by simp only;omega⟩ ?_
  clear hk hS a eapp
  rintro i ⟨left, to, v16, v17⟩ a w hi hk hS ⟨hp, hln⟩
  simp only at hk hS hp hln
  have hsl : SlT left v16 w := appH.rd (hS.rd (A := appH 3 left v16) atx)
  obtain ⟨ao16, c16, e16, -, hc1, -⟩ := hsl.shape
  subst e16
  have hpl := hp.length_eq
  rw [List.length_append, hIl] at hpl
  by_cases hil : i < n0 + 1
  ·by_cases hio : i < order.length
   ·obtain ⟨y, hy⟩ : ∃ x, order[i]? = some x := ⟨_, List.getElem?_eq_getElem hio⟩
    have hv1 := hS.rdT ho
    (repeat' (first|((first|refine wx1 ?_|refine wx2 ?_ ?_<;>intro hp|refine s_end hk ?_)<;>(clear hk a;intro a hk))|((first|refine wx3 ?_;intro w b|refine wx4 ?_;intro w|refine wx5 ?_;intro w v);clear hk hS a;intro hS a hk)|refine wx0 ?_|fail))
    obtain ⟨z0, z1⟩ := and_inF y 65535 (by decide)
    generalize hz : bits .and .i64 y 65535 = z at z0 z1
    refine sg hk (g_and hk ?_ hz);clear hk a;intro a hk
    (repeat' (first|((first|refine wx1 ?_|refine wx2 ?_ ?_<;>intro hp|refine s_end hk ?_)<;>(clear hk a;intro a hk))|((first|refine wx3 ?_;intro w b|refine wx4 ?_;intro w|refine wx5 ?_;intro w v);clear hk hS a;intro hS a hk)|refine wx0 ?_|fail))
    refine sg hk (g_rem hk ?_ (hq := by omega));clear hk a;intro a hk
    obtain ⟨k, hkk, hkl2⟩ : ∃ k : Nat, z.tmod (left.length : Int) = (k : Int) ∧ k < left.length := by
     have h1 := Int.tmod_nonneg (left.length : Int) z0
     have h2 := Int.tmod_lt_of_pos z (b := (left.length : Int)) (by omega)
     exact ⟨(z.tmod (left.length : Int)).toNat, by omega, by omega⟩
    rw [hkk] at hk
    clear hz hv1
    obtain ⟨x, hx⟩ : ∃ x, left[k]? = some x := ⟨_, List.getElem?_eq_getElem hkl2⟩
    have hprt : ∀ w, SlT left (.slice ao16 left.length c16) w → SlT (left.take k) (.slice (if c16 = 0 then ao16 else ao16.map (·.add 0)) k c16) w := fun w h => by
     obtain ⟨ao', c', e, h⟩ := h.part (i := 0) (j := k) (by omega) (by omega)
     cases e
     simpa using h
    have hprf : ∀ w, SlT left (.slice ao16 left.length c16) w → SlT (left.drop (k + 1)) (.slice (if c16 = k + 1 then ao16 else ao16.map (·.add ((k + 1) * 1))) (left.length - (k + 1)) (c16 - (k + 1))) w := fun w h => by
     obtain ⟨ao', c', e, h⟩ := h.part (i := k + 1) (j := left.length) (by omega) (by omega)
     cases e
     rw [List.take_length] at h
     exact h
    (repeat' (first|((first|refine wx1 ?_|refine wx2 ?_ ?_<;>intro hp|refine s_end hk ?_)<;>(clear hk a;intro a hk))|((first|refine wx3 ?_;intro w b|refine wx4 ?_;intro w|refine wx5 ?_;intro w v);clear hk hS a;intro hS a hk)|refine wx0 ?_|fail))
    rename Value => vn
    refine wp_drawn 10 mixed (by kernel_rfl) hk hS ?_;clear hk hS a
    refine' obe_res (fun us a w hk hd hS => ?_) ?_;rotate_left;focus (have hk := Kn.vw hk vwx;exact v_bs0 (hT := eT rfl) (hE := zT rfl))
    (repeat' (first|(show ObxE _ _ _ _ _ _ _ _ _ (_::_) _ _ _;first|refine ox1 ?_|refine ox2 ?_ ?_<;>intro hp)|fail))
    refine' obe_val (c := .slice (if c16 = 0 then ao16 else ao16.map (·.add 0)) k c16) (fun us a w hk hd hS => ?_) ?_
    ·have hk := Kn.vw hk vwx
     exact g_pT k hk (same _ _) (ht := eT rfl) (hE := zT rfl) (hj := by omega)
    refine' obe_lnd 9 (p := fun _ => True) (V := appH 3 (left.take k)) (fun us a w hk hd hS => ?_) ?_
    ·have hk := Kn.vw hk vwx
     exact (v_appR (ys := left.take k) hk hd.1 (hT := eT rfl) (hTx := eT rfl) (hE := zT rfl) (hz := oT rfl) (hzs := rfl) (hs := hprt _ (appH.rd (hS.rd (A := appH 3 left (.slice ao16 left.length c16)) atx))) (hby := bT rfl) (hbytes := by rw [List.length_take];omega) (h63 := by rw [List.length_take];simp only [maxLen];omega)).mono (fun _ _ h => St.trF h)
    (repeat' (first|(show ObxE _ _ _ _ _ _ _ _ _ (_::_) _ _ _;first|refine ox1 ?_|refine ox2 ?_ ?_<;>intro hp)|fail))
    refine' obe_val (c := .slice (if c16 = k + 1 then ao16 else ao16.map (·.add ((k + 1) * 1))) (left.length - (k + 1)) (c16 - (k + 1))) (fun us a w hk hd hS => ?_) ?_
    ·have hk := Kn.vw hk vwx
     exact g_pF (k + 1) hk (same _ _) (ht := eT rfl) (hE := zT rfl) (hi := by omega)
    refine' obe_tak 150 4 (V := appH 3 (left.take k ++ left.drop (k + 1))) (fun us a w X hk hd hS hL => ?_) ?_
    ·have hk := Kn.vw hk vwx
     exact v_app2 hk hS (hT := eT rfl) (hTx := eT rfl) (hE := zT rfl) (hz := oT rfl) (hzs := rfl) (hs := hprf _ (appH.rd (hL.rd (A := appH 3 left (.slice ao16 left.length c16)) atx))) (hby := bT rfl) (hbytes := by rw [List.length_take, List.length_drop];omega) (h63 := by rw [List.length_take, List.length_drop];simp only [maxLen];omega)
    refine obe_nil ⟨rfl, ?_⟩;intro us a w hk hS
    simp only [resE, List.cons_append, List.nil_append, Nat.zero_add, Nat.reduceAdd] at hS
    replace hk := Kn.kp [1, 7, 8, 9, 15, 17, 18, 155] hk
    simp only [HV.of, Nat.zero_add, Nat.reduceAdd] at hk
    rename Nat → Value => us
    generalize us 9 = v155 at hS hk
    (repeat' (first|((first|refine wx1 ?_|refine wx2 ?_ ?_<;>intro hp|refine s_end hk ?_)<;>(clear hk a;intro a hk))|((first|refine wx3 ?_;intro w b|refine wx4 ?_;intro w|refine wx5 ?_;intro w v);clear hk hS a;intro hS a hk)|refine wx0 ?_|fail))
    exact ⟨hil, (left.take k ++ left.drop (k + 1), to ++ [x], v155, vn), hk.sd, hS.sub (.cons atx (.cons atx (.cons atx (.cons atx (.cons atx sbx))))), perm_take hp hx, by simp only [List.length_append, List.length_take, List.length_drop];omega⟩
   ·obtain ⟨x, hx⟩ : ∃ x, left[0]? = some x := ⟨_, List.getElem?_eq_getElem (by omega)⟩
    have hx' : left[(0 : Int).toNat]? = some x := hx
    have hprt : ∀ w, SlT left (.slice ao16 left.length c16) w → SlT (left.take 0) (.slice (if c16 = 0 then ao16 else ao16.map (·.add 0)) 0 c16) w := fun w h => by
     obtain ⟨ao', c', e, h⟩ := h.part (i := 0) (j := 0) (by omega) (by omega)
     cases e
     simpa using h
    have hprf : ∀ w, SlT left (.slice ao16 left.length c16) w → SlT (left.drop (0 + 1)) (.slice (if c16 = 0 + 1 then ao16 else ao16.map (·.add ((0 + 1) * 1))) (left.length - (0 + 1)) (c16 - (0 + 1))) w := fun w h => by
     obtain ⟨ao', c', e, h⟩ := h.part (i := 0 + 1) (j := left.length) (by omega) (by omega)
     cases e
     rw [List.take_length] at h
     exact h
    have hv1 := hS.rdT ho
    (repeat' (first|((first|refine wx1 ?_|refine wx2 ?_ ?_<;>intro hp|refine s_end hk ?_)<;>(clear hk a;intro a hk))|((first|refine wx3 ?_;intro w b|refine wx4 ?_;intro w|refine wx5 ?_;intro w v);clear hk hS a;intro hS a hk)|refine wx0 ?_|fail))
    rename Value => vn
    clear hv1
    refine wp_drawn 10 mixed (by kernel_rfl) hk hS ?_;clear hk hS a
    refine' obe_res (fun us a w hk hd hS => ?_) ?_;rotate_left;focus (have hk := Kn.vw hk vwx;exact v_bs0 (hT := eT rfl) (hE := zT rfl))
    (repeat' (first|(show ObxE _ _ _ _ _ _ _ _ _ (_::_) _ _ _;first|refine ox1 ?_|refine ox2 ?_ ?_<;>intro hp)|fail))
    refine' obe_val (c := .slice (if c16 = 0 then ao16 else ao16.map (·.add 0)) 0 c16) (fun us a w hk hd hS => ?_) ?_
    ·have hk := Kn.vw hk vwx
     exact g_pT 0 hk (same _ _) (ht := eT rfl) (hE := zT rfl) (hj := by omega)
    refine' obe_lnd 9 (p := fun _ => True) (V := appH 3 (left.take 0)) (fun us a w hk hd hS => ?_) ?_
    ·have hk := Kn.vw hk vwx
     exact (v_appR (ys := left.take 0) hk hd.1 (hT := eT rfl) (hTx := eT rfl) (hE := zT rfl) (hz := oT rfl) (hzs := rfl) (hs := hprt _ (appH.rd (hS.rd (A := appH 3 left (.slice ao16 left.length c16)) atx))) (hby := bT rfl) (hbytes := by rw [List.length_take];omega) (h63 := by rw [List.length_take];simp only [maxLen];omega)).mono (fun _ _ h => St.trF h)
    (repeat' (first|(show ObxE _ _ _ _ _ _ _ _ _ (_::_) _ _ _;first|refine ox1 ?_|refine ox2 ?_ ?_<;>intro hp)|fail))
    refine' obe_val (c := .slice (if c16 = 0 + 1 then ao16 else ao16.map (·.add ((0 + 1) * 1))) (left.length - (0 + 1)) (c16 - (0 + 1))) (fun us a w hk hd hS => ?_) ?_
    ·have hk := Kn.vw hk vwx
     exact g_pF (0 + 1) hk (same _ _) (ht := eT rfl) (hE := zT rfl) (hi := by omega)
    refine' obe_tak 150 4 (V := appH 3 (left.take 0 ++ left.drop (0 + 1))) (fun us a w X hk hd hS hL => ?_) ?_
    ·have hk := Kn.vw hk vwx
     exact v_app2 hk hS (hT := eT rfl) (hTx := eT rfl) (hE := zT rfl) (hz := oT rfl) (hzs := rfl) (hs := hprf _ (appH.rd (hL.rd (A := appH 3 left (.slice ao16 left.length c16)) atx))) (hby := bT rfl) (hbytes := by rw [List.length_take, List.length_drop];omega) (h63 := by rw [List.length_take, List.length_drop];simp only [maxLen];omega)
    refine obe_nil ⟨rfl, ?_⟩;intro us a w hk hS
    simp only [resE, List.cons_append, List.nil_append, Nat.zero_add, Nat.reduceAdd] at hS
    replace hk := Kn.kp [1, 7, 8, 9, 15, 17, 18, 155] hk
    simp only [HV.of, Nat.zero_add, Nat.reduceAdd] at hk
    rename Nat → Value => us
    generalize us 9 = v155 at hS hk
    (repeat' (first|((first|refine wx1 ?_|refine wx2 ?_ ?_<;>intro hp|refine s_end hk ?_)<;>(clear hk a;intro a hk))|((first|refine wx3 ?_;intro w b|refine wx4 ?_;intro w|refine wx5 ?_;intro w v);clear hk hS a;intro hS a hk)|refine wx0 ?_|fail))
    exact ⟨hil, (left.take 0 ++ left.drop (0 + 1), to ++ [x], v155, vn), hk.sd, hS.sub (.cons atx (.cons atx (.cons atx (.cons atx (.cons atx sbx))))), perm_take hp hx, by simp only [List.length_append, List.length_take, List.length_drop];omega⟩
  ·have hl0 : left = [] := List.length_eq_zero_iff.1 (by omega)
   subst hl0
   rw [List.append_nil] at hp
   have hii : i = n0 + 1 := by omega
   subst hii
   clear hil hi
   have htm : ∀ x ∈ to, x ∈ idsM (n0 + 1) := fun x hx => hp.mem_iff.1 hx
   have htn : to.Nodup := hp.nodup_iff.2 (idsM_nodup _)
   have htl : to.length = n0 + 1 := by rw [hp.length_eq, hIl]
   (repeat' (first|((first|refine wx1 ?_|refine wx2 ?_ ?_<;>intro hp|refine s_end hk ?_)<;>(clear hk a;intro a hk))|((first|refine wx3 ?_;intro w b|refine wx4 ?_;intro w|refine wx5 ?_;intro w v);clear hk hS a;intro hS a hk)|refine wx0 ?_|fail))
   refine sg hk (g_callO hk (hf := by kernel_rfl) (hc := clear6_any (bl := bl) (bd := bd) (ops := O1) (hS.sub (L' := [trailH bl bd O1, domH bd D1, OwT 90 X vx, OwT 3 to v17]) (.cons atx (.cons atx (.cons atx (.cons atx sbx)))))) (h := ?_));clear hk hS a;intro _ w hS a hk
   clear hol1 hsl hc1
   (repeat' (first|((first|refine wx1 ?_|refine wx2 ?_ ?_<;>intro hp|refine s_end hk ?_)<;>(clear hk a;intro a hk))|((first|refine wx3 ?_;intro w b|refine wx4 ?_;intro w|refine wx5 ?_;intro w v);clear hk hS a;intro hS a hk)|refine wx0 ?_|fail))
   refine sg hk (g_callO hk (hf := by kernel_rfl) (hc := kids12_any (ks := idsM (n0 + 1)) to v17 h1 (by omega) htn (fun x hx => idsM_mem.1 (htm x hx)) (fun x hx => hp.mem_iff.2 hx) (by omega) (by omega) (by simp) (hS.sub (L' := [domH bd D1, trailH bl bd [], OwT 3 to v17, OwT 90 X vx]) (.cons atx (.cons atx (.cons atx (.cons atx sbx)))))) (h := ?_));clear hk hS a;rintro _ w ⟨rfl, D2, h2, hS⟩ a hk
   obtain ⟨hm3, hcnt⟩ := flip_moves hp
   have hsl2 := (st_len (idsM (n0 + 1)) to 0).2
   rw [show (stW (idsM (n0 + 1)) to 0).2 = stepsF (idsM (n0 + 1)) to from rfl, htl, hIl] at hsl2
   have hcc := cnt_note hm3
   have hol : ((stepsF (idsM (n0 + 1)) to).map noteS).length = (stepsF (idsM (n0 + 1)) to).length := List.length_map _
   replace h2 := h2.up (K' := 90) (by omega)
   generalize stepsF (idsM (n0 + 1)) to = S at *
   rw [List.nil_append] at hS
   generalize S.map noteS = O at *
   clear hm3
   (repeat' (first|((first|refine wx1 ?_|refine wx2 ?_ ?_<;>intro hp|refine s_end hk ?_)<;>(clear hk a;intro a hk))|((first|refine wx3 ?_;intro w b|refine wx4 ?_;intro w|refine wx5 ?_;intro w v);clear hk hS a;intro hS a hk)|refine wx0 ?_|fail))
   refine sg hk (g_callO hk (hf := by kernel_rfl) (hc := ops6_any _ (by omega) (hS.rd (A := trailH bl bd O) atx)) (h := ?_));clear hk a;rintro vo1 w hS1 a hk;replace hS := hS.call hS1;clear hS1
   rw [List.cons_append, List.nil_append] at hS
   (repeat' (first|((first|refine wx1 ?_|refine wx2 ?_ ?_<;>intro hp|refine s_end hk ?_)<;>(clear hk a;intro a hk))|((first|refine wx3 ?_;intro w b|refine wx4 ?_;intro w|refine wx5 ?_;intro w v);clear hk hS a;intro hS a hk)|refine wx0 ?_|fail))
   refine sg hk (g_callO hk (hf := by kernel_rfl) (hc := count6_any O 4 vo1 _ (by first | exact St.rdT hS (by assumption) | exact OwT.rd (hS.rd (A := OwT _ _ _) atx) | assumption) (by omega)) (h := ?_));clear hk a;rintro _ w ⟨rfl, hS1⟩ a hk;replace hS := hS.call0 hS1;clear hS1
   rw [hcc] at hk
   (repeat' (first|((first|refine wx1 ?_|refine wx2 ?_ ?_<;>intro hp|refine s_end hk ?_)<;>(clear hk a;intro a hk))|((first|refine wx3 ?_;intro w b|refine wx4 ?_;intro w|refine wx5 ?_;intro w v);clear hk hS a;intro hS a hk)|refine wx0 ?_|fail))
   refine sg hk (g_callO hk (hf := by kernel_rfl) (hc := ops6_any _ (by omega) (hS.rd (A := trailH bl bd O) atx)) (h := ?_));clear hk a;rintro vo2 w hS1 a hk;replace hS := hS.call hS1;clear hS1
   rw [List.cons_append, List.nil_append] at hS
   clear hcc
   obtain ⟨ao, c, ht1, -⟩ := trailH.get (hS.rd (A := trailH bl bd O) atx)
   (repeat' (first|((first|refine wx1 ?_|refine wx2 ?_ ?_<;>intro hp|refine s_end hk ?_)<;>(clear hk a;intro a hk))|((first|refine wx3 ?_;intro w b|refine wx4 ?_;intro w|refine wx5 ?_;intro w v);clear hk hS a;intro hS a hk)|refine wx0 ?_|fail))
   obtain ⟨r, hr, -⟩ := h2.root
   obtain ⟨hp1, hp2, hp4⟩ := h2.laid
   obtain ⟨bm, bb, hDR⟩ := domH.get (hS.rd (A := domH bd D2) atx)
   refine sg hk (g_callO hk (hf := by kernel_rfl) (hc := ldom6_any h2.wf (h2.bnd.up (by omega)) 30 hr (by omega) _ hDR) (h := ?_));clear hk a;rintro vy w hS1 a hk;replace hS := hS.call hS1;clear hS1
   clear ht1 hDR hr r hp1
   have hY1 : (layE D2).length ≤ n0 + 3 := by omega
   clear hp2
   generalize hY : layE D2 = Y at *
   rw [show snapF eid (plcF (trN D2.f 0) 0 0 30) = Y from hY] at hS
   rw [List.cons_append, List.nil_append] at hS
   replace hS := hS.sub (L' := [OwT 90 Y vy, trailH bl bd O, OwT 90 X vx, OwT 3 to v17]) (.cons atx (.cons atx (.cons atx (.cons atx sbx))))
   clear hX hY h1 h2
   (repeat' (first|((first|refine wx1 ?_|refine wx2 ?_ ?_<;>intro hp|refine s_end hk ?_)<;>(clear hk a;intro a hk))|((first|refine wx3 ?_;intro w b|refine wx4 ?_;intro w|refine wx5 ?_;intro w v);clear hk hS a;intro hS a hk)|refine wx0 ?_|fail))
   refine sg hk (g_callO hk (hf := by kernel_rfl) (hc := plan_any X Y to vx vy v17 _ (OwT.rd (hS.rd (A := OwT 90 X vx) atx)) (OwT.rd (hS.rd (A := OwT 90 Y vy) atx)) (OwT.rd (hS.rd (A := OwT 3 to v17) atx)) (by omega) (by omega) (by omega)) (h := ?_));clear hk a;rintro vp2 w hS1 a hk;replace hS := hS.call hS1;clear hS1
   rw [List.cons_append, List.nil_append] at hS
   have hPl := planF_len X Y to to.length
   have hin := applySh_inv Y (planF X Y to to.length)
   (repeat' (first|((first|refine wx1 ?_|refine wx2 ?_ ?_<;>intro hp|refine s_end hk ?_)<;>(clear hk a;intro a hk))|((first|refine wx3 ?_;intro w b|refine wx4 ?_;intro w|refine wx5 ?_;intro w v);clear hk hS a;intro hS a hk)|refine wx0 ?_|fail))
   refine sg hk (g_callO hk (hf := by kernel_rfl) (hc := applySh_any Y (planF X Y to to.length) vy vp2 _ (OwT.rd (hS.rd (A := OwT 90 Y vy) atx)) (OwT.rd (hS.rd (A := OwT 87 (planF X Y to to.length) vp2) atx)) (by omega) (by omega)) (h := ?_));clear hk a;rintro vz w hS1 a hk;replace hS := hS.call hS1;clear hS1
   rw [List.cons_append, List.nil_append] at hS
   (repeat' (first|((first|refine wx1 ?_|refine wx2 ?_ ?_<;>intro hp|refine s_end hk ?_)<;>(clear hk a;intro a hk))|((first|refine wx3 ?_;intro w b|refine wx4 ?_;intro w|refine wx5 ?_;intro w v);clear hk hS a;intro hS a hk)|refine wx0 ?_|fail))
   replace hk := Kn.kp [7, 8, 15, 17, 20, 21, 22, 23, 184, 185, 186] hk
   have hback := @fk_back X Y to
   generalize hZ : applySh Y (planF X Y to to.length) = Z at *
   refine wp_for to.length (fun i _ => [(23, .int .i64 ((planF X Y to i).length : Nat)), (186, .int .i64 (i : Int))]) (fun _ _ => [OwT 90 Z vz, OwT 87 (planF X Y to to.length) vp2, OwT 90 Y vy, trailH bl bd O, OwT 90 X vx, OwT 3 to v17]) (fun _ _ => True) () hk skx (hS.sub (.cons atx (.cons atx (.cons atx (.cons atx (.cons atx (.cons atx sbx))))))) trivial ?_
   clear hk hS a
   rintro i - a w hi hk hS -
   by_cases hil : i < to.length
   ·obtain ⟨id, hx⟩ : ∃ x, to[i]? = some x := ⟨_, List.getElem?_eq_getElem hil⟩
    have hmem := List.mem_of_getElem? hx
    obtain ⟨⟨oi, oX, oY, oW, oH⟩, o0, o1⟩ := hp3 id (htm id hmem)
    obtain ⟨⟨ni, nX, nY, nW, nH⟩, n0', n1⟩ := hp4 id hmem
    have hb := hback hmem o0 n0' o1 n1
    have hcount := fk_count hx htn o0 n0' o1 n1
    have e1 : getR X id = (oX, oY, oW, oH) := by unfold getR;rw [o0];rfl
    have e2 : getR Y id = (nX, nY, nW, nH) := by unfold getR;rw [n0'];rfl
    have hPi := planF_len X Y to i
    simp only at hb hcount o1 n1
    (repeat' (first|((first|refine wx1 ?_|refine wx2 ?_ ?_<;>intro hp|refine s_end hk ?_)<;>(clear hk a;intro a hk))|((first|refine wx3 ?_;intro w b|refine wx4 ?_;intro w|refine wx5 ?_;intro w v);clear hk hS a;intro hS a hk)|refine wx0 ?_|fail))
    refine sg hk (g_callO hk (hf := by kernel_rfl) (hc := get_any X id vx _ (OwT.rd (hS.rd (A := OwT 90 X vx) atx)) (by omega)) (h := ?_));clear hk a;rintro _ w ⟨rfl, hS1⟩ a hk;replace hS := hS.call0 hS1;clear hS1
    rw [e1, o0, Option.isSome_some] at hk
    (repeat' (first|((first|refine wx1 ?_|refine wx2 ?_ ?_<;>intro hp|refine s_end hk ?_)<;>(clear hk a;intro a hk))|((first|refine wx3 ?_;intro w b|refine wx4 ?_;intro w|refine wx5 ?_;intro w v);clear hk hS a;intro hS a hk)|refine wx0 ?_|fail))
    refine sg hk (g_callO hk (hf := by kernel_rfl) (hc := get_any Z id vz _ (OwT.rd (hS.rd (A := OwT 90 Z vz) atx)) (by omega)) (h := ?_));clear hk a;rintro _ w ⟨rfl, hS1⟩ a hk;replace hS := hS.call0 hS1;clear hS1
    rw [hb] at hk
    (repeat' (first|((first|refine wx1 ?_|refine wx2 ?_ ?_<;>intro hp|refine s_end hk ?_)<;>(clear hk a;intro a hk))|((first|refine wx3 ?_;intro w b|refine wx4 ?_;intro w|refine wx5 ?_;intro w v);clear hk hS a;intro hS a hk)|refine wx0 ?_|fail))
    refine sg hk (g_callO hk (hf := by kernel_rfl) (hc := get_any Y id vy _ (OwT.rd (hS.rd (A := OwT 90 Y vy) atx)) (by omega)) (h := ?_));clear hk a;rintro _ w ⟨rfl, hS1⟩ a hk;replace hS := hS.call0 hS1;clear hS1
    rw [e2, n0', Option.isSome_some] at hk
    clear hb e1 e2 o0 n0' o1 n1 hmem
    by_cases h1 : oX = nX
    ·by_cases h2 : oY = nY
     ·rw [if_neg (by omega), Nat.add_zero] at hcount
      (repeat' (first|((first|refine wx1 ?_|refine wx2 ?_ ?_<;>intro hp|refine s_end hk ?_)<;>(clear hk a;intro a hk))|((first|refine wx3 ?_;intro w b|refine wx4 ?_;intro w|refine wx5 ?_;intro w v);clear hk hS a;intro hS a hk)|refine wx0 ?_|fail))
      exact ⟨hil, (), by rw [hcount];exact hk.sd, hS.sub (.cons atx (.cons atx (.cons atx (.cons atx (.cons atx (.cons atx sbx)))))), trivial⟩
     ·rw [if_pos (.inr h2)] at hcount
      (repeat' (first|((first|refine wx1 ?_|refine wx2 ?_ ?_<;>intro hp|refine s_end hk ?_)<;>(clear hk a;intro a hk))|((first|refine wx3 ?_;intro w b|refine wx4 ?_;intro w|refine wx5 ?_;intro w v);clear hk hS a;intro hS a hk)|refine wx0 ?_|fail))
      exact ⟨hil, (), by rw [hcount];exact hk.sd, hS.sub (.cons atx (.cons atx (.cons atx (.cons atx (.cons atx (.cons atx sbx)))))), trivial⟩
    ·rw [if_pos (.inl h1)] at hcount
     (repeat' (first|((first|refine wx1 ?_|refine wx2 ?_ ?_<;>intro hp|refine s_end hk ?_)<;>(clear hk a;intro a hk))|((first|refine wx3 ?_;intro w b|refine wx4 ?_;intro w|refine wx5 ?_;intro w v);clear hk hS a;intro hS a hk)|refine wx0 ?_|fail))
     exact ⟨hil, (), by rw [hcount];exact hk.sd, hS.sub (.cons atx (.cons atx (.cons atx (.cons atx (.cons atx (.cons atx sbx)))))), trivial⟩
   ·have hii : i = to.length := by omega
    subst hii
    (repeat' (first|((first|refine wx1 ?_|refine wx2 ?_ ?_<;>intro hp|refine s_end hk ?_)<;>(clear hk a;intro a hk))|((first|refine wx3 ?_;intro w b|refine wx4 ?_;intro w|refine wx5 ?_;intro w v);clear hk hS a;intro hS a hk)|refine wx0 ?_|fail))
    refine sg hk (g_bs0 Int hS ?_ (hT := eT rfl) (hE := zT rfl));clear hk hS a;intro w v239 hS a hk
    (repeat' (first|((first|refine wx1 ?_|refine wx2 ?_ ?_<;>intro hp|refine s_end hk ?_)<;>(clear hk a;intro a hk))|((first|refine wx3 ?_;intro w b|refine wx4 ?_;intro w|refine wx5 ?_;intro w v);clear hk hS a;intro hS a hk)|refine wx0 ?_|fail))
    replace hk := Kn.kp [7, 8, 21, 23, 32, 240, 241, 242] hk
    refine wp_for to.length (fun i y => [(32, y), (242, .int .i64 (i : Int))]) (fun i y => [OwT 3 (to.take i) y, OwT 87 (planF X Y to to.length) vp2, trailH bl bd O, OwT 3 to v17]) (fun _ _ => True) v239 hk skx (hS.sub (.cons atx (.cons atx (.cons atx (.cons atx sbx))))) trivial ?_
    clear hk hS a
    rintro i v32 a w hi hk hS -
    by_cases hil : i < to.length
    ·obtain ⟨id, hx⟩ : ∃ x, to[i]? = some x := ⟨_, List.getElem?_eq_getElem hil⟩
     have htk : (to.take i).length = i := by rw [List.length_take];omega
     have hts := take_snoc hx
     generalize to.take i = T at *
     (repeat' (first|((first|refine wx1 ?_|refine wx2 ?_ ?_<;>intro hp|refine s_end hk ?_)<;>(clear hk a;intro a hk))|((first|refine wx3 ?_;intro w b|refine wx4 ?_;intro w|refine wx5 ?_;intro w v);clear hk hS a;intro hS a hk)|refine wx0 ?_|fail))
     rename Value => vn
     rw [← hts] at hS
     exact ⟨hil, vn, hk.sd, hS.sub (.cons atx (.cons atx (.cons atx (.cons atx sbx)))), trivial⟩
    ·have hii : i = to.length := by omega
     subst hii
     rw [List.take_length] at hS
     (repeat' (first|((first|refine wx1 ?_|refine wx2 ?_ ?_<;>intro hp|refine s_end hk ?_)<;>(clear hk a;intro a hk))|((first|refine wx3 ?_;intro w b|refine wx4 ?_;intro w|refine wx5 ?_;intro w v);clear hk hS a;intro hS a hk)|refine wx0 ?_|fail))
     refine sg hk (g_callO hk (hf := by kernel_rfl) (hc := ops6_any _ (by omega) (hS.rd (A := trailH bl bd O) atx)) (h := ?_));clear hk a;rintro vo3 w hS1 a hk;replace hS := hS.call hS1;clear hS1
     rw [List.cons_append, List.nil_append] at hS
     (repeat' (first|((first|refine wx1 ?_|refine wx2 ?_ ?_<;>intro hp|refine s_end hk ?_)<;>(clear hk a;intro a hk))|((first|refine wx3 ?_;intro w b|refine wx4 ?_;intro w|refine wx5 ?_;intro w v);clear hk hS a;intro hS a hk)|refine wx0 ?_|fail))
     refine sg hk (g_callO hk (hf := by kernel_rfl) (hc := refLen_any to v32 _ (OwT.rd (hS.rd (A := OwT 3 to v32) atx)) (by omega)) (h := ?_));clear hk a;rintro _ w ⟨rfl, hS1⟩ a hk;replace hS := hS.call0 hS1;clear hS1
     (repeat' (first|((first|refine wx1 ?_|refine wx2 ?_ ?_<;>intro hp|refine s_end hk ?_)<;>(clear hk a;intro a hk))|((first|refine wx3 ?_;intro w b|refine wx4 ?_;intro w|refine wx5 ?_;intro w v);clear hk hS a;intro hS a hk)|refine wx0 ?_|fail))
     exact done1 hk (h := ⟨rfl, hS.nil⟩)
theorem arg_intsF {W : World} {v : Value} (h : Arg Tryz.prog W 22 v) : ∃ xs : List Int, SlT xs v W := by
 obtain ⟨u, xs, h1, h2, -⟩ := SlT.of_rdg (α := Int) (fun _ => True) h.1 (eT rfl) (zT rfl) (fun us _ h => by obtain ⟨s, hs, _⟩ := rdg_int (iT rfl) h;exact ⟨s, hs.symm, trivial⟩)
 have h3 := h.2.2 (aT rfl)
 rw [h3] at h1
 simp at h1
 subst h1
 exact ⟨xs, h2⟩
theorem walk_ScrimFlips (W : World) (vs : List Value) (h : Args Tryz.prog W [22, 22, 3] vs) : Calls Tryz.prog 3 vs.toArray W (Ret fun v w => v = .bool true ∧ St W [] w) := by
 obtain ⟨v1, v2, v3, rfl, ha, hb, hc⟩ := args3 h
 obtain ⟨xs, hx⟩ := arg_intsF ha
 obtain ⟨ys, hy⟩ := arg_intsF hb
 obtain ⟨z, rfl, -⟩ := arg_int hc
 exact flips_any xs ys z _ _ W hx hy
end Go.Proofs.YtbpkddpkcnlmhaaGreat
