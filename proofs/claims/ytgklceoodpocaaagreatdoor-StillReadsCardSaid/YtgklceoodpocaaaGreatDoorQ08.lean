/- From the form's reading of plain arguments to what they are. Layer 4: names with values, of both kinds. Layer 2: digits and the numbers that they are; which texts may be what: in plain words. Layer 2: which texts may be what, in plain words. -/
import Derived.Test.YtgklceoodpocaaaGreatDoorQ07
import Derived.Test.YtgklceoodpocaaaGreatDoorQ05
import Derived.Lib.ItoaNum
set_option linter.all false
namespace Go.Proofs.YtgklceoodpocaaaGreatDoor
open Go.RowKit
theorem shp_fold {P : Program} {d : Nat} {cs : List Value} : ∀ (fs : List Field) (off : Nat) (ks : List SK) (off' : Nat) (ks' : List SK), fs.foldl (stepF P (flatT P d)) (some (off, ks)) = some (off', ks') → off = ks.length →
  (∀ f ∈ fs, ∀ k1, flatT P d f.type = some k1 → szOf P f.type = some k1.length → shp k1 ((cs.drop f.offset).take k1.length) = true) → shp ks (cs.take off) = true → shp ks' (cs.take off') = true ∧ off' = ks'.length
 | [], off, ks, off', ks', h, ho, _, h1 => by
  simp at h
  obtain ⟨rfl, rfl⟩ := h
  exact ⟨h1, ho⟩
 | f :: fs, off, ks, off', ks', h, ho, hf, h1 => by
  simp only [List.foldl_cons] at h
  cases hs : stepF P (flatT P d) (some (off, ks)) f with
  | none => rw [hs, stepF_none] at h;cases h
  | some p =>
   obtain ⟨o2, k2⟩ := p
   rw [hs] at h
   unfold stepF at hs
   cases hfl : flatT P d f.type with
   | none => rw [hfl] at hs;simp at hs
   | some k1 =>
    rw [hfl] at hs
    simp only at hs
    cases hz : szOf P f.type with
    | none => rw [hz] at hs;simp at hs
    | some s =>
     rw [hz] at hs
     simp only at hs
     rw [Bool.cond_eq_ite] at hs
     split at hs
     ·rename_i hc
      simp only [Option.some.injEq, Prod.mk.injEq] at hs
      obtain ⟨e1, e2⟩ := hs
      simp only [Bool.and_eq_true] at hc
      obtain ⟨⟨⟨⟨_, c2⟩, c3⟩, _⟩, _⟩ := hc
      have hoff : f.offset = off := Nat.eq_of_beq_eq_true c2
      have hsz : szOf P f.type = some k1.length := by rw [hz, Nat.eq_of_beq_eq_true c3]
      subst e1 e2
      refine shp_fold fs (off + k1.length) (ks ++ k1) off' ks' h (by rw [List.length_append, ho]) (fun g hg => hf g (by simp [hg])) ?_
      have h2 := hf f (by simp) k1 hfl hsz
      rw [hoff] at h2
      rw [List.take_add]
      exact shp_join h1 h2
     ·cases hs
theorem shp_rdg {P : Program} {W : World} : ∀ (d D : Nat) (T : TypeId) (ks : List SK) (us : List Value), flatT P d T = some ks → szOf P T = some ks.length → d ≤ D → Rdg P W D T us → shp ks us = true
 | 0, _, _, _, _, h, _, _, _ => by simp [flatT] at h
 | d + 1, 0, _, _, _, _, _, h, _ => by omega
 | d + 1, D + 1, T, ks, us, h, hz, hd, hr => by
  unfold flatT at h
  unfold Rdg at hr
  cases hu : P.underlying T with
  | none => rw [hu] at h;cases h
  | some dsc =>
   rw [hu] at h hr
   cases dsc <;> simp only [reduceCtorEq] at h
   case bool =>
    obtain ⟨b, rfl⟩ := hr
    injection h with h;subst h;rfl
   case int k =>
    obtain ⟨n, rfl, _⟩ := hr
    injection h with h;subst h;simp [shp]
   case string =>
    obtain ⟨s, rfl, _⟩ := hr
    injection h with h;subst h;rfl
   case struct fs =>
    cases hst : P.stoodInHeld T with
    | true => rw [hst] at h;simp at h
    | false =>
     rw [hst] at h
     simp only [cond_false, Option.map_eq_some_iff] at h
     obtain ⟨⟨off', ks'⟩, h1, rfl⟩ := h
     obtain ⟨h2, h3⟩ := shp_fold (cs := us) fs.toList 0 [] off' ks' h1 rfl (fun f hf k1 hk hs => by
      have := hr.2 f hf
      rw [cellsOf_sz hs] at this
      exact shp_rdg d D f.type k1 _ hk hs (by omega) this) (by simp [shp])
     have hl := hr.1
     rw [cellsOf_sz hz] at hl
     rw [List.take_of_length_le (by simp only at hl;omega)] at h2
     exact h2
section
variable {α : Type} [Enc α] [EncI α] {P : Program} {W : World}
theorem SlT.of_rdgF {D : Nat} {T e : TypeId} {cs : List Value} (h : Rdg P W (D + 1) T cs) (hT : elOf P T = some e) (hz : szOf P e = some (Enc.k α + 1)) (hf : flatT P 6 e = some (EncI.ks α)) (hD : 6 ≤ D) :
  ∃ v, ∃ xs : List α, cs = [v] ∧ SlT xs v W := by
 obtain ⟨v, xs, h1, h2, _⟩ := SlT.of_rdg (α := α) (fun _ => True) h hT hz (fun us hl hr => by
  have := shp_rdg 6 D e (EncI.ks α) us hf (by rw [hz, EncI.kl]) hD hr
  obtain ⟨x, hx⟩ := EncI.sur us this
  exact ⟨x, hx, trivial⟩)
 exact ⟨v, xs, h1, h2⟩
theorem Arg.sl {T e : TypeId} {v : Value} (h : Arg P W T v) (hT : elOf P T = some e) (ha : aggOf P T = some false) (hz : szOf P e = some (Enc.k α + 1)) (hf : flatT P 6 e = some (EncI.ks α)) : ∃ xs : List α, SlT xs v W := by
 obtain ⟨u, xs, h1, h2⟩ := SlT.of_rdgF h.1 hT hz hf (by decide)
 rw [h.2.2 ha] at h1
 simp at h1
 subst h1
 exact ⟨xs, h2⟩
end
theorem Arg.int {P : Program} {W : World} {T : TypeId} {v : Value} (h : Arg P W T v) (hT : P.underlying T = some (.int .i64)) (ha : aggOf P T = some false) : ∃ n, v = .int .i64 n ∧ -9223372036854775808 ≤ n ∧ n ≤ 9223372036854775807 := by
 obtain ⟨n, h1, h2⟩ := rdg_int (D := 7) hT h.1
 rw [h.2.2 ha] at h1
 simp at h1
 exact ⟨n, h1, h2⟩
end Go.Proofs.YtgklceoodpocaaaGreatDoor
namespace Go.Proofs.YtgklceoodpocaaaGreatDoor
open Go.RowKit
set_option maxRecDepth 100000
attribute [local irreducible] Go.Code.wpIn Go.wpListIn Go.Calls Gives Go.Exit.then Go.Exit.inBlock Done ObxE
theorem cmpS_any (x y : ByteArray) (w0 : World) : Calls Tryz.prog 142 #[.string x, .string y] w0 (Ret fun v w => v = .int .i64 (cmpF x y) ∧ St w0 [] w) := by
 have nan : ∀ (z : ByteArray) (w0 : World), Calls Tryz.prog 158 #[.string z] w0 (Ret fun v w => v = .bool false ∧ St w0 [] w) := by
  intro z w0
  refine enter Tryz.func158 rfl Tryz.ntmps158 rfl (fun a hk => ?_);have hS := St.refl w0
  (repeat' (first|((first|refine wx1 ?_|refine wx2 ?_ ?_<;>intro hp|refine s_end hk ?_)<;>(clear hk a;intro a hk))|((first|refine wx3 ?_;intro w b|refine wx4 ?_;intro w|refine wx5 ?_;intro w v);clear hk hS a;intro hS a hk)|refine wx0 ?_|fail))
  all_goals first | exact done1 hk (h := ⟨rfl, hS.nil⟩) | (rename_i hp;exact absurd rfl hp)
 refine enter Tryz.func142 rfl Tryz.ntmps142 rfl (fun a hk => ?_);have hS := St.refl w0
 (repeat' (first|((first|refine wx1 ?_|refine wx2 ?_ ?_<;>intro hp|refine s_end hk ?_)<;>(clear hk a;intro a hk))|((first|refine wx3 ?_;intro w b|refine wx4 ?_;intro w|refine wx5 ?_;intro w v);clear hk hS a;intro hS a hk)|refine wx0 ?_|fail))
 refine sg hk (g_callO hk (hf := by kernel_rfl) (hc := nan x _) (h := ?_));clear hk a;rintro _ w ⟨rfl, hS1⟩ a hk;replace hS := hS.call0 hS1;clear hS1
 (repeat' (first|((first|refine wx1 ?_|refine wx2 ?_ ?_<;>intro hp|refine s_end hk ?_)<;>(clear hk a;intro a hk))|((first|refine wx3 ?_;intro w b|refine wx4 ?_;intro w|refine wx5 ?_;intro w v);clear hk hS a;intro hS a hk)|refine wx0 ?_|fail))
 refine sg hk (g_callO hk (hf := by kernel_rfl) (hc := nan y _) (h := ?_));clear hk a;rintro _ w ⟨rfl, hS1⟩ a hk;replace hS := hS.call0 hS1;clear hS1
 (repeat' (first|((first|refine wx1 ?_|refine wx2 ?_ ?_<;>intro hp|refine s_end hk ?_)<;>(clear hk a;intro a hk))|((first|refine wx3 ?_;intro w b|refine wx4 ?_;intro w|refine wx5 ?_;intro w v);clear hk hS a;intro hS a hk)|refine wx0 ?_|fail))
 ·have h1 : Lin.lt x y = true := by assumption
  exact done1 hk (h := ⟨by simp [cmpF, h1], hS.nil⟩)
 ·have h1 : Lin.lt x y = false := by assumption
  have h2 : Lin.lt y x = true := by assumption
  exact done1 hk (h := ⟨by simp [cmpF, h1, h2], hS.nil⟩)
 ·have h1 : Lin.lt x y = false := by assumption
  have h2 : Lin.lt y x = false := by assumption
  exact done1 hk (h := ⟨by simp [cmpF, h1, h2], hS.nil⟩)
abbrev PrI := ByteArray × Int
abbrev nmI (p : PrI) : ByteArray := p.1
theorem where1I_any (e : PrI) (k : ByteArray) (w0 : World) : Calls Tryz.prog 145 #[.agg (Enc.f e).toArray, .string k] w0 (Ret fun v w => v = .int .i64 (cmpF e.1 k) ∧ St w0 [] w) := by
 obtain ⟨n, x⟩ := e
 refine enter Tryz.func145 rfl Tryz.ntmps145 rfl (fun a hk => ?_);have hS := St.refl w0
 (repeat' (first|((first|refine wx1 ?_|refine wx2 ?_ ?_<;>intro hp|refine s_end hk ?_)<;>(clear hk a;intro a hk))|((first|refine wx3 ?_;intro w b|refine wx4 ?_;intro w|refine wx5 ?_;intro w v);clear hk hS a;intro hS a hk)|refine wx0 ?_|fail))
 refine sg hk (g_callO hk (hf := by kernel_rfl) (hc := cmpS_any _ _ _) (h := ?_));clear hk a;rintro _ w ⟨rfl, hS1⟩ a hk;replace hS := hS.call0 hS1;clear hS1
 (repeat' (first|((first|refine wx1 ?_|refine wx2 ?_ ?_<;>intro hp|refine s_end hk ?_)<;>(clear hk a;intro a hk))|((first|refine wx3 ?_;intro w b|refine wx4 ?_;intro w|refine wx5 ?_;intro w v);clear hk hS a;intro hS a hk)|refine wx0 ?_|fail))
 exact done1 hk (h := ⟨rfl, hS.nil⟩)
set_option maxHeartbeats 1000000 in
theorem bsI_any (es : List PrI) (x : ByteArray) (v : Value) (w0 : World) (hv : SlT es v w0) (hl : es.length ≤ 1000) (hr : Rises nmI es) :
  Calls Tryz.prog 144 #[v, .string x, .func (.func 145) #[] #[]] w0
  (Ret fun v w => ∃ (n : Nat) (f : Bool), v = .tuple #[.int .i64 n, .bool f] ∧ Found nmI es x n f ∧ St w0 [] w) := by
 have hpw := List.pairwise_iff_getElem.1 hr
 refine enter Tryz.func144 rfl Tryz.ntmps144 rfl (fun a hk => ?_);have hS := St.refl w0
 (repeat' (first|((first|refine wx1 ?_|refine wx2 ?_ ?_<;>intro hp|refine s_end hk ?_)<;>(clear hk a;intro a hk))|((first|refine wx3 ?_;intro w b|refine wx4 ?_;intro w|refine wx5 ?_;intro w v);clear hk hS a;intro hS a hk)|refine wx0 ?_|fail))
 replace hk := Kn.kp [0, 1, 2, 8, 9, 10] hk
 refine wp_while (fun x : Nat × Nat => [(9, .int .i64 (x.1 : Int)), (10, .int .i64 (x.2 : Int))]) (fun _ => []) (fun s => s.1 ≤ s.2 ∧ s.2 ≤ es.length ∧ (∀ i (h : i < es.length), i < s.1 → Lin.lt (nmI es[i]) x = true) ∧ (∀ i (h : i < es.length), s.2 ≤ i → Lin.lt (nmI es[i]) x = false))
  (fun x => x.2 - x.1) (0, es.length) hk skx hS ⟨by simp only;omega, by simp only;omega, fun i _ h => by simp only at h;omega, fun i _ h => by simp only at h;omega⟩ ?_
 clear hk hS a
 rintro ⟨i, j⟩ a w hk hS ⟨h1, h2, h3, h4⟩
 simp only at hk h1 h2 h3 h4
 (repeat' (first|((first|refine wx1 ?_|refine wx2 ?_ ?_<;>intro hp|refine s_end hk ?_)<;>(clear hk a;intro a hk))|((first|refine wx3 ?_;intro w b|refine wx4 ?_;intro w|refine wx5 ?_;intro w v);clear hk hS a;intro hS a hk)|refine wx0 ?_|fail))
 ·have e : ((i : Int) + j) / 2 = ((i + j) / 2 : Nat) := by omega
  simp only [e, Int.toNat_natCast] at hk
  refine sg hk (g_callvO hk (hf := by kernel_rfl) (hc := where1I_any _ x _) (h := ?_));clear hk a;rintro _ w ⟨rfl, hS1⟩ a hk;replace hS := hS.call0 hS1;clear hS1
  by_cases hc : Lin.lt (nmI (es[(i + j) / 2]'(by omega))) x = true
  ·rw [show cmpF (nmI (es[(i + j) / 2]'(by omega))) x = -1 from cmp_lt hc] at hk
   (repeat' (first|((first|refine wx1 ?_|refine wx2 ?_ ?_<;>intro hp|refine s_end hk ?_)<;>(clear hk a;intro a hk))|((first|refine wx3 ?_;intro w b|refine wx4 ?_;intro w|refine wx5 ?_;intro w v);clear hk hS a;intro hS a hk)|refine wx0 ?_|fail))
   refine ⟨((i + j) / 2 + 1, j), by simp only;omega, hk.subD (by (repeat (first | exact trivial | refine ⟨rfl, ?_⟩ | refine ⟨trivial, ?_⟩));fail_if_success focus skip), hS, by simp only;omega, h2, fun k h hk2 => ?_, h4⟩
   simp only at hk2
   by_cases e : k = (i + j) / 2
   ·subst e;exact hc
   ·exact Lin.tr (hpw k ((i + j) / 2) (by omega) (by omega) (by omega)) hc
  ·have hn : ¬ cmpF (nmI (es[(i + j) / 2]'(by omega))) x < 0 := cmp_ge (by simpa using hc)
   (repeat' (first|((first|refine wx1 ?_|refine wx2 ?_ ?_<;>intro hp|refine s_end hk ?_)<;>(clear hk a;intro a hk))|((first|refine wx3 ?_;intro w b|refine wx4 ?_;intro w|refine wx5 ?_;intro w v);clear hk hS a;intro hS a hk)|refine wx0 ?_|fail))
   refine ⟨(i, (i + j) / 2), by simp only;omega, hk.subD (by (repeat (first | exact trivial | refine ⟨rfl, ?_⟩ | refine ⟨trivial, ?_⟩));fail_if_success focus skip), hS, by simp only;omega, by simp only;omega, h3, fun k h hk2 => ?_⟩
   simp only at hk2
   by_cases e : k = (i + j) / 2
   ·subst e;simpa using hc
   ·cases hb : Lin.lt (nmI es[k]) x with
    | false => rfl
    | true => exact absurd (Lin.tr (hpw ((i + j) / 2) k (by omega) h (by omega)) hb) hc
 ·refine sg hk (g_callvO hk (hf := by kernel_rfl) (hc := where1I_any _ x _) (h := ?_));clear hk a;rintro _ w ⟨rfl, hS1⟩ a hk;replace hS := hS.call0 hS1;clear hS1
  have hij : i = j := by omega
  subst hij
  (repeat' (first|((first|refine wx1 ?_|refine wx2 ?_ ?_<;>intro hp|refine s_end hk ?_)<;>(clear hk a;intro a hk))|((first|refine wx3 ?_;intro w b|refine wx4 ?_;intro w|refine wx5 ?_;intro w v);clear hk hS a;intro hS a hk)|refine wx0 ?_|fail))
  ·refine done2 hk (h := ⟨i, _, rfl, ⟨by omega, h3, h4, ?_⟩, hS.nil⟩)
   have hz : cmpF (nmI (es[i]'(by omega))) x = 0 := by assumption
   simp only [true_iff]
   exact ⟨by omega, cmp_eq.1 hz⟩
  ·refine done2 hk (h := ⟨i, _, rfl, ⟨by omega, h3, h4, ?_⟩, hS.nil⟩)
   have hz : ¬ cmpF (nmI (es[i]'(by omega))) x = 0 := by assumption
   constructor
   ·intro h;cases h
   ·rintro ⟨_, h⟩;exact absurd (cmp_eq.2 h) hz
 ·have hij : i = j := by omega
  subst hij
  refine done2 hk (h := ⟨i, _, rfl, ⟨by omega, h3, h4, ?_⟩, hS.nil⟩)
  constructor
  ·intro h;cases h
  ·rintro ⟨h, _⟩;omega
theorem whereI_any (s : List PrI) (k : ByteArray) (v : Value) (w0 : World) (hv : SlT s v w0) (hl : s.length ≤ 1000) (hr : Rises nmI s) :
  Calls Tryz.prog 124 #[v, .string k] w0 (Ret fun v w => ∃ (n : Nat) (f : Bool), v = .tuple #[.int .i64 n, .bool f] ∧ Found nmI s k n f ∧ St w0 [] w) := by
 refine enter Tryz.func124 rfl Tryz.ntmps124 rfl (fun a hk => ?_);have hS := St.refl w0
 (repeat' (first|((first|refine wx1 ?_|refine wx2 ?_ ?_<;>intro hp|refine s_end hk ?_)<;>(clear hk a;intro a hk))|((first|refine wx3 ?_;intro w b|refine wx4 ?_;intro w|refine wx5 ?_;intro w v);clear hk hS a;intro hS a hk)|refine wx0 ?_|fail))
 refine sg hk (g_callO hk (hf := by kernel_rfl) (hc := bsI_any s k v _ (hS.rdT hv) hl hr) (h := ?_));clear hk a;rintro vr w ⟨n, f, rfl, hF, hS1⟩ a hk;replace hS := hS.call hS1;clear hS1
 (repeat' (first|((first|refine wx1 ?_|refine wx2 ?_ ?_<;>intro hp|refine s_end hk ?_)<;>(clear hk a;intro a hk))|((first|refine wx3 ?_;intro w b|refine wx4 ?_;intro w|refine wx5 ?_;intro w v);clear hk hS a;intro hS a hk)|refine wx0 ?_|fail))
 exact done2 hk (h := ⟨n, f, rfl, hF, hS.nil⟩)
set_option maxHeartbeats 1000000 in
theorem insI_any {B : Bs} {w : World} {L : List HP} {xs : List PrI} {e : PrI} {i : Nat} {v ve : Value} (hS : St B (OwT 100 xs v :: OwT 100 [e] ve :: L) w) (hi : i ≤ xs.length) (hl : xs.length ≤ 1000) :
  Calls Tryz.prog 137 #[v, .int .i64 (i : Int), ve] w (Ret fun v' w' => St B (OwT 100 (insF xs i e) v' :: L) w') := by
 have hx : SlT xs v w := OwT.rd (hS.rd (A := OwT 100 xs v) atx)
 have he : SlT [e] ve w := OwT.rd (hS.rd (A := OwT 100 [e] ve) atx)
 have h1l : ([e] : List PrI).length = 1 := rfl
 by_cases hin : i = xs.length
 ·subst hin
  refine enter Tryz.func137 rfl Tryz.ntmps137 rfl (fun a hk => ?_)
  (repeat' (first|((first|refine wx1 ?_|refine wx2 ?_ ?_<;>intro hp|refine s_end hk ?_)<;>(clear hk a;intro a hk))|((first|refine wx3 ?_;intro w b|refine wx4 ?_;intro w|refine wx5 ?_;intro w v);clear hk hS a;intro hS a hk)|refine wx0 ?_|fail))
  refine sg hk (g_partF (i := xs.length) hk ?_ (ht := eT rfl) (hs := (by first | exact St.rdT hS (by assumption) | exact OwT.rd (hS.rd (A := OwT _ _ _) atx) | assumption)) (hE := zT rfl) (hi := by omega));clear hk a;intro vq hvq a hk
  (repeat' (first|((first|refine wx1 ?_|refine wx2 ?_ ?_<;>intro hp|refine s_end hk ?_)<;>(clear hk a;intro a hk))|((first|refine wx3 ?_;intro w b|refine wx4 ?_;intro w|refine wx5 ?_;intro w v);clear hk hS a;intro hS a hk)|refine wx0 ?_|fail))
  refine done1 hk (h := ?_)
  have e1 : insF xs xs.length e = xs ++ [e] := by simp [insF]
  rw [e1]
  exact hS
 ·obtain ⟨b, off, cap, rfl, _, _⟩ := hS.ownCells (E := 100) (xs := xs) At.here (by intro h;subst h;simp at hi hin;exact hin hi)
  obtain ⟨b', off', cap', rfl, _, _⟩ := hS.ownCells (E := 100) (xs := [e]) (At.there At.here) (by simp)
  obtain ⟨vs, hS1, hvl, hnc, hcm, hcl, hvs⟩ := hS.ownPts At.here
  obtain ⟨vs', hS2, hvl', hnc', hcm', hcl', hvs'⟩ := hS1.ownPts (At.there At.here)
  replace hS := hS2
  have hvn : vs ≠ [] := by
   intro h
   rw [h, List.length_nil] at hvl
   have := Nat.le_mul_of_pos_right cap (show 0 < Enc.k PrI + 1 by omega)
   omega
  clear hS1 hS2
  by_cases hc : xs.length + 1 ≤ cap
  ·refine enter Tryz.func137 rfl Tryz.ntmps137 rfl (fun a hk => ?_)
   (repeat' (first|((first|refine wx1 ?_|refine wx2 ?_ ?_<;>intro hp|refine s_end hk ?_)<;>(clear hk a;intro a hk))|((first|refine wx3 ?_;intro w b|refine wx4 ?_;intro w|refine wx5 ?_;intro w v);clear hk hS a;intro hS a hk)|refine wx0 ?_|fail))
   refine sg hk (g_partF (i := i) hk ?_ (ht := eT rfl) (hs := (by first | exact St.rdT hS (by assumption) | exact OwT.rd (hS.rd (A := OwT _ _ _) atx) | assumption)) (hE := zT rfl) (hi := by omega));clear hk a;intro vq hvq a hk
   (repeat' (first|((first|refine wx1 ?_|refine wx2 ?_ ?_<;>intro hp|refine s_end hk ?_)<;>(clear hk a;intro a hk))|((first|refine wx3 ?_;intro w b|refine wx4 ?_;intro w|refine wx5 ?_;intro w v);clear hk hS a;intro hS a hk)|refine wx0 ?_|fail))
   refine sg hk (g_capC hk ?_ (ht := eT rfl));clear hk a;intro a hk
   (repeat' (first|((first|refine wx1 ?_|refine wx2 ?_ ?_<;>intro hp|refine s_end hk ?_)<;>(clear hk a;intro a hk))|((first|refine wx3 ?_;intro w b|refine wx4 ?_;intro w|refine wx5 ?_;intro w v);clear hk hS a;intro hS a hk)|refine wx0 ?_|fail))
   refine sg hk (g_slTc (xs.length + 1) (k := Enc.k PrI) hk ?_ (ht := eT rfl) (hE := zT rfl) (hp := by omega) (hj := by omega));clear hk a;intro a hk
   (repeat' (first|((first|refine wx1 ?_|refine wx2 ?_ ?_<;>intro hp|refine s_end hk ?_)<;>(clear hk a;intro a hk))|((first|refine wx3 ?_;intro w b|refine wx4 ?_;intro w|refine wx5 ?_;intro w v);clear hk hS a;intro hS a hk)|refine wx0 ?_|fail))
   refine sg hk (g_slFc (i + 1) (k := Enc.k PrI) hk ?_ (ht := eT rfl) (hE := zT rfl) (hp := by omega) (him := by omega) (hc := by omega));clear hk a;intro a hk
   (repeat' (first|((first|refine wx1 ?_|refine wx2 ?_ ?_<;>intro hp|refine s_end hk ?_)<;>(clear hk a;intro a hk))|((first|refine wx3 ?_;intro w b|refine wx4 ?_;intro w|refine wx5 ?_;intro w v);clear hk hS a;intro hS a hk)|refine wx0 ?_|fail))
   refine sg hk (g_ovl hk hS ?_ (hf := Tryz.func156) (hname := by kernel_rfl) (hb := by kernel_rfl) (hn := by kernel_rfl) (he := by kernel_rfl) (ht := eT rfl) (hE := zT rfl) (tS := 37) (tR := 4) (hne := hvn));clear hk a;intro a hk
   (repeat' (first|((first|refine wx1 ?_|refine wx2 ?_ ?_<;>intro hp|refine s_end hk ?_)<;>(clear hk a;intro a hk))|((first|refine wx3 ?_;intro w b|refine wx4 ?_;intro w|refine wx5 ?_;intro w v);clear hk hS a;intro hS a hk)|refine wx0 ?_|fail))
   replace hS := hS.sub (.cons (.there .here) (.cons .here .refl))
   refine wp_drawnU1 9 mixed (by kernel_rfl) hk hS ?_;clear hk hS a
   (repeat' (first|(show ObxE _ _ _ _ _ _ _ _ _ (_::_) _ _ _;first|refine ox1 ?_|refine ox2 ?_ ?_<;>intro hp)|fail))
   refine' obe_val (fun us a w hk hd hS => ?_) ?_;rotate_left;focus (have hk := Kn.vw hk vwx;exact g_slFc (i + 1) (k := Enc.k PrI) hk (same _ _) (ht := eT rfl) (hE := zT rfl) (hp := by omega) (him := by omega) (hc := by omega))
   (repeat' (first|(show ObxE _ _ _ _ _ _ _ _ _ (_::_) _ _ _;first|refine ox1 ?_|refine ox2 ?_ ?_<;>intro hp)|fail))
   refine' obe_val (fun us a w hk hd hS => ?_) ?_;rotate_left;focus (have hk := Kn.vw hk vwx;exact g_slFc i (k := Enc.k PrI) hk (same _ _) (ht := eT rfl) (hE := zT rfl) (hp := by omega) (him := by omega) (hc := by omega))
   (repeat' (first|(show ObxE _ _ _ _ _ _ _ _ _ (_::_) _ _ _;first|refine ox1 ?_|refine ox2 ?_ ?_<;>intro hp)|fail))
   refine' obe_upd (pts b vs 100) (V := fun _ => pts b (splice vs (off + (i + 1) * (Enc.k PrI + 1)) (enc (xs.drop i))) 100) (fun us a w X hk hd hS hL => ?_) ?_
   ·have hk := Kn.vw hk vwx
    exact g_copyC (E := 100) (k := Enc.k PrI) hk hS (fun w' hS' => hS') (q := xs.length - i) (ht := eT rfl) (hE := zT rfl) (hq := by simp only [Nat.min_def];split <;> omega) (hl := by rw [enc_len, List.length_drop]) (hsrc := Cells.dropT i (pts.block (hS.rd At.here)) hvs) (h1 := enc_one _)
     (hfit := by rw [enc_len, List.length_drop, Nat.add_assoc, ← Nat.add_mul];exact Nat.le_trans (Nat.add_le_add_left (Nat.mul_le_mul_right _ (by omega)) _) hvl)
   (repeat' (first|(show ObxE _ _ _ _ _ _ _ _ _ (_::_) _ _ _;first|refine ox1 ?_|refine ox2 ?_ ?_<;>intro hp)|fail))
   refine obe_nil ⟨rfl, ?_⟩;intro us a w hk hS
   simp only [resE] at hS
   (repeat' (first|((first|refine wx1 ?_|refine wx2 ?_ ?_<;>intro hp|refine s_end hk ?_)<;>(clear hk a;intro a hk))|((first|refine wx3 ?_;intro w b|refine wx4 ?_;intro w|refine wx5 ?_;intro w v);clear hk hS a;intro hS a hk)|refine wx0 ?_|fail))
   refine sg hk (g_slFc i (k := Enc.k PrI) hk ?_ (ht := eT rfl) (hE := zT rfl) (hp := by omega) (him := by omega) (hc := by omega));clear hk a;intro a hk
   (repeat' (first|((first|refine wx1 ?_|refine wx2 ?_ ?_<;>intro hp|refine s_end hk ?_)<;>(clear hk a;intro a hk))|((first|refine wx3 ?_;intro w b|refine wx4 ?_;intro w|refine wx5 ?_;intro w v);clear hk hS a;intro hS a hk)|refine wx0 ?_|fail))
   refine sg hk (g_copyC (E := 100) (k := Enc.k PrI) hk hS ?_ (q := 1) (ht := eT rfl) (hE := zT rfl) (hq := by simp only [Nat.min_def];split <;> omega) (hl := by rw [Enc.len, Nat.one_mul]) (hsrc := ?_) (h1 := Enc.one e) (hfit := ?_))
   rotate_left
   ·have := Cells.takeT (xs := [e]) 1 (pts.block (hS.rd (A := pts b' vs' 100) atx)) hvs'
    rwa [List.take_of_length_le (by rw [h1l];exact Nat.le_refl 1), enc_single] at this
   ·rw [splice_len, Enc.len, Nat.add_assoc, ← Nat.succ_mul]
    exact Nat.le_trans (Nat.add_le_add_left (Nat.mul_le_mul_right _ (by omega)) _) hvl
   clear hk hS a
   intro w hS a hk
   (repeat' (first|((first|refine wx1 ?_|refine wx2 ?_ ?_<;>intro hp|refine s_end hk ?_)<;>(clear hk a;intro a hk))|((first|refine wx3 ?_;intro w b|refine wx4 ?_;intro w|refine wx5 ?_;intro w v);clear hk hS a;intro hS a hk)|refine wx0 ?_|fail))
   obtain ⟨hl0, hc0⟩ := ins_cells (xs := xs) (i := i) (off := off) (e := e) (vs := vs) (by omega) (Nat.le_trans (Nat.add_le_add_left (Nat.mul_le_mul_right _ hc) _) hvl) (fun j u hj => by
    rw [← enc_take, List.getElem?_take] at hj
    split at hj
    ·exact hvs j u hj
    ·cases hj) (.inl rfl)
   have hF := hS.toOwn (ys := insF xs i e) At.here (by rw [insF_len hi];exact hc) hcm (by rw [hl0];exact hvl) hc0
   rw [insF_len hi] at hF
   exact done1 hk (h := hF.sub (.cons .here Sub.cons_drop))
  ·refine enter Tryz.func137 rfl Tryz.ntmps137 rfl (fun a hk => ?_)
   (repeat' (first|((first|refine wx1 ?_|refine wx2 ?_ ?_<;>intro hp|refine s_end hk ?_)<;>(clear hk a;intro a hk))|((first|refine wx3 ?_;intro w b|refine wx4 ?_;intro w|refine wx5 ?_;intro w v);clear hk hS a;intro hS a hk)|refine wx0 ?_|fail))
   refine sg hk (g_partF (i := i) hk ?_ (ht := eT rfl) (hs := (by first | exact St.rdT hS (by assumption) | exact OwT.rd (hS.rd (A := OwT _ _ _) atx) | assumption)) (hE := zT rfl) (hi := by omega));clear hk a;intro vq hvq a hk
   (repeat' (first|((first|refine wx1 ?_|refine wx2 ?_ ?_<;>intro hp|refine s_end hk ?_)<;>(clear hk a;intro a hk))|((first|refine wx3 ?_;intro w b|refine wx4 ?_;intro w|refine wx5 ?_;intro w v);clear hk hS a;intro hS a hk)|refine wx0 ?_|fail))
   refine sg hk (g_capC hk ?_ (ht := eT rfl));clear hk a;intro a hk
   (repeat' (first|((first|refine wx1 ?_|refine wx2 ?_ ?_<;>intro hp|refine s_end hk ?_)<;>(clear hk a;intro a hk))|((first|refine wx3 ?_;intro w b|refine wx4 ?_;intro w|refine wx5 ?_;intro w v);clear hk hS a;intro hS a hk)|refine wx0 ?_|fail))
   refine sg hk (g_slTc i (k := Enc.k PrI) hk ?_ (ht := eT rfl) (hE := zT rfl) (hp := by omega) (hj := by omega));clear hk a;intro a hk
   (repeat' (first|((first|refine wx1 ?_|refine wx2 ?_ ?_<;>intro hp|refine s_end hk ?_)<;>(clear hk a;intro a hk))|((first|refine wx3 ?_;intro w b|refine wx4 ?_;intro w|refine wx5 ?_;intro w v);clear hk hS a;intro hS a hk)|refine wx0 ?_|fail))
   refine sg hk (g_appZ (cs := enc (xs.take i)) (i := i) (q := xs.length + 1 - i) (k := Enc.k PrI) hk hS ?_ (hp := by omega) (ht := eT rfl) (htx := iT rfl) (hE := zT rfl) (hz := oT rfl) (hzs := rfl) (hz1 := by decide) (hby := bT rfl) (h0 := by omega) (hc := by omega) (hl := by rw [enc_len, List.length_take, Nat.min_eq_left hi]) (hcs := Cells.takeT i (pts.block (hS.rd (A := pts b vs 100) atx)) hvs) (h1 := enc_one _) (hbytes := by omega) (h63 := by simp only [maxLen];omega))
   clear hk hS a
   intro w b2 c2 zs hg1 hg2 hg3 hg4 hg5 hS a hk
   rw [show i + (xs.length + 1 - i) = xs.length + 1 by omega] at hk hg1
   (repeat' (first|((first|refine wx1 ?_|refine wx2 ?_ ?_<;>intro hp|refine s_end hk ?_)<;>(clear hk a;intro a hk))|((first|refine wx3 ?_;intro w b|refine wx4 ?_;intro w|refine wx5 ?_;intro w v);clear hk hS a;intro hS a hk)|refine wx0 ?_|fail))
   refine sg hk (g_slFc i (k := Enc.k PrI) hk ?_ (ht := eT rfl) (hE := zT rfl) (hp := by omega) (him := by omega) (hc := by omega));clear hk a;intro a hk
   (repeat' (first|((first|refine wx1 ?_|refine wx2 ?_ ?_<;>intro hp|refine s_end hk ?_)<;>(clear hk a;intro a hk))|((first|refine wx3 ?_;intro w b|refine wx4 ?_;intro w|refine wx5 ?_;intro w v);clear hk hS a;intro hS a hk)|refine wx0 ?_|fail))
   refine sg hk (g_copyC (E := 100) (k := Enc.k PrI) hk hS ?_ (q := 1) (ht := eT rfl) (hE := zT rfl) (hq := by simp only [Nat.min_def];split <;> omega) (hl := by rw [Enc.len, Nat.one_mul]) (hsrc := ?_) (h1 := Enc.one e) (hfit := ?_))
   rotate_left
   ·have := Cells.takeT (xs := [e]) 1 (pts.block (hS.rd (A := pts b' vs' 100) atx)) hvs'
    rwa [List.take_of_length_le (by rw [h1l];exact Nat.le_refl 1), enc_single] at this
   ·rw [Enc.len, Nat.add_assoc, ← Nat.succ_mul, Nat.zero_add, hg3]
    exact Nat.mul_le_mul_right _ (by omega)
   clear hk hS a
   intro w hS a hk
   (repeat' (first|((first|refine wx1 ?_|refine wx2 ?_ ?_<;>intro hp|refine s_end hk ?_)<;>(clear hk a;intro a hk))|((first|refine wx3 ?_;intro w b|refine wx4 ?_;intro w|refine wx5 ?_;intro w v);clear hk hS a;intro hS a hk)|refine wx0 ?_|fail))
   refine wp_drawnU1 9 mixed (by kernel_rfl) hk hS ?_;clear hk hS a
   (repeat' (first|(show ObxE _ _ _ _ _ _ _ _ _ (_::_) _ _ _;first|refine ox1 ?_|refine ox2 ?_ ?_<;>intro hp)|fail))
   refine' obe_val (fun us a w hk hd hS => ?_) ?_;rotate_left;focus (have hk := Kn.vw hk vwx;exact g_slFc (i + 1) (k := Enc.k PrI) hk (same _ _) (ht := eT rfl) (hE := zT rfl) (hp := by omega) (him := by omega) (hc := by omega))
   (repeat' (first|(show ObxE _ _ _ _ _ _ _ _ _ (_::_) _ _ _;first|refine ox1 ?_|refine ox2 ?_ ?_<;>intro hp)|fail))
   refine' obe_val (fun us a w hk hd hS => ?_) ?_;rotate_left;focus (have hk := Kn.vw hk vwx;exact g_slFc i (k := Enc.k PrI) hk (same _ _) (ht := eT rfl) (hE := zT rfl) (hp := by omega) (him := by omega) (hc := by omega))
   (repeat' (first|(show ObxE _ _ _ _ _ _ _ _ _ (_::_) _ _ _;first|refine ox1 ?_|refine ox2 ?_ ?_<;>intro hp)|fail))
   refine' obe_upd (pts b2 (splice zs (0 + i * (Enc.k PrI + 1)) (Enc.f e)) 100) (V := fun _ => pts b2 (splice (splice zs (0 + i * (Enc.k PrI + 1)) (Enc.f e)) (0 + (i + 1) * (Enc.k PrI + 1)) (enc (xs.drop i))) 100) (fun us a w X hk hd hS hL => ?_) ?_
   ·have hk := Kn.vw hk vwx
    exact g_copyC (E := 100) (k := Enc.k PrI) hk hS (fun w' hS' => hS') (q := xs.length - i) (ht := eT rfl) (hE := zT rfl) (hq := by simp only [Nat.min_def];split <;> omega) (hl := by rw [enc_len, List.length_drop]) (hsrc := Cells.dropT i (pts.block (hL.rd (A := pts b vs 100) atx)) hvs) (h1 := enc_one _)
     (hfit := by rw [splice_len, enc_len, List.length_drop, Nat.add_assoc, ← Nat.add_mul, Nat.zero_add, hg3];exact Nat.mul_le_mul_right _ (by omega))
   (repeat' (first|(show ObxE _ _ _ _ _ _ _ _ _ (_::_) _ _ _;first|refine ox1 ?_|refine ox2 ?_ ?_<;>intro hp)|fail))
   refine obe_nil ⟨rfl, ?_⟩;intro us a w hk hS
   simp only [resE] at hS
   (repeat' (first|((first|refine wx1 ?_|refine wx2 ?_ ?_<;>intro hp|refine s_end hk ?_)<;>(clear hk a;intro a hk))|((first|refine wx3 ?_;intro w b|refine wx4 ?_;intro w|refine wx5 ?_;intro w v);clear hk hS a;intro hS a hk)|refine wx0 ?_|fail))
   obtain ⟨hl0, hc0⟩ := ins_cells (xs := xs) (i := i) (off := 0) (e := e) (vs := zs) (by omega) (by rw [Nat.zero_add, hg3];exact Nat.mul_le_mul_right _ hg1) (fun j u hj => by rw [Nat.zero_add];exact hg4 j u hj) (.inr rfl)
   have hF := hS.toOwn (ys := insF xs i e) At.here (by rw [insF_len hi];exact hg1) hg2 (by rw [hl0, Nat.zero_add, hg3];exact Nat.le_refl _) hc0
   rw [insF_len hi] at hF
   exact done1 hk (h := hF.sub (.cons .here (Sub.under Sub.cons_drop)))
set_option maxHeartbeats 1000000 in
theorem putI_any {B : Bs} {w : World} {L : List HP} {s : List PrI} {v : Value} (p : PrI) (hS : St B (OwT 100 s v :: L) w) (hl : s.length ≤ 1000) (hr : Rises nmI s) :
  Calls Tryz.prog 114 #[v, .agg (Enc.f p).toArray] w (Ret fun v' w' => St B (OwT 100 (putF nmI s p) v' :: L) w') := by
 obtain ⟨k, x⟩ := p
 refine enter Tryz.func114 rfl Tryz.ntmps114 rfl (fun a hk => ?_)
 (repeat' (first|((first|refine wx1 ?_|refine wx2 ?_ ?_<;>intro hp|refine s_end hk ?_)<;>(clear hk a;intro a hk))|((first|refine wx3 ?_;intro w b|refine wx4 ?_;intro w|refine wx5 ?_;intro w v);clear hk hS a;intro hS a hk)|refine wx0 ?_|fail))
 refine sg hk (g_callO hk (hf := by kernel_rfl) (hc := whereI_any s k v _ (by first | exact St.rdT hS (by assumption) | exact OwT.rd (hS.rd (A := OwT _ _ _) atx) | assumption) hl hr) (h := ?_));clear hk a;rintro vr w ⟨n, f, rfl, hF, hS1⟩ a hk;replace hS := hS.call hS1;clear hS1
 cases f with
 | true =>
  obtain ⟨hn, hset⟩ := found_set nmI (e := (k, x)) hF
  (repeat' (first|((first|refine wx1 ?_|refine wx2 ?_ ?_<;>intro hp|refine s_end hk ?_)<;>(clear hk a;intro a hk))|((first|refine wx3 ?_;intro w b|refine wx4 ?_;intro w|refine wx5 ?_;intro w v);clear hk hS a;intro hS a hk)|refine wx0 ?_|fail))
  refine su hk (g_stT (xs := s) (z := (k, x)) hk hS ?_ (hsz := zT rfl) (hi := hn))
  clear hk hS a
  intro w hS a hk
  rw [hset] at hS
  (repeat' (first|((first|refine wx1 ?_|refine wx2 ?_ ?_<;>intro hp|refine s_end hk ?_)<;>(clear hk a;intro a hk))|((first|refine wx3 ?_;intro w b|refine wx4 ?_;intro w|refine wx5 ?_;intro w v);clear hk hS a;intro hS a hk)|refine wx0 ?_|fail))
  exact done1 hk (h := hS.sub (.cons .here (Sub.under .refl)))
 | false =>
  obtain ⟨hn, hset⟩ := found_ins nmI (e := (k, x)) hF
  (repeat' (first|((first|refine wx1 ?_|refine wx2 ?_ ?_<;>intro hp|refine s_end hk ?_)<;>(clear hk a;intro a hk))|((first|refine wx3 ?_;intro w b|refine wx4 ?_;intro w|refine wx5 ?_;intro w v);clear hk hS a;intro hS a hk)|refine wx0 ?_|fail))
  refine sg hk (g_bsT (xs := [((k, x) : PrI)]) (m := 0) hk hS ?_ (hT := eT rfl) (hE := zT rfl) (hz := oT rfl));clear hk hS a;intro w ve hS a hk
  (repeat' (first|((first|refine wx1 ?_|refine wx2 ?_ ?_<;>intro hp|refine s_end hk ?_)<;>(clear hk a;intro a hk))|((first|refine wx3 ?_;intro w b|refine wx4 ?_;intro w|refine wx5 ?_;intro w v);clear hk hS a;intro hS a hk)|refine wx0 ?_|fail))
  refine sg hk (g_callO hk (hf := by kernel_rfl) (hc := insI_any (xs := s) (e := (k, x)) (v := v) (ve := ve) (hS.sub (.cons (.there (.there .here)) (.cons .here (Sub.under .refl)))) hn (by omega)) (h := ?_));clear hk hS a;intro vr w hS a hk
  rw [show insF s n _ = _ from hset] at hS
  (repeat' (first|((first|refine wx1 ?_|refine wx2 ?_ ?_<;>intro hp|refine s_end hk ?_)<;>(clear hk a;intro a hk))|((first|refine wx3 ?_;intro w b|refine wx4 ?_;intro w|refine wx5 ?_;intro w v);clear hk hS a;intro hS a hk)|refine wx0 ?_|fail))
  exact done1 hk (h := hS)
set_option maxHeartbeats 1000000 in
theorem ofI_any (l : List PrI) (v : Value) (w0 : World) (hv : SlT l v w0) (hl : l.length ≤ 1000) :
  Calls Tryz.prog 84 #[v] w0 (Ret fun v w => St w0 [OwT 100 (snapF nmI l) v] w) := by
 refine enter Tryz.func84 rfl Tryz.ntmps84 rfl (fun a hk => ?_);have hS := St.refl w0
 (repeat' (first|((first|refine wx1 ?_|refine wx2 ?_ ?_<;>intro hp|refine s_end hk ?_)<;>(clear hk a;intro a hk))|((first|refine wx3 ?_;intro w b|refine wx4 ?_;intro w|refine wx5 ?_;intro w v);clear hk hS a;intro hS a hk)|refine wx0 ?_|fail))
 replace hS := hS.nilT 100 PrI
 replace hk := Kn.kp [3, 6, 7, 8] hk
 refine wp_for l.length (fun i v => [(3, v), (8, .int .i64 (i : Int))]) (fun i v => [OwT 100 (snapF nmI (l.take i)) v]) (fun _ _ => True) (.slice none 0 0) hk skx hS.sb trivial ?_
 clear hk hS a
 rintro i vo a w hi hk hS -
 by_cases hil : i < l.length
 ·obtain ⟨⟨k, x⟩, hx⟩ : ∃ x, l[i]? = some x := ⟨_, List.getElem?_eq_getElem hil⟩
  have hsn : snapF nmI (l.take (i + 1)) = putF nmI (snapF nmI (l.take i)) (k, x) := by rw [take_snoc hx, snap_snoc]
  have hsl : (snapF nmI (l.take i)).length ≤ i := Nat.le_trans (snap_len nmI _) (by rw [List.length_take];omega)
  have hsr := snap_rises nmI (l.take i)
  generalize snapF nmI (l.take i) = S at *
  (repeat' (first|((first|refine wx1 ?_|refine wx2 ?_ ?_<;>intro hp|refine s_end hk ?_)<;>(clear hk a;intro a hk))|((first|refine wx3 ?_;intro w b|refine wx4 ?_;intro w|refine wx5 ?_;intro w v);clear hk hS a;intro hS a hk)|refine wx0 ?_|fail))
  refine sg hk (g_callO hk (hf := by kernel_rfl) (hc := putI_any (s := S) (v := vo) (L := []) ((k, x) : PrI) (hS.sub (by (repeat (first | exact Sub.nil | exact Sub.refl | refine Sub.cons atx ?_)))) (by omega) hsr) (h := ?_));clear hk hS a;intro vr w hS a hk
  rw [← hsn] at hS
  (repeat' (first|((first|refine wx1 ?_|refine wx2 ?_ ?_<;>intro hp|refine s_end hk ?_)<;>(clear hk a;intro a hk))|((first|refine wx3 ?_;intro w b|refine wx4 ?_;intro w|refine wx5 ?_;intro w v);clear hk hS a;intro hS a hk)|refine wx0 ?_|fail))
  exact ⟨hil, _, hk.sd, hS.sb, trivial⟩
 ·have : i = l.length := by omega
  subst this
  rw [List.take_length] at hS
  (repeat' (first|((first|refine wx1 ?_|refine wx2 ?_ ?_<;>intro hp|refine s_end hk ?_)<;>(clear hk a;intro a hk))|((first|refine wx3 ?_;intro w b|refine wx4 ?_;intro w|refine wx5 ?_;intro w v);clear hk hS a;intro hS a hk)|refine wx0 ?_|fail))
  exact done1 hk (h := hS.sb)
abbrev PrS := ByteArray × ByteArray
abbrev nmS (p : PrS) : ByteArray := p.1
theorem where1S_any (e : PrS) (k : ByteArray) (w0 : World) : Calls Tryz.prog 141 #[.agg (Enc.f e).toArray, .string k] w0 (Ret fun v w => v = .int .i64 (cmpF e.1 k) ∧ St w0 [] w) := by
 obtain ⟨n, x⟩ := e
 refine enter Tryz.func141 rfl Tryz.ntmps141 rfl (fun a hk => ?_);have hS := St.refl w0
 (repeat' (first|((first|refine wx1 ?_|refine wx2 ?_ ?_<;>intro hp|refine s_end hk ?_)<;>(clear hk a;intro a hk))|((first|refine wx3 ?_;intro w b|refine wx4 ?_;intro w|refine wx5 ?_;intro w v);clear hk hS a;intro hS a hk)|refine wx0 ?_|fail))
 refine sg hk (g_callO hk (hf := by kernel_rfl) (hc := cmpS_any _ _ _) (h := ?_));clear hk a;rintro _ w ⟨rfl, hS1⟩ a hk;replace hS := hS.call0 hS1;clear hS1
 (repeat' (first|((first|refine wx1 ?_|refine wx2 ?_ ?_<;>intro hp|refine s_end hk ?_)<;>(clear hk a;intro a hk))|((first|refine wx3 ?_;intro w b|refine wx4 ?_;intro w|refine wx5 ?_;intro w v);clear hk hS a;intro hS a hk)|refine wx0 ?_|fail))
 exact done1 hk (h := ⟨rfl, hS.nil⟩)
set_option maxHeartbeats 1000000 in
theorem bsS_any (es : List PrS) (x : ByteArray) (v : Value) (w0 : World) (hv : SlT es v w0) (hl : es.length ≤ 1000) (hr : Rises nmS es) :
  Calls Tryz.prog 140 #[v, .string x, .func (.func 141) #[] #[]] w0
  (Ret fun v w => ∃ (n : Nat) (f : Bool), v = .tuple #[.int .i64 n, .bool f] ∧ Found nmS es x n f ∧ St w0 [] w) := by
 have hpw := List.pairwise_iff_getElem.1 hr
 refine enter Tryz.func140 rfl Tryz.ntmps140 rfl (fun a hk => ?_);have hS := St.refl w0
 (repeat' (first|((first|refine wx1 ?_|refine wx2 ?_ ?_<;>intro hp|refine s_end hk ?_)<;>(clear hk a;intro a hk))|((first|refine wx3 ?_;intro w b|refine wx4 ?_;intro w|refine wx5 ?_;intro w v);clear hk hS a;intro hS a hk)|refine wx0 ?_|fail))
 replace hk := Kn.kp [0, 1, 2, 8, 9, 10] hk
 refine wp_while (fun x : Nat × Nat => [(9, .int .i64 (x.1 : Int)), (10, .int .i64 (x.2 : Int))]) (fun _ => []) (fun s => s.1 ≤ s.2 ∧ s.2 ≤ es.length ∧ (∀ i (h : i < es.length), i < s.1 → Lin.lt (nmS es[i]) x = true) ∧ (∀ i (h : i < es.length), s.2 ≤ i → Lin.lt (nmS es[i]) x = false))
  (fun x => x.2 - x.1) (0, es.length) hk skx hS ⟨by simp only;omega, by simp only;omega, fun i _ h => by simp only at h;omega, fun i _ h => by simp only at h;omega⟩ ?_
 clear hk hS a
 rintro ⟨i, j⟩ a w hk hS ⟨h1, h2, h3, h4⟩
 simp only at hk h1 h2 h3 h4
 (repeat' (first|((first|refine wx1 ?_|refine wx2 ?_ ?_<;>intro hp|refine s_end hk ?_)<;>(clear hk a;intro a hk))|((first|refine wx3 ?_;intro w b|refine wx4 ?_;intro w|refine wx5 ?_;intro w v);clear hk hS a;intro hS a hk)|refine wx0 ?_|fail))
 ·have e : ((i : Int) + j) / 2 = ((i + j) / 2 : Nat) := by omega
  simp only [e, Int.toNat_natCast] at hk
  refine sg hk (g_callvO hk (hf := by kernel_rfl) (hc := where1S_any _ x _) (h := ?_));clear hk a;rintro _ w ⟨rfl, hS1⟩ a hk;replace hS := hS.call0 hS1;clear hS1
  by_cases hc : Lin.lt (nmS (es[(i + j) / 2]'(by omega))) x = true
  ·rw [show cmpF (nmS (es[(i + j) / 2]'(by omega))) x = -1 from cmp_lt hc] at hk
   (repeat' (first|((first|refine wx1 ?_|refine wx2 ?_ ?_<;>intro hp|refine s_end hk ?_)<;>(clear hk a;intro a hk))|((first|refine wx3 ?_;intro w b|refine wx4 ?_;intro w|refine wx5 ?_;intro w v);clear hk hS a;intro hS a hk)|refine wx0 ?_|fail))
   refine ⟨((i + j) / 2 + 1, j), by simp only;omega, hk.subD (by (repeat (first | exact trivial | refine ⟨rfl, ?_⟩ | refine ⟨trivial, ?_⟩));fail_if_success focus skip), hS, by simp only;omega, h2, fun k h hk2 => ?_, h4⟩
   simp only at hk2
   by_cases e : k = (i + j) / 2
   ·subst e;exact hc
   ·exact Lin.tr (hpw k ((i + j) / 2) (by omega) (by omega) (by omega)) hc
  ·have hn : ¬ cmpF (nmS (es[(i + j) / 2]'(by omega))) x < 0 := cmp_ge (by simpa using hc)
   (repeat' (first|((first|refine wx1 ?_|refine wx2 ?_ ?_<;>intro hp|refine s_end hk ?_)<;>(clear hk a;intro a hk))|((first|refine wx3 ?_;intro w b|refine wx4 ?_;intro w|refine wx5 ?_;intro w v);clear hk hS a;intro hS a hk)|refine wx0 ?_|fail))
   refine ⟨(i, (i + j) / 2), by simp only;omega, hk.subD (by (repeat (first | exact trivial | refine ⟨rfl, ?_⟩ | refine ⟨trivial, ?_⟩));fail_if_success focus skip), hS, by simp only;omega, by simp only;omega, h3, fun k h hk2 => ?_⟩
   simp only at hk2
   by_cases e : k = (i + j) / 2
   ·subst e;simpa using hc
   ·cases hb : Lin.lt (nmS es[k]) x with
    | false => rfl
    | true => exact absurd (Lin.tr (hpw ((i + j) / 2) k (by omega) h (by omega)) hb) hc
 ·refine sg hk (g_callvO hk (hf := by kernel_rfl) (hc := where1S_any _ x _) (h := ?_));clear hk a;rintro _ w ⟨rfl, hS1⟩ a hk;replace hS := hS.call0 hS1;clear hS1
  have hij : i = j := by omega
  subst hij
  (repeat' (first|((first|refine wx1 ?_|refine wx2 ?_ ?_<;>intro hp|refine s_end hk ?_)<;>(clear hk a;intro a hk))|((first|refine wx3 ?_;intro w b|refine wx4 ?_;intro w|refine wx5 ?_;intro w v);clear hk hS a;intro hS a hk)|refine wx0 ?_|fail))
  ·refine done2 hk (h := ⟨i, _, rfl, ⟨by omega, h3, h4, ?_⟩, hS.nil⟩)
   have hz : cmpF (nmS (es[i]'(by omega))) x = 0 := by assumption
   simp only [true_iff]
   exact ⟨by omega, cmp_eq.1 hz⟩
  ·refine done2 hk (h := ⟨i, _, rfl, ⟨by omega, h3, h4, ?_⟩, hS.nil⟩)
   have hz : ¬ cmpF (nmS (es[i]'(by omega))) x = 0 := by assumption
   constructor
   ·intro h;cases h
   ·rintro ⟨_, h⟩;exact absurd (cmp_eq.2 h) hz
 ·have hij : i = j := by omega
  subst hij
  refine done2 hk (h := ⟨i, _, rfl, ⟨by omega, h3, h4, ?_⟩, hS.nil⟩)
  constructor
  ·intro h;cases h
  ·rintro ⟨h, _⟩;omega
theorem whereS_any (s : List PrS) (k : ByteArray) (v : Value) (w0 : World) (hv : SlT s v w0) (hl : s.length ≤ 1000) (hr : Rises nmS s) :
  Calls Tryz.prog 121 #[v, .string k] w0 (Ret fun v w => ∃ (n : Nat) (f : Bool), v = .tuple #[.int .i64 n, .bool f] ∧ Found nmS s k n f ∧ St w0 [] w) := by
 refine enter Tryz.func121 rfl Tryz.ntmps121 rfl (fun a hk => ?_);have hS := St.refl w0
 (repeat' (first|((first|refine wx1 ?_|refine wx2 ?_ ?_<;>intro hp|refine s_end hk ?_)<;>(clear hk a;intro a hk))|((first|refine wx3 ?_;intro w b|refine wx4 ?_;intro w|refine wx5 ?_;intro w v);clear hk hS a;intro hS a hk)|refine wx0 ?_|fail))
 refine sg hk (g_callO hk (hf := by kernel_rfl) (hc := bsS_any s k v _ (hS.rdT hv) hl hr) (h := ?_));clear hk a;rintro vr w ⟨n, f, rfl, hF, hS1⟩ a hk;replace hS := hS.call hS1;clear hS1
 (repeat' (first|((first|refine wx1 ?_|refine wx2 ?_ ?_<;>intro hp|refine s_end hk ?_)<;>(clear hk a;intro a hk))|((first|refine wx3 ?_;intro w b|refine wx4 ?_;intro w|refine wx5 ?_;intro w v);clear hk hS a;intro hS a hk)|refine wx0 ?_|fail))
 exact done2 hk (h := ⟨n, f, rfl, hF, hS.nil⟩)
set_option maxHeartbeats 1000000 in
theorem insS_any {B : Bs} {w : World} {L : List HP} {xs : List PrS} {e : PrS} {i : Nat} {v ve : Value} (hS : St B (OwT 98 xs v :: OwT 98 [e] ve :: L) w) (hi : i ≤ xs.length) (hl : xs.length ≤ 1000) :
  Calls Tryz.prog 136 #[v, .int .i64 (i : Int), ve] w (Ret fun v' w' => St B (OwT 98 (insF xs i e) v' :: L) w') := by
 have hx : SlT xs v w := OwT.rd (hS.rd (A := OwT 98 xs v) atx)
 have he : SlT [e] ve w := OwT.rd (hS.rd (A := OwT 98 [e] ve) atx)
 have h1l : ([e] : List PrS).length = 1 := rfl
 by_cases hin : i = xs.length
 ·subst hin
  refine enter Tryz.func136 rfl Tryz.ntmps136 rfl (fun a hk => ?_)
  (repeat' (first|((first|refine wx1 ?_|refine wx2 ?_ ?_<;>intro hp|refine s_end hk ?_)<;>(clear hk a;intro a hk))|((first|refine wx3 ?_;intro w b|refine wx4 ?_;intro w|refine wx5 ?_;intro w v);clear hk hS a;intro hS a hk)|refine wx0 ?_|fail))
  refine sg hk (g_partF (i := xs.length) hk ?_ (ht := eT rfl) (hs := (by first | exact St.rdT hS (by assumption) | exact OwT.rd (hS.rd (A := OwT _ _ _) atx) | assumption)) (hE := zT rfl) (hi := by omega));clear hk a;intro vq hvq a hk
  (repeat' (first|((first|refine wx1 ?_|refine wx2 ?_ ?_<;>intro hp|refine s_end hk ?_)<;>(clear hk a;intro a hk))|((first|refine wx3 ?_;intro w b|refine wx4 ?_;intro w|refine wx5 ?_;intro w v);clear hk hS a;intro hS a hk)|refine wx0 ?_|fail))
  refine done1 hk (h := ?_)
  have e1 : insF xs xs.length e = xs ++ [e] := by simp [insF]
  rw [e1]
  exact hS
 ·obtain ⟨b, off, cap, rfl, _, _⟩ := hS.ownCells (E := 98) (xs := xs) At.here (by intro h;subst h;simp at hi hin;exact hin hi)
  obtain ⟨b', off', cap', rfl, _, _⟩ := hS.ownCells (E := 98) (xs := [e]) (At.there At.here) (by simp)
  obtain ⟨vs, hS1, hvl, hnc, hcm, hcl, hvs⟩ := hS.ownPts At.here
  obtain ⟨vs', hS2, hvl', hnc', hcm', hcl', hvs'⟩ := hS1.ownPts (At.there At.here)
  replace hS := hS2
  have hvn : vs ≠ [] := by
   intro h
   rw [h, List.length_nil] at hvl
   have := Nat.le_mul_of_pos_right cap (show 0 < Enc.k PrS + 1 by omega)
   omega
  clear hS1 hS2
  by_cases hc : xs.length + 1 ≤ cap
  ·refine enter Tryz.func136 rfl Tryz.ntmps136 rfl (fun a hk => ?_)
   (repeat' (first|((first|refine wx1 ?_|refine wx2 ?_ ?_<;>intro hp|refine s_end hk ?_)<;>(clear hk a;intro a hk))|((first|refine wx3 ?_;intro w b|refine wx4 ?_;intro w|refine wx5 ?_;intro w v);clear hk hS a;intro hS a hk)|refine wx0 ?_|fail))
   refine sg hk (g_partF (i := i) hk ?_ (ht := eT rfl) (hs := (by first | exact St.rdT hS (by assumption) | exact OwT.rd (hS.rd (A := OwT _ _ _) atx) | assumption)) (hE := zT rfl) (hi := by omega));clear hk a;intro vq hvq a hk
   (repeat' (first|((first|refine wx1 ?_|refine wx2 ?_ ?_<;>intro hp|refine s_end hk ?_)<;>(clear hk a;intro a hk))|((first|refine wx3 ?_;intro w b|refine wx4 ?_;intro w|refine wx5 ?_;intro w v);clear hk hS a;intro hS a hk)|refine wx0 ?_|fail))
   refine sg hk (g_capC hk ?_ (ht := eT rfl));clear hk a;intro a hk
   (repeat' (first|((first|refine wx1 ?_|refine wx2 ?_ ?_<;>intro hp|refine s_end hk ?_)<;>(clear hk a;intro a hk))|((first|refine wx3 ?_;intro w b|refine wx4 ?_;intro w|refine wx5 ?_;intro w v);clear hk hS a;intro hS a hk)|refine wx0 ?_|fail))
   refine sg hk (g_slTc (xs.length + 1) (k := Enc.k PrS) hk ?_ (ht := eT rfl) (hE := zT rfl) (hp := by omega) (hj := by omega));clear hk a;intro a hk
   (repeat' (first|((first|refine wx1 ?_|refine wx2 ?_ ?_<;>intro hp|refine s_end hk ?_)<;>(clear hk a;intro a hk))|((first|refine wx3 ?_;intro w b|refine wx4 ?_;intro w|refine wx5 ?_;intro w v);clear hk hS a;intro hS a hk)|refine wx0 ?_|fail))
   refine sg hk (g_slFc (i + 1) (k := Enc.k PrS) hk ?_ (ht := eT rfl) (hE := zT rfl) (hp := by omega) (him := by omega) (hc := by omega));clear hk a;intro a hk
   (repeat' (first|((first|refine wx1 ?_|refine wx2 ?_ ?_<;>intro hp|refine s_end hk ?_)<;>(clear hk a;intro a hk))|((first|refine wx3 ?_;intro w b|refine wx4 ?_;intro w|refine wx5 ?_;intro w v);clear hk hS a;intro hS a hk)|refine wx0 ?_|fail))
   refine sg hk (g_ovl hk hS ?_ (hf := Tryz.func154) (hname := by kernel_rfl) (hb := by kernel_rfl) (hn := by kernel_rfl) (he := by kernel_rfl) (ht := eT rfl) (hE := zT rfl) (tS := 35) (tR := 4) (hne := hvn));clear hk a;intro a hk
   (repeat' (first|((first|refine wx1 ?_|refine wx2 ?_ ?_<;>intro hp|refine s_end hk ?_)<;>(clear hk a;intro a hk))|((first|refine wx3 ?_;intro w b|refine wx4 ?_;intro w|refine wx5 ?_;intro w v);clear hk hS a;intro hS a hk)|refine wx0 ?_|fail))
   replace hS := hS.sub (.cons (.there .here) (.cons .here .refl))
   refine wp_drawnU1 9 mixed (by kernel_rfl) hk hS ?_;clear hk hS a
   (repeat' (first|(show ObxE _ _ _ _ _ _ _ _ _ (_::_) _ _ _;first|refine ox1 ?_|refine ox2 ?_ ?_<;>intro hp)|fail))
   refine' obe_val (fun us a w hk hd hS => ?_) ?_;rotate_left;focus (have hk := Kn.vw hk vwx;exact g_slFc (i + 1) (k := Enc.k PrS) hk (same _ _) (ht := eT rfl) (hE := zT rfl) (hp := by omega) (him := by omega) (hc := by omega))
   (repeat' (first|(show ObxE _ _ _ _ _ _ _ _ _ (_::_) _ _ _;first|refine ox1 ?_|refine ox2 ?_ ?_<;>intro hp)|fail))
   refine' obe_val (fun us a w hk hd hS => ?_) ?_;rotate_left;focus (have hk := Kn.vw hk vwx;exact g_slFc i (k := Enc.k PrS) hk (same _ _) (ht := eT rfl) (hE := zT rfl) (hp := by omega) (him := by omega) (hc := by omega))
   (repeat' (first|(show ObxE _ _ _ _ _ _ _ _ _ (_::_) _ _ _;first|refine ox1 ?_|refine ox2 ?_ ?_<;>intro hp)|fail))
   refine' obe_upd (pts b vs 98) (V := fun _ => pts b (splice vs (off + (i + 1) * (Enc.k PrS + 1)) (enc (xs.drop i))) 98) (fun us a w X hk hd hS hL => ?_) ?_
   ·have hk := Kn.vw hk vwx
    exact g_copyC (E := 98) (k := Enc.k PrS) hk hS (fun w' hS' => hS') (q := xs.length - i) (ht := eT rfl) (hE := zT rfl) (hq := by simp only [Nat.min_def];split <;> omega) (hl := by rw [enc_len, List.length_drop]) (hsrc := Cells.dropT i (pts.block (hS.rd At.here)) hvs) (h1 := enc_one _)
     (hfit := by rw [enc_len, List.length_drop, Nat.add_assoc, ← Nat.add_mul];exact Nat.le_trans (Nat.add_le_add_left (Nat.mul_le_mul_right _ (by omega)) _) hvl)
   (repeat' (first|(show ObxE _ _ _ _ _ _ _ _ _ (_::_) _ _ _;first|refine ox1 ?_|refine ox2 ?_ ?_<;>intro hp)|fail))
   refine obe_nil ⟨rfl, ?_⟩;intro us a w hk hS
   simp only [resE] at hS
   (repeat' (first|((first|refine wx1 ?_|refine wx2 ?_ ?_<;>intro hp|refine s_end hk ?_)<;>(clear hk a;intro a hk))|((first|refine wx3 ?_;intro w b|refine wx4 ?_;intro w|refine wx5 ?_;intro w v);clear hk hS a;intro hS a hk)|refine wx0 ?_|fail))
   refine sg hk (g_slFc i (k := Enc.k PrS) hk ?_ (ht := eT rfl) (hE := zT rfl) (hp := by omega) (him := by omega) (hc := by omega));clear hk a;intro a hk
   (repeat' (first|((first|refine wx1 ?_|refine wx2 ?_ ?_<;>intro hp|refine s_end hk ?_)<;>(clear hk a;intro a hk))|((first|refine wx3 ?_;intro w b|refine wx4 ?_;intro w|refine wx5 ?_;intro w v);clear hk hS a;intro hS a hk)|refine wx0 ?_|fail))
   refine sg hk (g_copyC (E := 98) (k := Enc.k PrS) hk hS ?_ (q := 1) (ht := eT rfl) (hE := zT rfl) (hq := by simp only [Nat.min_def];split <;> omega) (hl := by rw [Enc.len, Nat.one_mul]) (hsrc := ?_) (h1 := Enc.one e) (hfit := ?_))
   rotate_left
   ·have := Cells.takeT (xs := [e]) 1 (pts.block (hS.rd (A := pts b' vs' 98) atx)) hvs'
    rwa [List.take_of_length_le (by rw [h1l];exact Nat.le_refl 1), enc_single] at this
   ·rw [splice_len, Enc.len, Nat.add_assoc, ← Nat.succ_mul]
    exact Nat.le_trans (Nat.add_le_add_left (Nat.mul_le_mul_right _ (by omega)) _) hvl
   clear hk hS a
   intro w hS a hk
   (repeat' (first|((first|refine wx1 ?_|refine wx2 ?_ ?_<;>intro hp|refine s_end hk ?_)<;>(clear hk a;intro a hk))|((first|refine wx3 ?_;intro w b|refine wx4 ?_;intro w|refine wx5 ?_;intro w v);clear hk hS a;intro hS a hk)|refine wx0 ?_|fail))
   obtain ⟨hl0, hc0⟩ := ins_cells (xs := xs) (i := i) (off := off) (e := e) (vs := vs) (by omega) (Nat.le_trans (Nat.add_le_add_left (Nat.mul_le_mul_right _ hc) _) hvl) (fun j u hj => by
    rw [← enc_take, List.getElem?_take] at hj
    split at hj
    ·exact hvs j u hj
    ·cases hj) (.inl rfl)
   have hF := hS.toOwn (ys := insF xs i e) At.here (by rw [insF_len hi];exact hc) hcm (by rw [hl0];exact hvl) hc0
   rw [insF_len hi] at hF
   exact done1 hk (h := hF.sub (.cons .here Sub.cons_drop))
  ·refine enter Tryz.func136 rfl Tryz.ntmps136 rfl (fun a hk => ?_)
   (repeat' (first|((first|refine wx1 ?_|refine wx2 ?_ ?_<;>intro hp|refine s_end hk ?_)<;>(clear hk a;intro a hk))|((first|refine wx3 ?_;intro w b|refine wx4 ?_;intro w|refine wx5 ?_;intro w v);clear hk hS a;intro hS a hk)|refine wx0 ?_|fail))
   refine sg hk (g_partF (i := i) hk ?_ (ht := eT rfl) (hs := (by first | exact St.rdT hS (by assumption) | exact OwT.rd (hS.rd (A := OwT _ _ _) atx) | assumption)) (hE := zT rfl) (hi := by omega));clear hk a;intro vq hvq a hk
   (repeat' (first|((first|refine wx1 ?_|refine wx2 ?_ ?_<;>intro hp|refine s_end hk ?_)<;>(clear hk a;intro a hk))|((first|refine wx3 ?_;intro w b|refine wx4 ?_;intro w|refine wx5 ?_;intro w v);clear hk hS a;intro hS a hk)|refine wx0 ?_|fail))
   refine sg hk (g_capC hk ?_ (ht := eT rfl));clear hk a;intro a hk
   (repeat' (first|((first|refine wx1 ?_|refine wx2 ?_ ?_<;>intro hp|refine s_end hk ?_)<;>(clear hk a;intro a hk))|((first|refine wx3 ?_;intro w b|refine wx4 ?_;intro w|refine wx5 ?_;intro w v);clear hk hS a;intro hS a hk)|refine wx0 ?_|fail))
   refine sg hk (g_slTc i (k := Enc.k PrS) hk ?_ (ht := eT rfl) (hE := zT rfl) (hp := by omega) (hj := by omega));clear hk a;intro a hk
   (repeat' (first|((first|refine wx1 ?_|refine wx2 ?_ ?_<;>intro hp|refine s_end hk ?_)<;>(clear hk a;intro a hk))|((first|refine wx3 ?_;intro w b|refine wx4 ?_;intro w|refine wx5 ?_;intro w v);clear hk hS a;intro hS a hk)|refine wx0 ?_|fail))
   refine sg hk (g_appZ (cs := enc (xs.take i)) (i := i) (q := xs.length + 1 - i) (k := Enc.k PrS) hk hS ?_ (hp := by omega) (ht := eT rfl) (htx := iT rfl) (hE := zT rfl) (hz := oT rfl) (hzs := rfl) (hz1 := by decide) (hby := bT rfl) (h0 := by omega) (hc := by omega) (hl := by rw [enc_len, List.length_take, Nat.min_eq_left hi]) (hcs := Cells.takeT i (pts.block (hS.rd (A := pts b vs 98) atx)) hvs) (h1 := enc_one _) (hbytes := by omega) (h63 := by simp only [maxLen];omega))
   clear hk hS a
   intro w b2 c2 zs hg1 hg2 hg3 hg4 hg5 hS a hk
   rw [show i + (xs.length + 1 - i) = xs.length + 1 by omega] at hk hg1
   (repeat' (first|((first|refine wx1 ?_|refine wx2 ?_ ?_<;>intro hp|refine s_end hk ?_)<;>(clear hk a;intro a hk))|((first|refine wx3 ?_;intro w b|refine wx4 ?_;intro w|refine wx5 ?_;intro w v);clear hk hS a;intro hS a hk)|refine wx0 ?_|fail))
   refine sg hk (g_slFc i (k := Enc.k PrS) hk ?_ (ht := eT rfl) (hE := zT rfl) (hp := by omega) (him := by omega) (hc := by omega));clear hk a;intro a hk
   (repeat' (first|((first|refine wx1 ?_|refine wx2 ?_ ?_<;>intro hp|refine s_end hk ?_)<;>(clear hk a;intro a hk))|((first|refine wx3 ?_;intro w b|refine wx4 ?_;intro w|refine wx5 ?_;intro w v);clear hk hS a;intro hS a hk)|refine wx0 ?_|fail))
   refine sg hk (g_copyC (E := 98) (k := Enc.k PrS) hk hS ?_ (q := 1) (ht := eT rfl) (hE := zT rfl) (hq := by simp only [Nat.min_def];split <;> omega) (hl := by rw [Enc.len, Nat.one_mul]) (hsrc := ?_) (h1 := Enc.one e) (hfit := ?_))
   rotate_left
   ·have := Cells.takeT (xs := [e]) 1 (pts.block (hS.rd (A := pts b' vs' 98) atx)) hvs'
    rwa [List.take_of_length_le (by rw [h1l];exact Nat.le_refl 1), enc_single] at this
   ·rw [Enc.len, Nat.add_assoc, ← Nat.succ_mul, Nat.zero_add, hg3]
    exact Nat.mul_le_mul_right _ (by omega)
   clear hk hS a
   intro w hS a hk
   (repeat' (first|((first|refine wx1 ?_|refine wx2 ?_ ?_<;>intro hp|refine s_end hk ?_)<;>(clear hk a;intro a hk))|((first|refine wx3 ?_;intro w b|refine wx4 ?_;intro w|refine wx5 ?_;intro w v);clear hk hS a;intro hS a hk)|refine wx0 ?_|fail))
   refine wp_drawnU1 9 mixed (by kernel_rfl) hk hS ?_;clear hk hS a
   (repeat' (first|(show ObxE _ _ _ _ _ _ _ _ _ (_::_) _ _ _;first|refine ox1 ?_|refine ox2 ?_ ?_<;>intro hp)|fail))
   refine' obe_val (fun us a w hk hd hS => ?_) ?_;rotate_left;focus (have hk := Kn.vw hk vwx;exact g_slFc (i + 1) (k := Enc.k PrS) hk (same _ _) (ht := eT rfl) (hE := zT rfl) (hp := by omega) (him := by omega) (hc := by omega))
   (repeat' (first|(show ObxE _ _ _ _ _ _ _ _ _ (_::_) _ _ _;first|refine ox1 ?_|refine ox2 ?_ ?_<;>intro hp)|fail))
   refine' obe_val (fun us a w hk hd hS => ?_) ?_;rotate_left;focus (have hk := Kn.vw hk vwx;exact g_slFc i (k := Enc.k PrS) hk (same _ _) (ht := eT rfl) (hE := zT rfl) (hp := by omega) (him := by omega) (hc := by omega))
   (repeat' (first|(show ObxE _ _ _ _ _ _ _ _ _ (_::_) _ _ _;first|refine ox1 ?_|refine ox2 ?_ ?_<;>intro hp)|fail))
   refine' obe_upd (pts b2 (splice zs (0 + i * (Enc.k PrS + 1)) (Enc.f e)) 98) (V := fun _ => pts b2 (splice (splice zs (0 + i * (Enc.k PrS + 1)) (Enc.f e)) (0 + (i + 1) * (Enc.k PrS + 1)) (enc (xs.drop i))) 98) (fun us a w X hk hd hS hL => ?_) ?_
   ·have hk := Kn.vw hk vwx
    exact g_copyC (E := 98) (k := Enc.k PrS) hk hS (fun w' hS' => hS') (q := xs.length - i) (ht := eT rfl) (hE := zT rfl) (hq := by simp only [Nat.min_def];split <;> omega) (hl := by rw [enc_len, List.length_drop]) (hsrc := Cells.dropT i (pts.block (hL.rd (A := pts b vs 98) atx)) hvs) (h1 := enc_one _)
     (hfit := by rw [splice_len, enc_len, List.length_drop, Nat.add_assoc, ← Nat.add_mul, Nat.zero_add, hg3];exact Nat.mul_le_mul_right _ (by omega))
   (repeat' (first|(show ObxE _ _ _ _ _ _ _ _ _ (_::_) _ _ _;first|refine ox1 ?_|refine ox2 ?_ ?_<;>intro hp)|fail))
   refine obe_nil ⟨rfl, ?_⟩;intro us a w hk hS
   simp only [resE] at hS
   (repeat' (first|((first|refine wx1 ?_|refine wx2 ?_ ?_<;>intro hp|refine s_end hk ?_)<;>(clear hk a;intro a hk))|((first|refine wx3 ?_;intro w b|refine wx4 ?_;intro w|refine wx5 ?_;intro w v);clear hk hS a;intro hS a hk)|refine wx0 ?_|fail))
   obtain ⟨hl0, hc0⟩ := ins_cells (xs := xs) (i := i) (off := 0) (e := e) (vs := zs) (by omega) (by rw [Nat.zero_add, hg3];exact Nat.mul_le_mul_right _ hg1) (fun j u hj => by rw [Nat.zero_add];exact hg4 j u hj) (.inr rfl)
   have hF := hS.toOwn (ys := insF xs i e) At.here (by rw [insF_len hi];exact hg1) hg2 (by rw [hl0, Nat.zero_add, hg3];exact Nat.le_refl _) hc0
   rw [insF_len hi] at hF
   exact done1 hk (h := hF.sub (.cons .here (Sub.under Sub.cons_drop)))
set_option maxHeartbeats 1000000 in
theorem putS_any {B : Bs} {w : World} {L : List HP} {s : List PrS} {v : Value} (p : PrS) (hS : St B (OwT 98 s v :: L) w) (hl : s.length ≤ 1000) (hr : Rises nmS s) :
  Calls Tryz.prog 113 #[v, .agg (Enc.f p).toArray] w (Ret fun v' w' => St B (OwT 98 (putF nmS s p) v' :: L) w') := by
 obtain ⟨k, x⟩ := p
 refine enter Tryz.func113 rfl Tryz.ntmps113 rfl (fun a hk => ?_)
 (repeat' (first|((first|refine wx1 ?_|refine wx2 ?_ ?_<;>intro hp|refine s_end hk ?_)<;>(clear hk a;intro a hk))|((first|refine wx3 ?_;intro w b|refine wx4 ?_;intro w|refine wx5 ?_;intro w v);clear hk hS a;intro hS a hk)|refine wx0 ?_|fail))
 refine sg hk (g_callO hk (hf := by kernel_rfl) (hc := whereS_any s k v _ (by first | exact St.rdT hS (by assumption) | exact OwT.rd (hS.rd (A := OwT _ _ _) atx) | assumption) hl hr) (h := ?_));clear hk a;rintro vr w ⟨n, f, rfl, hF, hS1⟩ a hk;replace hS := hS.call hS1;clear hS1
 cases f with
 | true =>
  obtain ⟨hn, hset⟩ := found_set nmS (e := (k, x)) hF
  (repeat' (first|((first|refine wx1 ?_|refine wx2 ?_ ?_<;>intro hp|refine s_end hk ?_)<;>(clear hk a;intro a hk))|((first|refine wx3 ?_;intro w b|refine wx4 ?_;intro w|refine wx5 ?_;intro w v);clear hk hS a;intro hS a hk)|refine wx0 ?_|fail))
  refine su hk (g_stT (xs := s) (z := (k, x)) hk hS ?_ (hsz := zT rfl) (hi := hn))
  clear hk hS a
  intro w hS a hk
  rw [hset] at hS
  (repeat' (first|((first|refine wx1 ?_|refine wx2 ?_ ?_<;>intro hp|refine s_end hk ?_)<;>(clear hk a;intro a hk))|((first|refine wx3 ?_;intro w b|refine wx4 ?_;intro w|refine wx5 ?_;intro w v);clear hk hS a;intro hS a hk)|refine wx0 ?_|fail))
  exact done1 hk (h := hS.sub (.cons .here (Sub.under .refl)))
 | false =>
  obtain ⟨hn, hset⟩ := found_ins nmS (e := (k, x)) hF
  (repeat' (first|((first|refine wx1 ?_|refine wx2 ?_ ?_<;>intro hp|refine s_end hk ?_)<;>(clear hk a;intro a hk))|((first|refine wx3 ?_;intro w b|refine wx4 ?_;intro w|refine wx5 ?_;intro w v);clear hk hS a;intro hS a hk)|refine wx0 ?_|fail))
  refine sg hk (g_bsT (xs := [((k, x) : PrS)]) (m := 0) hk hS ?_ (hT := eT rfl) (hE := zT rfl) (hz := oT rfl));clear hk hS a;intro w ve hS a hk
  (repeat' (first|((first|refine wx1 ?_|refine wx2 ?_ ?_<;>intro hp|refine s_end hk ?_)<;>(clear hk a;intro a hk))|((first|refine wx3 ?_;intro w b|refine wx4 ?_;intro w|refine wx5 ?_;intro w v);clear hk hS a;intro hS a hk)|refine wx0 ?_|fail))
  refine sg hk (g_callO hk (hf := by kernel_rfl) (hc := insS_any (xs := s) (e := (k, x)) (v := v) (ve := ve) (hS.sub (.cons (.there (.there .here)) (.cons .here (Sub.under .refl)))) hn (by omega)) (h := ?_));clear hk hS a;intro vr w hS a hk
  rw [show insF s n _ = _ from hset] at hS
  (repeat' (first|((first|refine wx1 ?_|refine wx2 ?_ ?_<;>intro hp|refine s_end hk ?_)<;>(clear hk a;intro a hk))|((first|refine wx3 ?_;intro w b|refine wx4 ?_;intro w|refine wx5 ?_;intro w v);clear hk hS a;intro hS a hk)|refine wx0 ?_|fail))
  exact done1 hk (h := hS)
set_option maxHeartbeats 1000000 in
theorem ofS_any (l : List PrS) (v : Value) (w0 : World) (hv : SlT l v w0) (hl : l.length ≤ 1000) :
  Calls Tryz.prog 83 #[v] w0 (Ret fun v w => St w0 [OwT 98 (snapF nmS l) v] w) := by
 refine enter Tryz.func83 rfl Tryz.ntmps83 rfl (fun a hk => ?_);have hS := St.refl w0
 (repeat' (first|((first|refine wx1 ?_|refine wx2 ?_ ?_<;>intro hp|refine s_end hk ?_)<;>(clear hk a;intro a hk))|((first|refine wx3 ?_;intro w b|refine wx4 ?_;intro w|refine wx5 ?_;intro w v);clear hk hS a;intro hS a hk)|refine wx0 ?_|fail))
 replace hS := hS.nilT 98 PrS
 replace hk := Kn.kp [3, 6, 7, 8] hk
 refine wp_for l.length (fun i v => [(3, v), (8, .int .i64 (i : Int))]) (fun i v => [OwT 98 (snapF nmS (l.take i)) v]) (fun _ _ => True) (.slice none 0 0) hk skx hS.sb trivial ?_
 clear hk hS a
 rintro i vo a w hi hk hS -
 by_cases hil : i < l.length
 ·obtain ⟨⟨k, x⟩, hx⟩ : ∃ x, l[i]? = some x := ⟨_, List.getElem?_eq_getElem hil⟩
  have hsn : snapF nmS (l.take (i + 1)) = putF nmS (snapF nmS (l.take i)) (k, x) := by rw [take_snoc hx, snap_snoc]
  have hsl : (snapF nmS (l.take i)).length ≤ i := Nat.le_trans (snap_len nmS _) (by rw [List.length_take];omega)
  have hsr := snap_rises nmS (l.take i)
  generalize snapF nmS (l.take i) = S at *
  (repeat' (first|((first|refine wx1 ?_|refine wx2 ?_ ?_<;>intro hp|refine s_end hk ?_)<;>(clear hk a;intro a hk))|((first|refine wx3 ?_;intro w b|refine wx4 ?_;intro w|refine wx5 ?_;intro w v);clear hk hS a;intro hS a hk)|refine wx0 ?_|fail))
  refine sg hk (g_callO hk (hf := by kernel_rfl) (hc := putS_any (s := S) (v := vo) (L := []) ((k, x) : PrS) (hS.sub (by (repeat (first | exact Sub.nil | exact Sub.refl | refine Sub.cons atx ?_)))) (by omega) hsr) (h := ?_));clear hk hS a;intro vr w hS a hk
  rw [← hsn] at hS
  (repeat' (first|((first|refine wx1 ?_|refine wx2 ?_ ?_<;>intro hp|refine s_end hk ?_)<;>(clear hk a;intro a hk))|((first|refine wx3 ?_;intro w b|refine wx4 ?_;intro w|refine wx5 ?_;intro w v);clear hk hS a;intro hS a hk)|refine wx0 ?_|fail))
  exact ⟨hil, _, hk.sd, hS.sb, trivial⟩
 ·have : i = l.length := by omega
  subst this
  rw [List.take_length] at hS
  (repeat' (first|((first|refine wx1 ?_|refine wx2 ?_ ?_<;>intro hp|refine s_end hk ?_)<;>(clear hk a;intro a hk))|((first|refine wx3 ?_;intro w b|refine wx4 ?_;intro w|refine wx5 ?_;intro w v);clear hk hS a;intro hS a hk)|refine wx0 ?_|fail))
  exact done1 hk (h := hS.sb)
end Go.Proofs.YtgklceoodpocaaaGreatDoor
namespace Go.Proofs.YtgklceoodpocaaaGreatDoor
open Lib (decDigits itoa)
def digB (b : UInt8) : Bool := decide (48 ≤ b.toNat ∧ b.toNat ≤ 57)
def valL (l : List UInt8) : Nat := l.foldl (fun n b => 10 * n + (b.toNat - 48)) 0
def sgnL (L : List UInt8) : Bool := decide (L.head? = some 45)
def digL (L : List UInt8) : List UInt8 := if sgnL L then L.tail else L
def numL (L : List UInt8) : Int := if sgnL L then -((valL (digL L) : Nat) : Int) else ((valL (digL L) : Nat) : Int)
def badD (L : List UInt8) : Prop := digL L = [] ∨ 10 < (digL L).length ∨ (digL L).all digB = false
def zerD (L : List UInt8) : Prop := (digL L).head? = some 48 ∧ (1 < (digL L).length ∨ sgnL L = true)
def outR (m : Int) : Prop := m < -2147483648 ∨ 2147483647 < m
instance (L : List UInt8) : Decidable (badD L) := by unfold badD; infer_instance
instance (L : List UInt8) : Decidable (zerD L) := by unfold zerD; infer_instance
instance (m : Int) : Decidable (outR m) := by unfold outR; infer_instance
def numP (L : List UInt8) : Int × Bool := if badD L ∨ zerD L ∨ outR (numL L) then (0, false) else (numL L, true)
end Go.Proofs.YtgklceoodpocaaaGreatDoor
namespace Go.Proofs.YtgklceoodpocaaaGreatDoor
open Go.RowKit
set_option maxRecDepth 100000
attribute [local irreducible] Go.Code.wpIn Go.wpListIn Go.Calls Gives Go.Exit.then Go.Exit.inBlock Done ObxE
def letB (b : UInt8) : Bool := decide (97 ≤ b.toNat ∧ b.toNat ≤ 122)
def plaB (b : UInt8) : Bool := decide ((97 ≤ b.toNat ∧ b.toNat ≤ 122) ∨ (48 ≤ b.toNat ∧ b.toNat ≤ 57) ∨ b.toNat = 45)
def visB (b : UInt8) : Bool := decide (32 < b.toNat ∧ b.toNat ≤ 126 ∧ b.toNat ≠ 39 ∧ b.toNat ≠ 40 ∧ b.toNat ≠ 41)
def priB (b : UInt8) : Bool := decide (32 ≤ b.toNat ∧ b.toNat ≤ 126 ∧ b.toNat ≠ 39)
theorem byte_at {s : ByteArray} {i : Nat} (h : i < s.size) : s.data.toList[i]? = some s[i] := by
 rw [List.getElem?_eq_getElem (by simpa using h)]
 congr 1
theorem all_take {s : ByteArray} {i : Nat} (h : i < s.size) (p : UInt8 → Bool) : (s.data.toList.take (i + 1)).all p = ((s.data.toList.take i).all p && p s[i]) := by
 rw [List.take_add_one, byte_at h, List.all_append]
 simp
theorem all_no {s : ByteArray} {i : Nat} (h : i < s.size) {p : UInt8 → Bool} (hp : p s[i] = false) : s.data.toList.all p = false := by
 have hs : s.data.toList = s.data.toList.take (i + 1) ++ s.data.toList.drop (i + 1) := (List.take_append_drop _ _).symm
 rw [hs, List.all_append, all_take h, hp]
 simp
theorem all_full (s : ByteArray) : s.data.toList.take s.size = s.data.toList := List.take_of_length_le (by simp)
theorem emp_iff {s : ByteArray} : s = ⟨#[]⟩ ↔ s.size = 0 := by
 constructor
 ·rintro rfl;rfl
 ·intro h
  cases s with
  | mk d => congr 1;exact Array.eq_empty_of_size_eq_zero h
def keyS (s : ByteArray) : Bool := decide (1 ≤ s.size ∧ s.size ≤ 16) && s.data.toList.all plaB
def nameS (s : ByteArray) : Bool := keyS s && (match s.data.toList with | [] => false | a :: _ => letB a)
def valS (s : ByteArray) : Bool := decide (s.size ≤ 32) && s.data.toList.all visB
def txtS (s : ByteArray) : Bool := decide (s.size ≤ 64) && s.data.toList.all priB
def rsvS (s : ByteArray) : Bool := decide (2 ≤ s.size ∧ s.extract 0 2 = ⟨#[116, 45]⟩)
def chkS (s : ByteArray) : Int := if nameS s then (if rsvS s then 6 else 0) else 2
theorem head_at {s : ByteArray} (h : 0 < s.size) : (match s.data.toList with | [] => false | a :: _ => letB a) = letB s[0] := by
 have := byte_at h
 cases hl : s.data.toList with
 | nil => rw [hl] at this;cases this
 | cons a r => rw [hl] at this;simp only [List.getElem?_cons_zero, Option.some.injEq] at this;rw [this]
end Go.Proofs.YtgklceoodpocaaaGreatDoor
