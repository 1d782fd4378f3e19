/- More values that may be taken first. Layers 17, 18: what waits is called off. Layers 17, 18: calling off; a frame more. Layer 17: a frame more. -/
import Derived.Test.YthodcfdgahfniaaGreatV12
import Derived.Test.YthodcfdgahfniaaGreatV05
set_option linter.all false
namespace Go.Proofs.YthodcfdgahfniaaGreat
open Go.RowKit
section
variable {P : Program} {a : Act} {w w' : World} {n : Nat} {l : List (Nat × Value)} {df : List Deferred}
  {dst : Option Nat} {ty : TypeId} {pos : String} {af : Array Edge} {g : Option (Nat × Bool)}
theorem y_nilc {x : Operand} {b o : Nat} (hk : Kn df n a l) (hx : ev l x = some (.pointer (some ⟨b, o, none⟩))) : ∀ w, (execOp a.eval ⟨dst, .nilCheck x, ty, pos, af, g⟩).run P w = .ok (.value (.pointer (some ⟨b, o, none⟩))) w := fun w => by
  simp only [execOp, hk.eval hx]; rfl
theorem y_ixArr {x y : Operand} {t : TypeId} {m e b o k : Nat} {i : Int} {kk : IntKind} (hk : Kn df n a l) (ht : P.underlying t = some (.array m e)) (he : szOf P e = some k) (h0 : 0 ≤ i) (h1 : i < m)
    (hx : ev l x = some (.pointer (some ⟨b, o, none⟩))) (hy : ev l y = some (.int kk i)) : ∀ w, (execOp a.eval ⟨dst, .indexAddr t x y, ty, pos, af, g⟩).run P w = .ok (.value (.pointer (some ⟨b, o + i.toNat * k, none⟩))) w := fun w => by
  simp [execOp, hk.eval hx, hk.eval hy, Instr.indexAt, run_underlying ht, asIntOf, Instr.sureAddr, h0, h1, szOf_run he, addr_add]
theorem y_makeFunc {f : Fn} {first cap : List Operand} {vf vc : List Value} (hk : Kn df n a l) (h1 : evs l first = some vf) (h2 : evs l cap = some vc) :
    ∀ w, (execOp a.eval ⟨dst, .makeFunc f first.toArray cap.toArray, ty, pos, af, g⟩).run P w = .ok (.value (.func f vf.toArray vc.toArray)) w := fun w => by
  simp [execOp, Instr.makeFunc, evs_map hk h1, evs_map hk h2]
theorem g_slA0 {R : Value → World → Prop} {x : Operand} {t m e b o k : Nat} (hk : Kn df n a l) (h : R (.slice (some ⟨b, o, none⟩) (m + 1) (m + 1)) w) (ht : P.underlying t = some (.array (m + 1) e)) (he : szOf P e = some k)
    (hx : ev l x = some (.pointer (some ⟨b, o, none⟩)) := by rfl) : Gives P ⟨dst, .slice t x none none none, ty, pos, af, g⟩ a w R :=
  givesv (v := .slice (some ⟨b, o, none⟩) (m + 1) (m + 1)) (by
    have e : (⟨b, o, none⟩ : Addr).add 0 = ⟨b, o, none⟩ := rfl
    simp [execOp, hk.eval hx, Instr.sliceAt, run_underlying ht, Instr.sureAddr, Instr.sliceBounds, Instr.sliceBound, szOf_run he, e]) h
theorem g_slA1 {R : Value → World → Prop} {x y : Operand} {t m e b o k i : Nat} {kk : IntKind} (hk : Kn df n a l) (h : R (.slice (some ⟨b, o + i * k, none⟩) (m - i) (m - i)) w) (ht : P.underlying t = some (.array m e)) (he : szOf P e = some k) (hi : i < m)
    (hx : ev l x = some (.pointer (some ⟨b, o, none⟩)) := by rfl) (hy : ev l y = some (.int kk (i : Int)) := by rfl) : Gives P ⟨dst, .slice t x (some y) none none, ty, pos, af, g⟩ a w R :=
  givesv (v := .slice (some ⟨b, o + i * k, none⟩) (m - i) (m - i)) (by
    have h1 : ¬ m = i := by omega
    have h2 : i ≤ m := by omega
    simp [execOp, hk.eval hx, hk.eval hy, Instr.sliceAt, run_underlying ht, Instr.sureAddr, Instr.sliceBounds, Instr.sliceBound, asIntOf, szOf_run he, h1, h2, addr_add]) h
end
end Go.Proofs.YthodcfdgahfniaaGreat
namespace Go.Proofs.YthodcfdgahfniaaGreat
open Go.RowKit
set_option maxRecDepth 100000
attribute [local irreducible] Go.Code.wpIn Go.wpListIn Go.Calls Gives Go.Exit.then Go.Exit.inBlock Done ObxE

set_option maxHeartbeats 1000000 in
theorem idxWt_any (p : TmC → Bool) (s : List TmC) (f : FuncId) (cap : List Value) (v : Value) {B : Bs} {L : List HP} (w : World) (hS : St B L w) (hv : SlT s v w) (hl : s.length ≤ 1000) (hf : callable Tryz.prog f = true)
    (hc : ∀ (x : TmC) (w' : World), St B L w' → Calls Tryz.prog f (.agg (Enc.f x).toArray :: cap).toArray w' (Ret fun v w'' => v = .bool (p x) ∧ St w' [] w'')) :
    Calls Tryz.prog 97 #[v, .func (.func f) #[] cap.toArray] w (Ret fun v w' => ∃ r : Int, v = .int .i64 r ∧ (r = -1 ∧ (∀ i (h : i < s.length), p s[i] = false) ∨ ∃ (k : Nat) (h : k < s.length), r = k ∧ (∀ i (h : i < s.length), i < k → p s[i] = false) ∧ p s[k] = true) ∧ St w [] w') := by
  have hS0 := hS
  clear hS
  refine enter Tryz.func97 rfl Tryz.ntmps97 rfl (fun a hk => ?_)
  have hS := St.refl w
  have hw0 : w = w := rfl
  (repeat' (first | (show wpListIn _ _ _ _ _ (_ :: _) _ _; first | (refine wx1 ?_; clear hk a; intro a hk) | (refine wx2 ?_ ?_ <;> (intro hp; clear hk a; intro a hk)) | (refine wx3 ?_; clear hk hS a; intro w b hS a hk) | (refine wx4 ?_; clear hk hS a; intro w hS a hk) | (refine wx5 ?_; clear hk hS a; intro w v hS a hk) | fail) | refine wx0 ?_ | (refine s_end hk ?_; clear hk a; intro a hk) | fail))
  replace hk := Kn.kp [0, 1, 7, 8] hk
  refine wp_for s.length (fun i _ => [(8, .int .i64 (i : Int))]) (fun _ _ => []) (fun i _ => ∀ j (h : j < s.length), j < i → p s[j] = false) () hk (by repeat (first | exact trivial | refine ⟨rfl, ?_⟩)) hS (fun j h hj => by omega) ?_
  clear hk hS a
  rintro i - a w1 hi hk hS hF
  by_cases hil : i < s.length
  · (repeat' (first | (show wpListIn _ _ _ _ _ (_ :: _) _ _; first | (refine wx1 ?_; clear hk a; intro a hk) | (refine wx2 ?_ ?_ <;> (intro hp; clear hk a; intro a hk)) | (refine wx3 ?_; clear hk hS a; intro w b hS a hk) | (refine wx4 ?_; clear hk hS a; intro w hS a hk) | (refine wx5 ?_; clear hk hS a; intro w v hS a hk) | fail) | refine wx0 ?_ | (refine s_end hk ?_; clear hk a; intro a hk) | fail))
    refine sg hk (g_callvO (first := []) (cap := cap) hk (hf := hf) (hc := hc _ _ (hS0.call hS)) (h := ?_)); clear hk a; rintro _ w2 ⟨rfl, hS1⟩ a hk; replace hS := hS.call0 hS1; clear hS1
    cases hp : p s[i] with
    | true =>
      rw [hp] at hk
      (repeat' (first | (show wpListIn _ _ _ _ _ (_ :: _) _ _; first | (refine wx1 ?_; clear hk a; intro a hk) | (refine wx2 ?_ ?_ <;> (intro hp; clear hk a; intro a hk)) | (refine wx3 ?_; clear hk hS a; intro w b hS a hk) | (refine wx4 ?_; clear hk hS a; intro w hS a hk) | (refine wx5 ?_; clear hk hS a; intro w v hS a hk) | fail) | refine wx0 ?_ | (refine s_end hk ?_; clear hk a; intro a hk) | fail))
      exact done1 hk (h := ⟨i, rfl, .inr ⟨i, hil, rfl, hF, hp⟩, hS.nil⟩)
    | false =>
      rw [hp] at hk
      (repeat' (first | (show wpListIn _ _ _ _ _ (_ :: _) _ _; first | (refine wx1 ?_; clear hk a; intro a hk) | (refine wx2 ?_ ?_ <;> (intro hp; clear hk a; intro a hk)) | (refine wx3 ?_; clear hk hS a; intro w b hS a hk) | (refine wx4 ?_; clear hk hS a; intro w hS a hk) | (refine wx5 ?_; clear hk hS a; intro w v hS a hk) | fail) | refine wx0 ?_ | (refine s_end hk ?_; clear hk a; intro a hk) | fail))
      refine ⟨hil, (), hk.sd, hS, fun j h hj => ?_⟩
      by_cases e : j = i
      · subst e; exact hp
      · exact hF j h (by omega)
  · (repeat' (first | (show wpListIn _ _ _ _ _ (_ :: _) _ _; first | (refine wx1 ?_; clear hk a; intro a hk) | (refine wx2 ?_ ?_ <;> (intro hp; clear hk a; intro a hk)) | (refine wx3 ?_; clear hk hS a; intro w b hS a hk) | (refine wx4 ?_; clear hk hS a; intro w hS a hk) | (refine wx5 ?_; clear hk hS a; intro w v hS a hk) | fail) | refine wx0 ?_ | (refine s_end hk ?_; clear hk a; intro a hk) | fail))
    exact done1 hk (h := ⟨-1, rfl, .inl ⟨rfl, fun i h => hF i h (by omega)⟩, hS.nil⟩)

set_option maxHeartbeats 2000000 in
theorem delWt_any (p : TmC → Bool) {s : List TmC} (f : FuncId) (cap : List Value) {v : Value} {B : Bs} {L : List HP} {w : World} (hS : St B (OwT 99 s v :: L) w) (hl : s.length ≤ 1000) (hf : callable Tryz.prog f = true)
    (hc : ∀ (x : TmC) (w' : World), St B L w' → Calls Tryz.prog f (.agg (Enc.f x).toArray :: cap).toArray w' (Ret fun v w'' => v = .bool (p x) ∧ St w' [] w'')) :
    Calls Tryz.prog 74 #[v, .func (.func f) #[] cap.toArray] w (Ret fun v' w' => St B (OwT 99 (s.filter (fun x => !p x)) v' :: L) w') := by
  refine enter Tryz.func74 rfl Tryz.ntmps74 rfl (fun a hk => ?_)
  (repeat' (first | (show wpListIn _ _ _ _ _ (_ :: _) _ _; first | (refine wx1 ?_; clear hk a; intro a hk) | (refine wx2 ?_ ?_ <;> (intro hp; clear hk a; intro a hk)) | (refine wx3 ?_; clear hk hS a; intro w b hS a hk) | (refine wx4 ?_; clear hk hS a; intro w hS a hk) | (refine wx5 ?_; clear hk hS a; intro w v hS a hk) | fail) | refine wx0 ?_ | (refine s_end hk ?_; clear hk a; intro a hk) | fail))
  refine sg hk (g_callO hk (hf := by kernel_rfl) (hc := idxWt_any p s f cap v _ (hS.sub Sub.cons_drop) (by first | exact St.rdT hS (by assumption) | exact OwT.rd (hS.rd (A := OwT _ _ _) (by (repeat (first | exact At.here | apply At.there)))) | assumption) hl hf hc) (h := ?_)); clear hk a; rintro vr w ⟨r, rfl, hr, hS1⟩ a hk; replace hS := hS.call hS1; clear hS1
  rcases hr with ⟨rfl, hn⟩ | ⟨k, hk0, rfl, hn, hp⟩
  · (repeat' (first | (show wpListIn _ _ _ _ _ (_ :: _) _ _; first | (refine wx1 ?_; clear hk a; intro a hk) | (refine wx2 ?_ ?_ <;> (intro hp; clear hk a; intro a hk)) | (refine wx3 ?_; clear hk hS a; intro w b hS a hk) | (refine wx4 ?_; clear hk hS a; intro w hS a hk) | (refine wx5 ?_; clear hk hS a; intro w v hS a hk) | fail) | refine wx0 ?_ | (refine s_end hk ?_; clear hk a; intro a hk) | fail))
    rw [filter_none p hn]
    exact done1 hk (h := hS)
  · (repeat' (first | (show wpListIn _ _ _ _ _ (_ :: _) _ _; first | (refine wx1 ?_; clear hk a; intro a hk) | (refine wx2 ?_ ?_ <;> (intro hp; clear hk a; intro a hk)) | (refine wx3 ?_; clear hk hS a; intro w b hS a hk) | (refine wx4 ?_; clear hk hS a; intro w hS a hk) | (refine wx5 ?_; clear hk hS a; intro w v hS a hk) | fail) | refine wx0 ?_ | (refine s_end hk ?_; clear hk a; intro a hk) | fail))
    replace hk := Kn.kp [0, 1, 5, 6] hk
    refine wp_while (fun x : Nat × Nat × List TmC => [(5, .int .i64 (x.1 : Int)), (6, .int .i64 (x.2.1 : Int))]) (fun x => OwT 99 x.2.2 v :: L) (fun x => Sieve p s x.2.2 x.1 x.2.1 ∧ x.2.1 ≤ s.length) (fun x => s.length - x.2.1) (k, k + 1, s) hk (by repeat (first | exact trivial | refine ⟨rfl, ?_⟩)) hS ⟨Sieve.start p hk0 hn hp, hk0⟩ ?_
    clear hk hS a hn hp
    rintro ⟨i, j, ys⟩ a w hk hS ⟨hF, hj⟩
    simp only at hk hS hF hj
    have hyl := hF.len
    have hij := hF.le
    by_cases hjl : j < s.length
    · have hget := hF.get p hjl
      (repeat' (first | (show wpListIn _ _ _ _ _ (_ :: _) _ _; first | (refine wx1 ?_; clear hk a; intro a hk) | (refine wx2 ?_ ?_ <;> (intro hp; clear hk a; intro a hk)) | (refine wx3 ?_; clear hk hS a; intro w b hS a hk) | (refine wx4 ?_; clear hk hS a; intro w hS a hk) | (refine wx5 ?_; clear hk hS a; intro w v hS a hk) | fail) | refine wx0 ?_ | (refine s_end hk ?_; clear hk a; intro a hk) | fail))
      refine sg hk (g_callvO (first := []) (cap := cap) hk (hf := hf) (hc := hc s[j] _ (hS.sub (Sub.under Sub.cons_drop))) (h := ?_)); clear hk a; rintro _ w2 ⟨rfl, hS1⟩ a hk; replace hS := hS.call0 hS1; clear hS1
      cases hp : p s[j] with
      | true =>
        rw [hp] at hk
        (repeat' (first | (show wpListIn _ _ _ _ _ (_ :: _) _ _; first | (refine wx1 ?_; clear hk a; intro a hk) | (refine wx2 ?_ ?_ <;> (intro hp; clear hk a; intro a hk)) | (refine wx3 ?_; clear hk hS a; intro w b hS a hk) | (refine wx4 ?_; clear hk hS a; intro w hS a hk) | (refine wx5 ?_; clear hk hS a; intro w v hS a hk) | fail) | refine wx0 ?_ | (refine s_end hk ?_; clear hk a; intro a hk) | fail))
        exact ⟨(i, j + 1, ys), by simp only; omega, hk.subD (by (repeat (first | exact trivial | refine ⟨rfl, ?_⟩ | refine ⟨trivial, ?_⟩)); fail_if_success focus skip), hS.sub Sub.cons_drop, hF.drop_ p hjl hp, hjl⟩
      | false =>
        rw [hp] at hk
        (repeat' (first | (show wpListIn _ _ _ _ _ (_ :: _) _ _; first | (refine wx1 ?_; clear hk a; intro a hk) | (refine wx2 ?_ ?_ <;> (intro hp; clear hk a; intro a hk)) | (refine wx3 ?_; clear hk hS a; intro w b hS a hk) | (refine wx4 ?_; clear hk hS a; intro w hS a hk) | (refine wx5 ?_; clear hk hS a; intro w v hS a hk) | fail) | refine wx0 ?_ | (refine s_end hk ?_; clear hk a; intro a hk) | fail))
        refine su hk (g_stT (xs := ys) (z := s[j]) hk hS ?_ (hsz := zT rfl) (hi := by omega))
        clear hk hS a
        intro w hS a hk
        (repeat' (first | (show wpListIn _ _ _ _ _ (_ :: _) _ _; first | (refine wx1 ?_; clear hk a; intro a hk) | (refine wx2 ?_ ?_ <;> (intro hp; clear hk a; intro a hk)) | (refine wx3 ?_; clear hk hS a; intro w b hS a hk) | (refine wx4 ?_; clear hk hS a; intro w hS a hk) | (refine wx5 ?_; clear hk hS a; intro w v hS a hk) | fail) | refine wx0 ?_ | (refine s_end hk ?_; clear hk a; intro a hk) | fail))
        exact ⟨(i + 1, j + 1, ys.set i s[j]), by simp only; omega, hk.subD (by (repeat (first | exact trivial | refine ⟨rfl, ?_⟩ | refine ⟨trivial, ?_⟩)); fail_if_success focus skip), hS.sub (.cons .here (Sub.under .refl)), hF.keep p hjl hp, hjl⟩
    · have hje : j = s.length := by omega
      subst hje
      have hhd := hF.head
      rw [List.take_length] at hhd
      (repeat' (first | (show wpListIn _ _ _ _ _ (_ :: _) _ _; first | (refine wx1 ?_; clear hk a; intro a hk) | (refine wx2 ?_ ?_ <;> (intro hp; clear hk a; intro a hk)) | (refine wx3 ?_; clear hk hS a; intro w b hS a hk) | (refine wx4 ?_; clear hk hS a; intro w hS a hk) | (refine wx5 ?_; clear hk hS a; intro w v hS a hk) | fail) | refine wx0 ?_ | (refine s_end hk ?_; clear hk a; intro a hk) | fail))
      obtain ⟨b, off, c, rfl, _, _⟩ := hS.ownCells (E := 99) (xs := ys) At.here (by intro h; subst h; simp at hyl; omega)
      obtain ⟨vs, hS1, hvl, hnc, hcm, hcl, hvs⟩ := hS.ownPts At.here
      replace hS := hS1
      clear hS1
      have e1 : ys.length * (Enc.k TmC + 1) = i * (Enc.k TmC + 1) + (ys.length - i) * (Enc.k TmC + 1) := by rw [← Nat.add_mul]; congr 1; omega
      have e2 : ys.length * (Enc.k TmC + 1) ≤ c * (Enc.k TmC + 1) := Nat.mul_le_mul_right _ hnc
      refine sg hk (g_slFc i (k := Enc.k TmC) hk ?_ (ht := eT rfl) (hE := zT rfl) (hp := rfl) (him := by omega) (hc := by omega)); clear hk a; intro a hk
      refine su hk (g_clear (k := Enc.k TmC) hk hS ?_ (ht := eT rfl) (hz := oT rfl) (hzs := rfl) (hz1 := by decide) (hfit := by omega))
      clear hk hS a
      intro w zs hzl hS a hk
      (repeat' (first | (show wpListIn _ _ _ _ _ (_ :: _) _ _; first | (refine wx1 ?_; clear hk a; intro a hk) | (refine wx2 ?_ ?_ <;> (intro hp; clear hk a; intro a hk)) | (refine wx3 ?_; clear hk hS a; intro w b hS a hk) | (refine wx4 ?_; clear hk hS a; intro w hS a hk) | (refine wx5 ?_; clear hk hS a; intro w v hS a hk) | fail) | refine wx0 ?_ | (refine s_end hk ?_; clear hk a; intro a hk) | fail))
      refine sg hk (g_slTc i (k := Enc.k TmC) hk ?_ (ht := eT rfl) (hE := zT rfl) (hp := rfl) (hj := by omega)); clear hk a; intro a hk
      (repeat' (first | (show wpListIn _ _ _ _ _ (_ :: _) _ _; first | (refine wx1 ?_; clear hk a; intro a hk) | (refine wx2 ?_ ?_ <;> (intro hp; clear hk a; intro a hk)) | (refine wx3 ?_; clear hk hS a; intro w b hS a hk) | (refine wx4 ?_; clear hk hS a; intro w hS a hk) | (refine wx5 ?_; clear hk hS a; intro w v hS a hk) | fail) | refine wx0 ?_ | (refine s_end hk ?_; clear hk a; intro a hk) | fail))
      have hF2 := hS.toTake (ys := ys) At.here (by omega) hnc hcm hvl hzl hvs
      rw [hhd] at hF2
      exact done1 hk (h := hF2)

def isTk (tok : Int) (y : TmC) : Bool := decide (y.1 = tok)
def fltW (tok : Int) (l : List TmC) : List TmC := l.filter (fun y => !isTk tok y)
theorem flt_len (tok : Int) (l : List TmC) : (fltW tok l).length ≤ l.length := List.length_filter_le _ _
theorem flt0 (tok : Int) (x : Wt) : fltW tok (q0L x) = q0L (cutW (true, tok) x) := by
  cases x with
  | no => rfl
  | q1 t k => by_cases h : tok = t <;> simp [cutW, h, fltW, q0L]
  | tm t d k => simp [cutW, fltW, q0L]
  | q0 t k =>
    by_cases h : tok = t
    · subst h; simp [cutW, fltW, q0L, isTk]
    · have h' : ¬ t = tok := fun e => h e.symm
      simp [cutW, fltW, q0L, isTk, h, h']
theorem flt1 (tok : Int) (x : Wt) : fltW tok (q1L x) = q1L (cutW (true, tok) x) := by
  cases x with
  | no => rfl
  | q0 t k => by_cases h : tok = t <;> simp [cutW, h, fltW, q1L]
  | tm t d k => simp [cutW, fltW, q1L]
  | q1 t k =>
    by_cases h : tok = t
    · subst h; simp [cutW, fltW, q1L, isTk]
    · have h' : ¬ t = tok := fun e => h e.symm
      simp [cutW, fltW, q1L, isTk, h, h']
theorem cut_tm (tok : Int) (x : Wt) : tmL (cutW (true, tok) x) = tmL x ∧ tmM (cutW (true, tok) x) = tmM x := by
  cases x with
  | no => exact ⟨rfl, rfl⟩
  | q0 t k => by_cases h : tok = t <;> simp [cutW, h, tmL, tmM]
  | q1 t k => by_cases h : tok = t <;> simp [cutW, h, tmL, tmM]
  | tm t d k => simp [cutW]
theorem cut_q (tok : Int) (x : Wt) : q0L (cutW (false, tok) x) = q0L x ∧ q1L (cutW (false, tok) x) = q1L x := by
  cases x with
  | no => exact ⟨rfl, rfl⟩
  | q0 t k => simp [cutW]
  | q1 t k => simp [cutW]
  | tm t d k => by_cases h : tok = t <;> simp [cutW, h, q0L, q1L]
section
variable {B : Bs} {L L' : List HP} {w : World}
theorem qc1_any {b3 : Nat} {tok : Int} (y : TmC) (w : World) (hS : St B L w) (hat : At (pts b3 [.int .i64 tok] 3) L L') :
    Calls Tryz.prog 75 #[.agg (Enc.f y).toArray, ptV b3] w (Ret fun v w' => v = .bool (isTk tok y) ∧ St w [] w') := by
  obtain ⟨t, d, k, n0⟩ := y
  have h3 := hS.rd hat
  clear hS
  show Calls Tryz.prog 75 #[.agg #[.int .i64 t, .int .i64 d, .int .i64 k, .int .i64 n0], ptV b3] w _
  refine enter Tryz.func75 rfl Tryz.ntmps75 rfl (fun a hk => ?_); have hS := St.refl w
  by_cases h : t = tok
  · rw [show isTk tok (t, d, k, n0) = true from decide_eq_true h]
    (repeat' (first | (show wpListIn _ _ _ _ _ (_ :: _) _ _; first | (refine wx1 ?_; clear hk a; intro a hk) | (refine wx2 ?_ ?_ <;> (intro hp; clear hk a; intro a hk)) | (refine wx3 ?_; clear hk hS a; intro w b hS a hk) | (refine wx4 ?_; clear hk hS a; intro w hS a hk) | (refine wx5 ?_; clear hk hS a; intro w v hS a hk) | fail) | refine wx0 ?_ | (refine s_end hk ?_; clear hk a; intro a hk) | fail))
    exact done1 hk (h := ⟨rfl, hS.nil⟩)
  · rw [show isTk tok (t, d, k, n0) = false from decide_eq_false h]
    (repeat' (first | (show wpListIn _ _ _ _ _ (_ :: _) _ _; first | (refine wx1 ?_; clear hk a; intro a hk) | (refine wx2 ?_ ?_ <;> (intro hp; clear hk a; intro a hk)) | (refine wx3 ?_; clear hk hS a; intro w b hS a hk) | (refine wx4 ?_; clear hk hS a; intro w hS a hk) | (refine wx5 ?_; clear hk hS a; intro w v hS a hk) | fail) | refine wx0 ?_ | (refine s_end hk ?_; clear hk a; intro a hk) | fail))
    exact done1 hk (h := ⟨rfl, hS.nil⟩)
set_option maxHeartbeats 2000000 in
theorem qcancel_any {bq : Nat} {ql tok : Int} {x : Wt} (hS : St B (queueH bq ql x :: L) w) :
    Calls Tryz.prog 55 #[ptV bq, .int .i64 tok] w (Ret fun v w' => (∃ q, v = .bool q) ∧ St B (queueH bq ql (cutW (true, tok) x) :: L) w') := by
  obtain ⟨a0, c0, a1, c1, hS1⟩ := hS.queue (bq := bq) (ql := ql) (x := x) .here
  clear hS
  have hS := hS1
  clear hS1
  simp only [queueL, List.cons_append, List.nil_append] at hS
  have l0 : (q0L x).length ≤ 1 := by cases x <;> simp [q0L]
  have l1 : (q1L x).length ≤ 1 := by cases x <;> simp [q1L]
  have f0 := flt0 tok x
  have f1 := flt1 tok x
  generalize q0L x = Q0 at *
  generalize q1L x = Q1 at *
  refine enter Tryz.func55 rfl Tryz.ntmps55 rfl (fun a hk => ?_)
  (repeat' (first | (show wpListIn _ _ _ _ _ (_ :: _) _ _; first | (refine wx1 ?_; clear hk a; intro a hk) | (refine wx2 ?_ ?_ <;> (intro hp; clear hk a; intro a hk)) | (refine wx3 ?_; clear hk hS a; intro w b hS a hk) | (refine wx4 ?_; clear hk hS a; intro w hS a hk) | (refine wx5 ?_; clear hk hS a; intro w v hS a hk) | fail) | refine wx0 ?_ | (refine s_end hk ?_; clear hk a; intro a hk) | fail))
  rename Nat => b3
  refine sg hk (g_callO hk (hf := by kernel_rfl) (hc := qlenP_any (bq := bq) (ql := ql) (a0 := a0) (a1 := a1) (n0 := Q0.length) (n1 := Q1.length) (c0 := c0) (c1 := c1) _ (by omega) (by omega) (hS.rd (by (repeat (first | exact At.here | apply At.there))))) (h := ?_)); clear hk a; rintro _ w ⟨rfl, hS1⟩ a hk; replace hS := hS.call0 hS1; clear hS1
  (repeat' (first | (show wpListIn _ _ _ _ _ (_ :: _) _ _; first | (refine wx1 ?_; clear hk a; intro a hk) | (refine wx2 ?_ ?_ <;> (intro hp; clear hk a; intro a hk)) | (refine wx3 ?_; clear hk hS a; intro w b hS a hk) | (refine wx4 ?_; clear hk hS a; intro w hS a hk) | (refine wx5 ?_; clear hk hS a; intro w v hS a hk) | fail) | refine wx0 ?_ | (refine s_end hk ?_; clear hk a; intro a hk) | fail))
  generalize hn0 : Q0.length = n0 at hk
  generalize hn1 : Q1.length = n1 at hk
  replace hk := Kn.kp [0, 3, 5, 9] hk
  refine wp_for 2 (fun i _ => [(9, .int .i64 (i : Int))]) (fun i (y : (Option Addr × Nat × List TmC) × (Option Addr × Nat × List TmC)) => pts bq [.int .i64 9, .int .i64 ql, .slice y.1.1 y.1.2.2.length y.1.2.1, .slice y.2.1 y.2.2.2.length y.2.2.1] 96 :: OwT 99 y.1.2.2 (.slice y.1.1 y.1.2.2.length y.1.2.1) :: OwT 99 y.2.2.2 (.slice y.2.1 y.2.2.2.length y.2.2.1) :: pts b3 [.int .i64 tok] 3 :: L) (fun i y => y.1.2.2 = (if i = 0 then Q0 else fltW tok Q0) ∧ y.2.2.2 = (if i = 2 then fltW tok Q1 else Q1)) ((a0, c0, Q0), (a1, c1, Q1)) hk (by repeat (first | exact trivial | refine ⟨rfl, ?_⟩)) (hS.sub (by (repeat (first | exact Sub.nil | exact Sub.refl | refine Sub.cons (by (repeat (first | exact At.here | apply At.there))) ?_)))) ⟨rfl, rfl⟩ ?_
  clear hk hS a
  rintro i ⟨⟨a0, c0, y0⟩, ⟨a1, c1, y1⟩⟩ a w hi hk hS ⟨hy0, hy1⟩
  have g0 := flt_len tok Q0
  have g1 := flt_len tok Q1
  simp only at hy0 hy1 hS
  subst hy0
  subst hy1
  by_cases i0 : i = 0
  · subst i0
    simp only [if_true] at hS
    rw [if_neg (show ¬ (0 : Nat) = 2 by omega)] at hS
    (repeat' (first | (show wpListIn _ _ _ _ _ (_ :: _) _ _; first | (refine wx1 ?_; clear hk a; intro a hk) | (refine wx2 ?_ ?_ <;> (intro hp; clear hk a; intro a hk)) | (refine wx3 ?_; clear hk hS a; intro w b hS a hk) | (refine wx4 ?_; clear hk hS a; intro w hS a hk) | (refine wx5 ?_; clear hk hS a; intro w v hS a hk) | fail) | refine wx0 ?_ | (refine s_end hk ?_; clear hk a; intro a hk) | fail))
    refine an_region (fun a w => ∃ (ax : Option Addr) (cx : Nat), Kn [] 30 a [(0, ptV bq), (3, ptV b3), (5, .int .i64 ((n0 : Int) + (n1 : Int))), (9, .int .i64 ((0 : Nat) : Int))] ∧ St B (pts bq [.int .i64 9, .int .i64 ql, .slice ax (fltW tok Q0).length cx, .slice a1 Q1.length c1] 96 :: OwT 99 (fltW tok Q0) (.slice ax (fltW tok Q0).length cx) :: OwT 99 Q1 (.slice a1 Q1.length c1) :: pts b3 [.int .i64 tok] 3 :: L) w) (fun _ _ => False) hk (by kernel_rfl) ?_ (fun ch a w _ h => h.elim) ?_
    · clear hk hS
      rintro a w ⟨ax, cx, hk, hS⟩
      (repeat (first | refine q_then ?_ | refine q_inE ?_ | refine q_inN ?_))
      (repeat' (first | (show wpListIn _ _ _ _ _ (_ :: _) _ _; first | (refine wx1 ?_; clear hk a; intro a hk) | (refine wx2 ?_ ?_ <;> (intro hp; clear hk a; intro a hk)) | (refine wx3 ?_; clear hk hS a; intro w b hS a hk) | (refine wx4 ?_; clear hk hS a; intro w hS a hk) | (refine wx5 ?_; clear hk hS a; intro w v hS a hk) | fail) | refine wx0 ?_ | (refine s_end hk ?_; clear hk a; intro a hk) | fail))
      exact ⟨by omega, ((ax, cx, fltW tok Q0), (a1, c1, Q1)), hk.sd, hS, rfl, rfl⟩
    · replace hS := hS.drew
      generalize w.drew = w at hS
      refine an_take (i := 0) (k := 13) rfl hk (by kernel_rfl) (by kernel_rfl) (by kernel_rfl) (y_move hk rfl) (fun _ => rfl) rfl (fun a hk => ?_) rfl
      refine an_take (i := 1) (k := 12) rfl hk (by kernel_rfl) (by kernel_rfl) (by kernel_rfl) (y_move hk rfl) (fun _ => rfl) rfl (fun a hk => ?_) rfl
      refine an_take (i := 2) (k := 11) rfl hk (by kernel_rfl) (by kernel_rfl) (by kernel_rfl) (y_move hk rfl) (fun _ => rfl) rfl (fun a hk => ?_) rfl
      refine an_take (i := 3) (k := 10) rfl hk (by kernel_rfl) (by kernel_rfl) (by kernel_rfl) (y_move hk rfl) (fun _ => rfl) rfl (fun a hk => ?_) rfl
      refine an_take (i := 4) (k := 9) rfl hk (by kernel_rfl) (by kernel_rfl) (by kernel_rfl) (y_nilc hk rfl) (fun _ => rfl) rfl (fun a hk => ?_) rfl
      refine an_take (i := 5) (k := 8) rfl hk (by kernel_rfl) (by kernel_rfl) (by kernel_rfl) (y_field hk (fT rfl) rfl) (fun _ => rfl) rfl (fun a hk => ?_) rfl
      refine an_take (i := 6) (k := 7) rfl hk (by kernel_rfl) (by kernel_rfl) (by kernel_rfl) (y_ixArr hk (arT rfl) (zT rfl) (by omega) (by omega) rfl rfl) (fun _ => rfl) rfl (fun a hk => ?_) rfl
      refine an_take (i := 8) (k := 6) rfl hk (by kernel_rfl) (by kernel_rfl) (by kernel_rfl) (y_makeFunc hk rfl rfl) (fun _ => rfl) rfl (fun a hk => ?_) rfl
      refine an_take (i := 10) (k := 5) rfl hk (by kernel_rfl) (by kernel_rfl) (by kernel_rfl) (y_nilc hk rfl) (fun _ => rfl) rfl (fun a hk => ?_) rfl
      refine an_take (i := 11) (k := 4) rfl hk (by kernel_rfl) (by kernel_rfl) (by kernel_rfl) (y_field hk (fT rfl) rfl) (fun _ => rfl) rfl (fun a hk => ?_) rfl
      refine an_step (i := 7) (rs := []) (by kernel_rfl) ?_
      intro jx hjx
      simp only [List.mem_cons, List.not_mem_nil, or_false] at hjx
      subst hjx
      refine an_op (i := 7) rfl hk (g_own1 hk hS (fun a hk => ?_) (aT rfl)) rfl
      refine an_step (i := 9) (rs := []) (by kernel_rfl) ?_
      intro jx hjx
      simp only [List.mem_cons, List.not_mem_nil, or_false] at hjx
      subst hjx
      refine an_op (i := 9) rfl hk (g_callO hk (hf := by kernel_rfl) (hc := delWt_any (isTk tok) (s := Q0) 75 [ptV b3] (hS.sub (L' := OwT 99 Q0 (.slice a0 Q0.length c0) :: pts bq [.int .i64 9, .int .i64 ql, .slice a0 Q0.length c0, .slice a1 Q1.length c1] 96 :: OwT 99 Q1 (.slice a1 Q1.length c1) :: pts b3 [.int .i64 tok] 3 :: L) (by (repeat (first | exact Sub.nil | exact Sub.refl | refine Sub.cons (by (repeat (first | exact At.here | apply At.there))) ?_)))) (by omega) (by kernel_rfl) (fun y w' hS' => qc1_any (b3 := b3) y w' hS' (by (repeat (first | exact At.here | apply At.there))))) (h := fun vx w hS a hk => ?_)) rfl
      rw [show Q0.filter (fun x => !isTk tok x) = fltW tok Q0 from rfl] at hS
      obtain ⟨aovx, cvx, hshp, _⟩ := (OwT.rd (hS.rd (A := OwT 99 _ vx) (by (repeat (first | exact At.here | apply At.there))))).shape; subst hshp
      refine an_take (i := 12) (k := 1) rfl hk (by kernel_rfl) (by kernel_rfl) (by kernel_rfl) (y_ixArr hk (arT rfl) (zT rfl) (by omega) (by omega) rfl rfl) (fun _ => rfl) rfl (fun a hk => ?_) rfl
      refine an_step (i := 13) (rs := []) (by kernel_rfl) ?_
      intro jx hjx
      simp only [List.mem_cons, List.not_mem_nil, or_false] at hjx
      subst hjx
      refine an_opu (i := 13) rfl hk (g_store hk hS (fun w hS a hk => ?_) (hsz := zT rfl))
      exact an_end (by kernel_rfl) (QX.normal ⟨aovx, cvx, hk.sub (by repeat (first | exact trivial | refine ⟨rfl, ?_⟩)), hS.sub (by (repeat (first | exact Sub.nil | exact Sub.refl | refine Sub.cons (by (repeat (first | exact At.here | apply At.there))) ?_)))⟩)
  · rw [if_neg i0] at hS
    by_cases i1 : i = 1
    · subst i1
      rw [if_neg (show ¬ (1 : Nat) = 2 by omega)] at hS
      (repeat' (first | (show wpListIn _ _ _ _ _ (_ :: _) _ _; first | (refine wx1 ?_; clear hk a; intro a hk) | (refine wx2 ?_ ?_ <;> (intro hp; clear hk a; intro a hk)) | (refine wx3 ?_; clear hk hS a; intro w b hS a hk) | (refine wx4 ?_; clear hk hS a; intro w hS a hk) | (refine wx5 ?_; clear hk hS a; intro w v hS a hk) | fail) | refine wx0 ?_ | (refine s_end hk ?_; clear hk a; intro a hk) | fail))
      refine an_region (fun a w => ∃ (ax : Option Addr) (cx : Nat), Kn [] 30 a [(0, ptV bq), (3, ptV b3), (5, .int .i64 ((n0 : Int) + (n1 : Int))), (9, .int .i64 ((1 : Nat) : Int))] ∧ St B (pts bq [.int .i64 9, .int .i64 ql, .slice a0 (fltW tok Q0).length c0, .slice ax (fltW tok Q1).length cx] 96 :: OwT 99 (fltW tok Q0) (.slice a0 (fltW tok Q0).length c0) :: OwT 99 (fltW tok Q1) (.slice ax (fltW tok Q1).length cx) :: pts b3 [.int .i64 tok] 3 :: L) w) (fun _ _ => False) hk (by kernel_rfl) ?_ (fun ch a w _ h => h.elim) ?_
      · clear hk hS
        rintro a w ⟨ax, cx, hk, hS⟩
        (repeat (first | refine q_then ?_ | refine q_inE ?_ | refine q_inN ?_))
        (repeat' (first | (show wpListIn _ _ _ _ _ (_ :: _) _ _; first | (refine wx1 ?_; clear hk a; intro a hk) | (refine wx2 ?_ ?_ <;> (intro hp; clear hk a; intro a hk)) | (refine wx3 ?_; clear hk hS a; intro w b hS a hk) | (refine wx4 ?_; clear hk hS a; intro w hS a hk) | (refine wx5 ?_; clear hk hS a; intro w v hS a hk) | fail) | refine wx0 ?_ | (refine s_end hk ?_; clear hk a; intro a hk) | fail))
        exact ⟨by omega, ((a0, c0, fltW tok Q0), (ax, cx, fltW tok Q1)), hk.sd, hS, rfl, rfl⟩
      · replace hS := hS.drew
        generalize w.drew = w at hS
        refine an_take (i := 0) (k := 13) rfl hk (by kernel_rfl) (by kernel_rfl) (by kernel_rfl) (y_move hk rfl) (fun _ => rfl) rfl (fun a hk => ?_) rfl
        refine an_take (i := 1) (k := 12) rfl hk (by kernel_rfl) (by kernel_rfl) (by kernel_rfl) (y_move hk rfl) (fun _ => rfl) rfl (fun a hk => ?_) rfl
        refine an_take (i := 2) (k := 11) rfl hk (by kernel_rfl) (by kernel_rfl) (by kernel_rfl) (y_move hk rfl) (fun _ => rfl) rfl (fun a hk => ?_) rfl
        refine an_take (i := 3) (k := 10) rfl hk (by kernel_rfl) (by kernel_rfl) (by kernel_rfl) (y_move hk rfl) (fun _ => rfl) rfl (fun a hk => ?_) rfl
        refine an_take (i := 4) (k := 9) rfl hk (by kernel_rfl) (by kernel_rfl) (by kernel_rfl) (y_nilc hk rfl) (fun _ => rfl) rfl (fun a hk => ?_) rfl
        refine an_take (i := 5) (k := 8) rfl hk (by kernel_rfl) (by kernel_rfl) (by kernel_rfl) (y_field hk (fT rfl) rfl) (fun _ => rfl) rfl (fun a hk => ?_) rfl
        refine an_take (i := 6) (k := 7) rfl hk (by kernel_rfl) (by kernel_rfl) (by kernel_rfl) (y_ixArr hk (arT rfl) (zT rfl) (by omega) (by omega) rfl rfl) (fun _ => rfl) rfl (fun a hk => ?_) rfl
        refine an_take (i := 8) (k := 6) rfl hk (by kernel_rfl) (by kernel_rfl) (by kernel_rfl) (y_makeFunc hk rfl rfl) (fun _ => rfl) rfl (fun a hk => ?_) rfl
        refine an_take (i := 10) (k := 5) rfl hk (by kernel_rfl) (by kernel_rfl) (by kernel_rfl) (y_nilc hk rfl) (fun _ => rfl) rfl (fun a hk => ?_) rfl
        refine an_take (i := 11) (k := 4) rfl hk (by kernel_rfl) (by kernel_rfl) (by kernel_rfl) (y_field hk (fT rfl) rfl) (fun _ => rfl) rfl (fun a hk => ?_) rfl
        refine an_step (i := 7) (rs := []) (by kernel_rfl) ?_
        intro jx hjx
        simp only [List.mem_cons, List.not_mem_nil, or_false] at hjx
        subst hjx
        refine an_op (i := 7) rfl hk (g_own1 hk hS (fun a hk => ?_) (aT rfl)) rfl
        refine an_step (i := 9) (rs := []) (by kernel_rfl) ?_
        intro jx hjx
        simp only [List.mem_cons, List.not_mem_nil, or_false] at hjx
        subst hjx
        refine an_op (i := 9) rfl hk (g_callO hk (hf := by kernel_rfl) (hc := delWt_any (isTk tok) (s := Q1) 75 [ptV b3] (hS.sub (L' := OwT 99 Q1 (.slice a1 Q1.length c1) :: pts bq [.int .i64 9, .int .i64 ql, .slice a0 (fltW tok Q0).length c0, .slice a1 Q1.length c1] 96 :: OwT 99 (fltW tok Q0) (.slice a0 (fltW tok Q0).length c0) :: pts b3 [.int .i64 tok] 3 :: L) (by (repeat (first | exact Sub.nil | exact Sub.refl | refine Sub.cons (by (repeat (first | exact At.here | apply At.there))) ?_)))) (by omega) (by kernel_rfl) (fun y w' hS' => qc1_any (b3 := b3) y w' hS' (by (repeat (first | exact At.here | apply At.there))))) (h := fun vx w hS a hk => ?_)) rfl
        rw [show Q1.filter (fun x => !isTk tok x) = fltW tok Q1 from rfl] at hS
        obtain ⟨aovx, cvx, hshp, _⟩ := (OwT.rd (hS.rd (A := OwT 99 _ vx) (by (repeat (first | exact At.here | apply At.there))))).shape; subst hshp
        refine an_take (i := 12) (k := 1) rfl hk (by kernel_rfl) (by kernel_rfl) (by kernel_rfl) (y_ixArr hk (arT rfl) (zT rfl) (by omega) (by omega) rfl rfl) (fun _ => rfl) rfl (fun a hk => ?_) rfl
        refine an_step (i := 13) (rs := []) (by kernel_rfl) ?_
        intro jx hjx
        simp only [List.mem_cons, List.not_mem_nil, or_false] at hjx
        subst hjx
        refine an_opu (i := 13) rfl hk (g_store hk hS (fun w hS a hk => ?_) (hsz := zT rfl))
        exact an_end (by kernel_rfl) (QX.normal ⟨aovx, cvx, hk.sub (by repeat (first | exact trivial | refine ⟨rfl, ?_⟩)), hS.sub (by (repeat (first | exact Sub.nil | exact Sub.refl | refine Sub.cons (by (repeat (first | exact At.here | apply At.there))) ?_)))⟩)
    · have : i = 2 := by omega
      subst this
      simp only [if_true] at hS
      (repeat' (first | (show wpListIn _ _ _ _ _ (_ :: _) _ _; first | (refine wx1 ?_; clear hk a; intro a hk) | (refine wx2 ?_ ?_ <;> (intro hp; clear hk a; intro a hk)) | (refine wx3 ?_; clear hk hS a; intro w b hS a hk) | (refine wx4 ?_; clear hk hS a; intro w hS a hk) | (refine wx5 ?_; clear hk hS a; intro w v hS a hk) | fail) | refine wx0 ?_ | (refine s_end hk ?_; clear hk a; intro a hk) | fail))
      refine sg hk (g_callO hk (hf := by kernel_rfl) (hc := qlenP_any (bq := bq) (ql := ql) (a0 := a0) (a1 := a1) (n0 := (fltW tok Q0).length) (n1 := (fltW tok Q1).length) (c0 := c0) (c1 := c1) _ (by omega) (by omega) (hS.rd (by (repeat (first | exact At.here | apply At.there))))) (h := ?_)); clear hk a; rintro _ w ⟨rfl, hS1⟩ a hk; replace hS := hS.call0 hS1; clear hS1
      (repeat' (first | (show wpListIn _ _ _ _ _ (_ :: _) _ _; first | (refine wx1 ?_; clear hk a; intro a hk) | (refine wx2 ?_ ?_ <;> (intro hp; clear hk a; intro a hk)) | (refine wx3 ?_; clear hk hS a; intro w b hS a hk) | (refine wx4 ?_; clear hk hS a; intro w hS a hk) | (refine wx5 ?_; clear hk hS a; intro w v hS a hk) | fail) | refine wx0 ?_ | (refine s_end hk ?_; clear hk a; intro a hk) | fail))
      all_goals (
        refine done1 hk (h := ⟨⟨_, rfl⟩, ?_⟩)
        refine queueH.of (a := a0) (c := c0) (a' := a1) (c' := c1) ?_
        simp only [queueL, List.cons_append, List.nil_append]
        rw [← f0, ← f1]
        exact hS.sub (.cons (by (repeat (first | exact At.here | apply At.there))) (.cons (by (repeat (first | exact At.here | apply At.there))) (.cons (by (repeat (first | exact At.here | apply At.there))) (by (repeat (first | exact Sub.refl | apply Sub.under)))))))
end
end Go.Proofs.YthodcfdgahfniaaGreat
namespace Go.Proofs.YthodcfdgahfniaaGreat
open Go.RowKit
set_option maxRecDepth 100000
attribute [local irreducible] Go.Code.wpIn Go.wpListIn Go.Calls Gives Go.Exit.then Go.Exit.inBlock Done ObxE

section
variable {B : Bs} {L : List HP} {w : World}
theorem scancel_any {bs : Nat} {now wl ql tok : Int} {fr : Bool} {x : Wt} (hS : St B (schedH bs now wl ql x :: L) w) :
    Calls Tryz.prog 29 #[ptV bs, .agg #[.bool fr, .int .i64 tok]] w (Ret fun v w' => (∃ q, v = .bool q) ∧ St B (schedH bs now wl ql (cutW (fr, tok) x) :: L) w') := by
  obtain ⟨bw, bq, hS1⟩ := hS.sched (bs := bs) (now := now) (wl := wl) (ql := ql) (x := x) .here
  clear hS
  have hS := hS1
  clear hS1
  simp only [schedL, List.cons_append, List.nil_append] at hS
  cases fr with
  | false =>
    have hq : queueH bq ql x = queueH bq ql (cutW (false, tok) x) := by
      unfold queueH queueL
      rw [(cut_q tok x).1, (cut_q tok x).2]
    rw [hq] at hS
    refine enter Tryz.func29 rfl Tryz.ntmps29 rfl (fun a hk => ?_)
    (repeat' (first | (show wpListIn _ _ _ _ _ (_ :: _) _ _; first | (refine wx1 ?_; clear hk a; intro a hk) | (refine wx2 ?_ ?_ <;> (intro hp; clear hk a; intro a hk)) | (refine wx3 ?_; clear hk hS a; intro w b hS a hk) | (refine wx4 ?_; clear hk hS a; intro w hS a hk) | (refine wx5 ?_; clear hk hS a; intro w v hS a hk) | fail) | refine wx0 ?_ | (refine s_end hk ?_; clear hk a; intro a hk) | fail))
    rename Nat => b3
    refine sg hk (g_callvO (first := [ptV bw]) (cap := []) hk (hf := by kernel_rfl) (hc := wcancel_any (bw := bw) (wl := wl) (tok := tok) (x := x) (hS.sub (.cons (by (repeat (first | exact At.here | apply At.there))) .refl))) (h := ?_)); clear hk hS a; rintro _ w ⟨⟨q, rfl⟩, hS⟩ a hk
    (repeat' (first | (show wpListIn _ _ _ _ _ (_ :: _) _ _; first | (refine wx1 ?_; clear hk a; intro a hk) | (refine wx2 ?_ ?_ <;> (intro hp; clear hk a; intro a hk)) | (refine wx3 ?_; clear hk hS a; intro w b hS a hk) | (refine wx4 ?_; clear hk hS a; intro w hS a hk) | (refine wx5 ?_; clear hk hS a; intro w v hS a hk) | fail) | refine wx0 ?_ | (refine s_end hk ?_; clear hk a; intro a hk) | fail))
    refine done1 hk (h := ⟨⟨_, rfl⟩, ?_⟩)
    refine schedH.of (bw := bw) (bq := bq) ?_
    simp only [schedL, List.cons_append, List.nil_append]
    exact hS.sub (.cons (by (repeat (first | exact At.here | apply At.there))) (.cons (by (repeat (first | exact At.here | apply At.there))) (.cons (by (repeat (first | exact At.here | apply At.there))) (by (repeat (first | exact Sub.refl | apply Sub.under))))))
  | true =>
    have hw : wheelH bw wl x = wheelH bw wl (cutW (true, tok) x) := by
      unfold wheelH wheelL
      rw [(cut_tm tok x).1, (cut_tm tok x).2]
    rw [hw] at hS
    refine enter Tryz.func29 rfl Tryz.ntmps29 rfl (fun a hk => ?_)
    (repeat' (first | (show wpListIn _ _ _ _ _ (_ :: _) _ _; first | (refine wx1 ?_; clear hk a; intro a hk) | (refine wx2 ?_ ?_ <;> (intro hp; clear hk a; intro a hk)) | (refine wx3 ?_; clear hk hS a; intro w b hS a hk) | (refine wx4 ?_; clear hk hS a; intro w hS a hk) | (refine wx5 ?_; clear hk hS a; intro w v hS a hk) | fail) | refine wx0 ?_ | (refine s_end hk ?_; clear hk a; intro a hk) | fail))
    rename Nat => b3
    refine sg hk (g_callvO (first := [ptV bq]) (cap := []) hk (hf := by kernel_rfl) (hc := qcancel_any (bq := bq) (ql := ql) (tok := tok) (x := x) (hS.sub (.cons (by (repeat (first | exact At.here | apply At.there))) .refl))) (h := ?_)); clear hk hS a; rintro _ w ⟨⟨q, rfl⟩, hS⟩ a hk
    (repeat' (first | (show wpListIn _ _ _ _ _ (_ :: _) _ _; first | (refine wx1 ?_; clear hk a; intro a hk) | (refine wx2 ?_ ?_ <;> (intro hp; clear hk a; intro a hk)) | (refine wx3 ?_; clear hk hS a; intro w b hS a hk) | (refine wx4 ?_; clear hk hS a; intro w hS a hk) | (refine wx5 ?_; clear hk hS a; intro w v hS a hk) | fail) | refine wx0 ?_ | (refine s_end hk ?_; clear hk a; intro a hk) | fail))
    refine done1 hk (h := ⟨⟨_, rfl⟩, ?_⟩)
    refine schedH.of (bw := bw) (bq := bq) ?_
    simp only [schedL, List.cons_append, List.nil_append]
    exact hS.sub (.cons (by (repeat (first | exact At.here | apply At.there))) (.cons (by (repeat (first | exact At.here | apply At.there))) (.cons (by (repeat (first | exact At.here | apply At.there))) (by (repeat (first | exact Sub.refl | apply Sub.under))))))
end
end Go.Proofs.YthodcfdgahfniaaGreat
namespace Go.Proofs.YthodcfdgahfniaaGreat
open Go.RowKit
set_option maxRecDepth 100000
attribute [local irreducible] Go.Code.wpIn Go.wpListIn Go.Calls Gives Go.Exit.then Go.Exit.inBlock Done ObxE

def decT (y : TmC) : TmC := (y.1, y.2.1 - 1, y.2.2)
def frameW : Wt → Wt
  | .q1 t k => .q0 t k
  | .q0 _ _ => .no
  | x => x
def dueL : Wt → List TmC
  | .q0 t k => [(t, 0, k, 0)]
  | _ => []
theorem dec0 (x : Wt) : (q0L x).map decT = dueL x := by cases x <;> rfl
theorem dec1 (x : Wt) : (q1L x).map decT = q0L (frameW x) := by cases x <;> rfl
theorem dec2 (x : Wt) : q1L (frameW x) = [] := by cases x <;> rfl
theorem frm_tm (x : Wt) : tmL (frameW x) = tmL x ∧ tmM (frameW x) = tmM x := by cases x <;> exact ⟨rfl, rfl⟩
section
variable {B : Bs} {L : List HP} {w : World}
set_option maxHeartbeats 4000000 in
theorem qframe_any {bq : Nat} {ql : Int} {x : Wt} (hS : St B (queueH bq ql x :: L) w) :
    Calls Tryz.prog 51 #[ptV bq] w (Ret fun v w' => St B (OwT 99 (dueL x) v :: queueH bq ql (frameW x) :: L) w') := by
  obtain ⟨a0, c0, a1, c1, hS1⟩ := hS.queue (bq := bq) (ql := ql) (x := x) .here
  clear hS
  have hS := hS1
  clear hS1
  simp only [queueL, List.cons_append, List.nil_append] at hS
  have f0 := dec0 x
  have f1 := dec1 x
  have f2 := dec2 x
  have l0 : (q0L x) = [] ∨ ∃ t l k n, q0L x = [(t, l, k, n)] ∧ 1 ≤ l ∧ l ≤ 2 := by
    cases x with
    | q0 t k => exact .inr ⟨t, 1, k, 0, rfl, by omega, by omega⟩
    | _ => exact .inl rfl
  have l1 : (q1L x) = [] ∨ ∃ t l k n, q1L x = [(t, l, k, n)] ∧ 1 ≤ l ∧ l ≤ 2 := by
    cases x with
    | q1 t k => exact .inr ⟨t, 2, k, 0, rfl, by omega, by omega⟩
    | _ => exact .inl rfl
  generalize q0L x = Q0 at *
  generalize q1L x = Q1 at *
  refine enter Tryz.func51 rfl Tryz.ntmps51 rfl (fun a hk => ?_)
  (repeat' (first | (show wpListIn _ _ _ _ _ (_ :: _) _ _; first | (refine wx1 ?_; clear hk a; intro a hk) | (refine wx2 ?_ ?_ <;> (intro hp; clear hk a; intro a hk)) | (refine wx3 ?_; clear hk hS a; intro w b hS a hk) | (refine wx4 ?_; clear hk hS a; intro w hS a hk) | (refine wx5 ?_; clear hk hS a; intro w v hS a hk) | fail) | refine wx0 ?_ | (refine s_end hk ?_; clear hk a; intro a hk) | fail))
  refine wp_drawn 8 mixed (by kernel_rfl) hk hS ?_; clear hk hS a
  (repeat' (first | (show ObxE _ _ _ _ _ _ _ _ _ (_ :: _) _ _ _; first | refine ox1 ?_ | (refine ox2 ?_ ?_ <;> intro hp) | fail) | fail))
  refine' obe_val (fun us a w hk hd hS => ?_) ?_; rotate_left; focus (have hk := Kn.vw hk (by repeat (first | exact VW.nil | apply VW.val rfl | apply VW.base rfl rfl | apply VW.res rfl | apply VW.upd rfl | apply VW.cpy rfl | apply VW.dep rfl | apply VW.fn rfl | apply VW.lnd rfl | apply VW.tak rfl)); exact g_slA0 hk (same _ _) (arT rfl) (zT rfl))
  (repeat' (first | (show ObxE _ _ _ _ _ _ _ _ _ (_ :: _) _ _ _; first | refine ox1 ?_ | (refine ox2 ?_ ?_ <;> intro hp) | fail) | fail))
  refine' obe_val (fun us a w hk hd hS => ?_) ?_; rotate_left; focus (have hk := Kn.vw hk (by repeat (first | exact VW.nil | apply VW.val rfl | apply VW.base rfl rfl | apply VW.res rfl | apply VW.upd rfl | apply VW.cpy rfl | apply VW.dep rfl | apply VW.fn rfl | apply VW.lnd rfl | apply VW.tak rfl)); exact g_slA1 (i := 1) hk (same _ _) (arT rfl) (zT rfl) (by omega))
  refine obe_nil ⟨rfl, ?_⟩; intro us a w hk hS
  replace hk := Kn.kp [0, 3, 15, 19] hk
  simp only [HV.of] at hk
  simp only [resE] at hS
  have hcl : Cells bq 3 [Value.slice a1 Q1.length c1] w := Cells.of_block (pts.block (hS.rd (A := pts bq [.int .i64 9, .int .i64 ql, .slice a0 Q0.length c0, .slice a1 Q1.length c1] 96) (by (repeat (first | exact At.here | apply At.there))))) 3 1
  refine sg hk (g_copyC (k := 0) (cs := [Value.slice a1 Q1.length c1]) (q := 1) hk hS ?_ (ht := eT rfl) (hE := zT rfl) (hq := rfl) (hl := rfl) (hsrc := hcl) (h1 := by intro u hu; rw [List.mem_singleton] at hu; subst hu; rfl) (hfit := by show 3 ≤ 4; omega)); clear hk hS a hcl; intro w hS a hk
  (repeat' (first | (show wpListIn _ _ _ _ _ (_ :: _) _ _; first | (refine wx1 ?_; clear hk a; intro a hk) | (refine wx2 ?_ ?_ <;> (intro hp; clear hk a; intro a hk)) | (refine wx3 ?_; clear hk hS a; intro w b hS a hk) | (refine wx4 ?_; clear hk hS a; intro w hS a hk) | (refine wx5 ?_; clear hk hS a; intro w v hS a hk) | fail) | refine wx0 ?_ | (refine s_end hk ?_; clear hk a; intro a hk) | fail))
  replace hS := hS.sub (L' := pts bq [.int .i64 9, .int .i64 ql, .slice a1 Q1.length c1, .slice none 0 0] 96 :: OwT 99 Q0 (.slice a0 Q0.length c0) :: OwT 99 Q1 (.slice a1 Q1.length c1) :: L) (by (repeat (first | exact Sub.nil | exact Sub.refl | refine Sub.cons (by (repeat (first | exact At.here | apply At.there))) ?_)))
  refine sg hk (g_bsT (xs := [(⟨a0, Q0.length, c0⟩ : Hd), (⟨a1, Q1.length, c1⟩ : Hd)]) (m := 1) hk hS ?_ (hT := eT rfl) (hE := zT rfl) (hz := oT rfl)); clear hk hS a; intro w v31 hS a hk
  (repeat' (first | (show wpListIn _ _ _ _ _ (_ :: _) _ _; first | (refine wx1 ?_; clear hk a; intro a hk) | (refine wx2 ?_ ?_ <;> (intro hp; clear hk a; intro a hk)) | (refine wx3 ?_; clear hk hS a; intro w b hS a hk) | (refine wx4 ?_; clear hk hS a; intro w hS a hk) | (refine wx5 ?_; clear hk hS a; intro w v hS a hk) | fail) | refine wx0 ?_ | (refine s_end hk ?_; clear hk a; intro a hk) | fail))
  rw [show (([(⟨a0, Q0.length, c0⟩ : Hd), (⟨a1, Q1.length, c1⟩ : Hd)] : List Hd).length : Int) = 2 from rfl] at hk
  replace hk := Kn.kp [3, 31, 32, 33] hk
  refine wp_for 2 (fun i _ => [(33, .int .i64 (i : Int))]) (fun i (y : List TmC × List TmC) => OwT 93 [(⟨a0, Q0.length, c0⟩ : Hd), (⟨a1, Q1.length, c1⟩ : Hd)] v31 :: OwT 99 y.1 (.slice a0 Q0.length c0) :: OwT 99 y.2 (.slice a1 Q1.length c1) :: pts bq [.int .i64 9, .int .i64 ql, .slice a1 Q1.length c1, .slice none 0 0] 96 :: L) (fun i y => y.1 = (if i = 0 then Q0 else Q0.map decT) ∧ y.2 = (if i = 2 then Q1.map decT else Q1)) (Q0, Q1) hk (by repeat (first | exact trivial | refine ⟨rfl, ?_⟩)) (hS.sub (by (repeat (first | exact Sub.nil | exact Sub.refl | refine Sub.cons (by (repeat (first | exact At.here | apply At.there))) ?_)))) ⟨rfl, rfl⟩ ?_
  clear hk hS a
  rintro i ⟨y0, y1⟩ a w hi hk hS ⟨hy0, hy1⟩
  simp only at hy0 hy1 hS
  subst hy0
  subst hy1
  by_cases i0 : i = 0
  · subst i0
    simp only [if_true] at hS
    rw [if_neg (show ¬ (0 : Nat) = 2 by omega)] at hS
    have hx : [(⟨a0, Q0.length, c0⟩ : Hd), (⟨a1, Q1.length, c1⟩ : Hd)][0]? = some (⟨a0, Q0.length, c0⟩ : Hd) := rfl
    rcases l0 with rfl | ⟨zt, zl, zk, zn, rfl, hz1, hz2⟩
    · simp only [List.length_nil, List.map_nil] at hS hk hx ⊢
      (repeat' (first | (show wpListIn _ _ _ _ _ (_ :: _) _ _; first | (refine wx1 ?_; clear hk a; intro a hk) | (refine wx2 ?_ ?_ <;> (intro hp; clear hk a; intro a hk)) | (refine wx3 ?_; clear hk hS a; intro w b hS a hk) | (refine wx4 ?_; clear hk hS a; intro w hS a hk) | (refine wx5 ?_; clear hk hS a; intro w v hS a hk) | fail) | refine wx0 ?_ | (refine s_end hk ?_; clear hk a; intro a hk) | fail))
      rw [show (([] : List TmC).length : Int) = 0 from rfl] at hk
      replace hk := Kn.kp [3, 5, 31, 32, 33, 38, 39] hk
      refine wp_for 0 (fun j _ => [(39, .int .i64 (j : Int))]) (fun _ _ => OwT 93 [(⟨a0, 0, c0⟩ : Hd), ⟨a1, Q1.length, c1⟩] v31 :: OwT 99 ([] : List TmC) (.slice a0 0 c0) :: OwT 99 Q1 (.slice a1 Q1.length c1) :: pts bq [.int .i64 9, .int .i64 ql, .slice a1 Q1.length c1, .slice none 0 0] 96 :: L) (fun _ _ => True) () hk (by repeat (first | exact trivial | refine ⟨rfl, ?_⟩)) (hS.sub (by (repeat (first | exact Sub.nil | exact Sub.refl | refine Sub.cons (by (repeat (first | exact At.here | apply At.there))) ?_)))) trivial ?_
      clear hk hS a
      rintro j - a w hj hk hS -
      have : j = 0 := by omega
      subst this
      (repeat' (first | (show wpListIn _ _ _ _ _ (_ :: _) _ _; first | (refine wx1 ?_; clear hk a; intro a hk) | (refine wx2 ?_ ?_ <;> (intro hp; clear hk a; intro a hk)) | (refine wx3 ?_; clear hk hS a; intro w b hS a hk) | (refine wx4 ?_; clear hk hS a; intro w hS a hk) | (refine wx5 ?_; clear hk hS a; intro w v hS a hk) | fail) | refine wx0 ?_ | (refine s_end hk ?_; clear hk a; intro a hk) | fail))
      refine ⟨by omega, (([] : List TmC), Q1), hk.sd, ?_, rfl, rfl⟩
      exact hS.sub (by (repeat (first | exact Sub.nil | exact Sub.refl | refine Sub.cons (by (repeat (first | exact At.here | apply At.there))) ?_)))
    · simp only [List.length_cons, List.length_nil] at hS hk hx
      (repeat' (first | (show wpListIn _ _ _ _ _ (_ :: _) _ _; first | (refine wx1 ?_; clear hk a; intro a hk) | (refine wx2 ?_ ?_ <;> (intro hp; clear hk a; intro a hk)) | (refine wx3 ?_; clear hk hS a; intro w b hS a hk) | (refine wx4 ?_; clear hk hS a; intro w hS a hk) | (refine wx5 ?_; clear hk hS a; intro w v hS a hk) | fail) | refine wx0 ?_ | (refine s_end hk ?_; clear hk a; intro a hk) | fail))
      rw [show (([((zt, zl, zk, zn) : TmC)]).length : Int) = 1 from rfl] at hk
      replace hk := Kn.kp [3, 5, 31, 32, 33, 38, 39] hk
      refine wp_for 1 (fun j _ => [(39, .int .i64 (j : Int))]) (fun _ (e : TmC) => OwT 93 [(⟨a0, (0 + 1), c0⟩ : Hd), ⟨a1, Q1.length, c1⟩] v31 :: OwT 99 [e] (.slice a0 1 c0) :: OwT 99 Q1 (.slice a1 Q1.length c1) :: pts bq [.int .i64 9, .int .i64 ql, .slice a1 Q1.length c1, .slice none 0 0] 96 :: L) (fun j e => e = if j = 0 then (zt, zl, zk, zn) else (zt, zl - 1, zk, zn)) (zt, zl, zk, zn) hk (by repeat (first | exact trivial | refine ⟨rfl, ?_⟩)) (hS.sub (by (repeat (first | exact Sub.nil | exact Sub.refl | refine Sub.cons (by (repeat (first | exact At.here | apply At.there))) ?_)))) rfl ?_
      clear hk hS a
      rintro j e a w hj hk hS he
      by_cases j0 : j = 0
      · subst j0
        simp only [if_true] at he
        subst he
        have hx1 : [((zt, zl, zk, zn) : TmC)][0]? = some (zt, zl, zk, zn) := rfl
        (repeat' (first | (show wpListIn _ _ _ _ _ (_ :: _) _ _; first | (refine wx1 ?_; clear hk a; intro a hk) | (refine wx2 ?_ ?_ <;> (intro hp; clear hk a; intro a hk)) | (refine wx3 ?_; clear hk hS a; intro w b hS a hk) | (refine wx4 ?_; clear hk hS a; intro w hS a hk) | (refine wx5 ?_; clear hk hS a; intro w v hS a hk) | fail) | refine wx0 ?_ | (refine s_end hk ?_; clear hk a; intro a hk) | fail))
        simp only at hk
        refine sg hk (g_sub hk ?_ (hlo := by omega) (hhi := by omega)); clear hk a; intro a hk
        (repeat' (first | (show wpListIn _ _ _ _ _ (_ :: _) _ _; first | (refine wx1 ?_; clear hk a; intro a hk) | (refine wx2 ?_ ?_ <;> (intro hp; clear hk a; intro a hk)) | (refine wx3 ?_; clear hk hS a; intro w b hS a hk) | (refine wx4 ?_; clear hk hS a; intro w hS a hk) | (refine wx5 ?_; clear hk hS a; intro w v hS a hk) | fail) | refine wx0 ?_ | (refine s_end hk ?_; clear hk a; intro a hk) | fail))
        refine su hk (g_stF (f := 1) (i := 0) (xs := [((zt, zl, zk, zn) : TmC)]) (z := (zt, zl - 1, zk, zn)) hk hS ?_ (ho := rfl) (hi := by simp) (hf := by show 1 < 4; omega) (hz := rfl) (hsz := zT rfl)); clear hk hS a; intro w hS a hk
        (repeat' (first | (show wpListIn _ _ _ _ _ (_ :: _) _ _; first | (refine wx1 ?_; clear hk a; intro a hk) | (refine wx2 ?_ ?_ <;> (intro hp; clear hk a; intro a hk)) | (refine wx3 ?_; clear hk hS a; intro w b hS a hk) | (refine wx4 ?_; clear hk hS a; intro w hS a hk) | (refine wx5 ?_; clear hk hS a; intro w v hS a hk) | fail) | refine wx0 ?_ | (refine s_end hk ?_; clear hk a; intro a hk) | fail))
        exact ⟨by omega, (zt, zl - 1, zk, zn), hk.sd, hS.sub (by (repeat (first | exact Sub.nil | exact Sub.refl | refine Sub.cons (by (repeat (first | exact At.here | apply At.there))) ?_))), rfl⟩
      · have : j = 1 := by omega
        subst this
        rw [if_neg j0] at he
        subst he
        (repeat' (first | (show wpListIn _ _ _ _ _ (_ :: _) _ _; first | (refine wx1 ?_; clear hk a; intro a hk) | (refine wx2 ?_ ?_ <;> (intro hp; clear hk a; intro a hk)) | (refine wx3 ?_; clear hk hS a; intro w b hS a hk) | (refine wx4 ?_; clear hk hS a; intro w hS a hk) | (refine wx5 ?_; clear hk hS a; intro w v hS a hk) | fail) | refine wx0 ?_ | (refine s_end hk ?_; clear hk a; intro a hk) | fail))
        refine ⟨by omega, ([((zt, zl - 1, zk, zn) : TmC)], Q1), hk.sd, ?_, rfl, rfl⟩
        exact hS.sub (by (repeat (first | exact Sub.nil | exact Sub.refl | refine Sub.cons (by (repeat (first | exact At.here | apply At.there))) ?_)))
  · rw [if_neg i0] at hS
    by_cases i1 : i = 1
    · subst i1
      rw [if_neg (show ¬ (1 : Nat) = 2 by omega)] at hS
      have hx : [(⟨a0, Q0.length, c0⟩ : Hd), (⟨a1, Q1.length, c1⟩ : Hd)][1]? = some (⟨a1, Q1.length, c1⟩ : Hd) := rfl
      rcases l1 with rfl | ⟨zt, zl, zk, zn, rfl, hz1, hz2⟩
      · simp only [List.length_nil, List.map_nil] at hS hk hx ⊢
        (repeat' (first | (show wpListIn _ _ _ _ _ (_ :: _) _ _; first | (refine wx1 ?_; clear hk a; intro a hk) | (refine wx2 ?_ ?_ <;> (intro hp; clear hk a; intro a hk)) | (refine wx3 ?_; clear hk hS a; intro w b hS a hk) | (refine wx4 ?_; clear hk hS a; intro w hS a hk) | (refine wx5 ?_; clear hk hS a; intro w v hS a hk) | fail) | refine wx0 ?_ | (refine s_end hk ?_; clear hk a; intro a hk) | fail))
        rw [show (([] : List TmC).length : Int) = 0 from rfl] at hk
        replace hk := Kn.kp [3, 5, 31, 32, 33, 38, 39] hk
        refine wp_for 0 (fun j _ => [(39, .int .i64 (j : Int))]) (fun _ _ => OwT 93 [(⟨a0, Q0.length, c0⟩ : Hd), ⟨a1, 0, c1⟩] v31 :: OwT 99 ([] : List TmC) (.slice a1 0 c1) :: OwT 99 (Q0.map decT) (.slice a0 Q0.length c0) :: pts bq [.int .i64 9, .int .i64 ql, .slice a1 0 c1, .slice none 0 0] 96 :: L) (fun _ _ => True) () hk (by repeat (first | exact trivial | refine ⟨rfl, ?_⟩)) (hS.sub (by (repeat (first | exact Sub.nil | exact Sub.refl | refine Sub.cons (by (repeat (first | exact At.here | apply At.there))) ?_)))) trivial ?_
        clear hk hS a
        rintro j - a w hj hk hS -
        have : j = 0 := by omega
        subst this
        (repeat' (first | (show wpListIn _ _ _ _ _ (_ :: _) _ _; first | (refine wx1 ?_; clear hk a; intro a hk) | (refine wx2 ?_ ?_ <;> (intro hp; clear hk a; intro a hk)) | (refine wx3 ?_; clear hk hS a; intro w b hS a hk) | (refine wx4 ?_; clear hk hS a; intro w hS a hk) | (refine wx5 ?_; clear hk hS a; intro w v hS a hk) | fail) | refine wx0 ?_ | (refine s_end hk ?_; clear hk a; intro a hk) | fail))
        refine ⟨by omega, (Q0.map decT, ([] : List TmC)), hk.sd, ?_, rfl, rfl⟩
        exact hS.sub (by (repeat (first | exact Sub.nil | exact Sub.refl | refine Sub.cons (by (repeat (first | exact At.here | apply At.there))) ?_)))
      · simp only [List.length_cons, List.length_nil] at hS hk hx
        (repeat' (first | (show wpListIn _ _ _ _ _ (_ :: _) _ _; first | (refine wx1 ?_; clear hk a; intro a hk) | (refine wx2 ?_ ?_ <;> (intro hp; clear hk a; intro a hk)) | (refine wx3 ?_; clear hk hS a; intro w b hS a hk) | (refine wx4 ?_; clear hk hS a; intro w hS a hk) | (refine wx5 ?_; clear hk hS a; intro w v hS a hk) | fail) | refine wx0 ?_ | (refine s_end hk ?_; clear hk a; intro a hk) | fail))
        rw [show (([((zt, zl, zk, zn) : TmC)]).length : Int) = 1 from rfl] at hk
        replace hk := Kn.kp [3, 5, 31, 32, 33, 38, 39] hk
        refine wp_for 1 (fun j _ => [(39, .int .i64 (j : Int))]) (fun _ (e : TmC) => OwT 93 [(⟨a0, Q0.length, c0⟩ : Hd), ⟨a1, (0 + 1), c1⟩] v31 :: OwT 99 [e] (.slice a1 1 c1) :: OwT 99 (Q0.map decT) (.slice a0 Q0.length c0) :: pts bq [.int .i64 9, .int .i64 ql, .slice a1 (0 + 1) c1, .slice none 0 0] 96 :: L) (fun j e => e = if j = 0 then (zt, zl, zk, zn) else (zt, zl - 1, zk, zn)) (zt, zl, zk, zn) hk (by repeat (first | exact trivial | refine ⟨rfl, ?_⟩)) (hS.sub (by (repeat (first | exact Sub.nil | exact Sub.refl | refine Sub.cons (by (repeat (first | exact At.here | apply At.there))) ?_)))) rfl ?_
        clear hk hS a
        rintro j e a w hj hk hS he
        by_cases j0 : j = 0
        · subst j0
          simp only [if_true] at he
          subst he
          have hx1 : [((zt, zl, zk, zn) : TmC)][0]? = some (zt, zl, zk, zn) := rfl
          (repeat' (first | (show wpListIn _ _ _ _ _ (_ :: _) _ _; first | (refine wx1 ?_; clear hk a; intro a hk) | (refine wx2 ?_ ?_ <;> (intro hp; clear hk a; intro a hk)) | (refine wx3 ?_; clear hk hS a; intro w b hS a hk) | (refine wx4 ?_; clear hk hS a; intro w hS a hk) | (refine wx5 ?_; clear hk hS a; intro w v hS a hk) | fail) | refine wx0 ?_ | (refine s_end hk ?_; clear hk a; intro a hk) | fail))
          simp only at hk
          refine sg hk (g_sub hk ?_ (hlo := by omega) (hhi := by omega)); clear hk a; intro a hk
          (repeat' (first | (show wpListIn _ _ _ _ _ (_ :: _) _ _; first | (refine wx1 ?_; clear hk a; intro a hk) | (refine wx2 ?_ ?_ <;> (intro hp; clear hk a; intro a hk)) | (refine wx3 ?_; clear hk hS a; intro w b hS a hk) | (refine wx4 ?_; clear hk hS a; intro w hS a hk) | (refine wx5 ?_; clear hk hS a; intro w v hS a hk) | fail) | refine wx0 ?_ | (refine s_end hk ?_; clear hk a; intro a hk) | fail))
          refine su hk (g_stF (f := 1) (i := 0) (xs := [((zt, zl, zk, zn) : TmC)]) (z := (zt, zl - 1, zk, zn)) hk hS ?_ (ho := rfl) (hi := by simp) (hf := by show 1 < 4; omega) (hz := rfl) (hsz := zT rfl)); clear hk hS a; intro w hS a hk
          (repeat' (first | (show wpListIn _ _ _ _ _ (_ :: _) _ _; first | (refine wx1 ?_; clear hk a; intro a hk) | (refine wx2 ?_ ?_ <;> (intro hp; clear hk a; intro a hk)) | (refine wx3 ?_; clear hk hS a; intro w b hS a hk) | (refine wx4 ?_; clear hk hS a; intro w hS a hk) | (refine wx5 ?_; clear hk hS a; intro w v hS a hk) | fail) | refine wx0 ?_ | (refine s_end hk ?_; clear hk a; intro a hk) | fail))
          exact ⟨by omega, (zt, zl - 1, zk, zn), hk.sd, hS.sub (by (repeat (first | exact Sub.nil | exact Sub.refl | refine Sub.cons (by (repeat (first | exact At.here | apply At.there))) ?_))), rfl⟩
        · have : j = 1 := by omega
          subst this
          rw [if_neg j0] at he
          subst he
          (repeat' (first | (show wpListIn _ _ _ _ _ (_ :: _) _ _; first | (refine wx1 ?_; clear hk a; intro a hk) | (refine wx2 ?_ ?_ <;> (intro hp; clear hk a; intro a hk)) | (refine wx3 ?_; clear hk hS a; intro w b hS a hk) | (refine wx4 ?_; clear hk hS a; intro w hS a hk) | (refine wx5 ?_; clear hk hS a; intro w v hS a hk) | fail) | refine wx0 ?_ | (refine s_end hk ?_; clear hk a; intro a hk) | fail))
          refine ⟨by omega, (Q0.map decT, [((zt, zl - 1, zk, zn) : TmC)]), hk.sd, ?_, rfl, rfl⟩
          exact hS.sub (by (repeat (first | exact Sub.nil | exact Sub.refl | refine Sub.cons (by (repeat (first | exact At.here | apply At.there))) ?_)))
    · have : i = 2 := by omega
      subst this
      simp only [if_true] at hS
      (repeat' (first | (show wpListIn _ _ _ _ _ (_ :: _) _ _; first | (refine wx1 ?_; clear hk a; intro a hk) | (refine wx2 ?_ ?_ <;> (intro hp; clear hk a; intro a hk)) | (refine wx3 ?_; clear hk hS a; intro w b hS a hk) | (refine wx4 ?_; clear hk hS a; intro w hS a hk) | (refine wx5 ?_; clear hk hS a; intro w v hS a hk) | fail) | refine wx0 ?_ | (refine s_end hk ?_; clear hk a; intro a hk) | fail))
      have n1 : Q1.length = (q0L (frameW x)).length := by rw [← f1, List.length_map]
      rw [f0, f1, n1] at hS
      refine done1 hk (h := ?_)
      have hS1 := queueH.of (bq := bq) (ql := ql) (x := frameW x) (a := a1) (c := c1) (a' := none) (c' := 0) (L := OwT 99 (dueL x) (.slice a0 Q0.length c0) :: L) (by
        simp only [queueL, f2, List.length_nil, List.cons_append, List.nil_append]
        exact (hS.nilT 99 TmC).sub (.cons (by (repeat (first | exact At.here | apply At.there))) (.cons (by (repeat (first | exact At.here | apply At.there))) (.cons (by (repeat (first | exact At.here | apply At.there))) (.cons (by (repeat (first | exact At.here | apply At.there))) (by (repeat (first | exact Sub.refl | apply Sub.under))))))))
      exact hS1.sub (by (repeat (first | exact Sub.nil | exact Sub.refl | refine Sub.cons (by (repeat (first | exact At.here | apply At.there))) ?_)))
def dueJ : Wt → List (Int × Int)
  | .q0 _ k => [(k, 0)]
  | _ => []
theorem sframe_any {bs : Nat} {now wl ql : Int} {x : Wt} (hS : St B (schedH bs now wl ql x :: L) w) :
    Calls Tryz.prog 23 #[ptV bs] w (Ret fun v w' => St B (OwT 72 (dueJ x) v :: schedH bs now wl ql (frameW x) :: L) w') := by
  obtain ⟨bw, bq, hS1⟩ := hS.sched (bs := bs) (now := now) (wl := wl) (ql := ql) (x := x) .here
  clear hS
  have hS := hS1
  clear hS1
  simp only [schedL, List.cons_append, List.nil_append] at hS
  have hw : wheelH bw wl x = wheelH bw wl (frameW x) := by
    unfold wheelH wheelL
    rw [(frm_tm x).1, (frm_tm x).2]
  rw [hw] at hS
  refine enter Tryz.func23 rfl Tryz.ntmps23 rfl (fun a hk => ?_)
  (repeat' (first | (show wpListIn _ _ _ _ _ (_ :: _) _ _; first | (refine wx1 ?_; clear hk a; intro a hk) | (refine wx2 ?_ ?_ <;> (intro hp; clear hk a; intro a hk)) | (refine wx3 ?_; clear hk hS a; intro w b hS a hk) | (refine wx4 ?_; clear hk hS a; intro w hS a hk) | (refine wx5 ?_; clear hk hS a; intro w v hS a hk) | fail) | refine wx0 ?_ | (refine s_end hk ?_; clear hk a; intro a hk) | fail))
  refine sg hk (g_callO hk (hf := by kernel_rfl) (hc := qframe_any (bq := bq) (ql := ql) (x := x) (hS.sub (.cons (by (repeat (first | exact At.here | apply At.there))) .refl))) (h := ?_)); clear hk hS a; intro v10 w hS a hk
  have hd : (dueL x = [] ∧ dueJ x = []) ∨ ∃ t k, dueL x = [(t, 0, k, 0)] ∧ dueJ x = [(k, 0)] := by
    cases x with
    | q0 t k => exact .inr ⟨t, k, rfl, rfl⟩
    | _ => exact .inl ⟨rfl, rfl⟩
  have hfin : ∀ {v : Value} {w : World} {X : List HP}, St B (OwT 72 (dueJ x) v :: queueH bq ql (frameW x) :: pts bs [.int .i64 now, .int .i64 9, ptV bw, ptV bq] 65 :: wheelH bw wl (frameW x) :: L) w → St B (OwT 72 (dueJ x) v :: schedH bs now wl ql (frameW x) :: L) w := by
    intro v w X hS
    have hS1 := schedH.of (bs := bs) (now := now) (wl := wl) (ql := ql) (x := frameW x) (bw := bw) (bq := bq) (L := OwT 72 (dueJ x) v :: L) (by
      simp only [schedL, List.cons_append, List.nil_append]
      exact hS.sub (by (repeat (first | exact Sub.nil | exact Sub.refl | refine Sub.cons (by (repeat (first | exact At.here | apply At.there))) ?_))))
    exact hS1.sub (by (repeat (first | exact Sub.nil | exact Sub.refl | refine Sub.cons (by (repeat (first | exact At.here | apply At.there))) ?_)))
  rcases hd with ⟨e1, e2⟩ | ⟨t, k, e1, e2⟩
  · rw [e1] at hS
    rw [e2] at hfin ⊢
    (repeat' (first | (show wpListIn _ _ _ _ _ (_ :: _) _ _; first | (refine wx1 ?_; clear hk a; intro a hk) | (refine wx2 ?_ ?_ <;> (intro hp; clear hk a; intro a hk)) | (refine wx3 ?_; clear hk hS a; intro w b hS a hk) | (refine wx4 ?_; clear hk hS a; intro w hS a hk) | (refine wx5 ?_; clear hk hS a; intro w v hS a hk) | fail) | refine wx0 ?_ | (refine s_end hk ?_; clear hk a; intro a hk) | fail))
    rw [show (([] : List TmC).length : Int) = 0 from rfl] at hk
    replace hS := hS.nilT 72 (Int × Int)
    replace hk := Kn.kp [3, 10, 11, 12] hk
    refine wp_for 0 (fun j _ => [(12, .int .i64 (j : Int))]) (fun _ _ => OwT 72 ([] : List (Int × Int)) (.slice none 0 0) :: queueH bq ql (frameW x) :: pts bs [.int .i64 now, .int .i64 9, ptV bw, ptV bq] 65 :: wheelH bw wl (frameW x) :: L) (fun _ _ => True) () hk (by repeat (first | exact trivial | refine ⟨rfl, ?_⟩)) (hS.sub (.cons (by (repeat (first | exact At.here | apply At.there))) (.cons (by (repeat (first | exact At.here | apply At.there))) (.cons (by (repeat (first | exact At.here | apply At.there))) (.cons (by (repeat (first | exact At.here | apply At.there))) (by (repeat (first | exact Sub.refl | apply Sub.under)))))))) trivial ?_
    clear hk hS a
    rintro j - a w hj hk hS -
    have : j = 0 := by omega
    subst this
    (repeat' (first | (show wpListIn _ _ _ _ _ (_ :: _) _ _; first | (refine wx1 ?_; clear hk a; intro a hk) | (refine wx2 ?_ ?_ <;> (intro hp; clear hk a; intro a hk)) | (refine wx3 ?_; clear hk hS a; intro w b hS a hk) | (refine wx4 ?_; clear hk hS a; intro w hS a hk) | (refine wx5 ?_; clear hk hS a; intro w v hS a hk) | fail) | refine wx0 ?_ | (refine s_end hk ?_; clear hk a; intro a hk) | fail))
    exact done1 hk (h := hfin (X := []) hS)
  · rw [e1] at hS
    rw [e2] at hfin ⊢
    (repeat' (first | (show wpListIn _ _ _ _ _ (_ :: _) _ _; first | (refine wx1 ?_; clear hk a; intro a hk) | (refine wx2 ?_ ?_ <;> (intro hp; clear hk a; intro a hk)) | (refine wx3 ?_; clear hk hS a; intro w b hS a hk) | (refine wx4 ?_; clear hk hS a; intro w hS a hk) | (refine wx5 ?_; clear hk hS a; intro w v hS a hk) | fail) | refine wx0 ?_ | (refine s_end hk ?_; clear hk a; intro a hk) | fail))
    rw [show (([((t, 0, k, 0) : TmC)]).length : Int) = 1 from rfl] at hk
    replace hS := hS.nilT 72 (Int × Int)
    replace hk := Kn.kp [3, 10, 11, 12] hk
    refine wp_for 1 (fun j (y : Option Addr × Nat × List (Int × Int)) => [(3, .slice y.1 y.2.2.length y.2.1), (12, .int .i64 (j : Int))]) (fun _ y => OwT 72 y.2.2 (.slice y.1 y.2.2.length y.2.1) :: OwT 99 [((t, 0, k, 0) : TmC)] v10 :: queueH bq ql (frameW x) :: pts bs [.int .i64 now, .int .i64 9, ptV bw, ptV bq] 65 :: wheelH bw wl (frameW x) :: L) (fun j y => y.2.2 = if j = 0 then [] else [(k, 0)]) (none, 0, []) hk (by repeat (first | exact trivial | refine ⟨rfl, ?_⟩)) (hS.sub (by (repeat (first | exact Sub.nil | exact Sub.refl | refine Sub.cons (by (repeat (first | exact At.here | apply At.there))) ?_)))) rfl ?_
    clear hk hS a
    rintro j ⟨ja, jc, jl⟩ a w hj hk hS hy
    simp only at hk hS hy
    by_cases j0 : j = 0
    · subst j0
      simp only [if_true] at hy
      subst hy
      have hx1 : [((t, 0, k, 0) : TmC)][0]? = some (t, 0, k, 0) := rfl
      (repeat' (first | (show wpListIn _ _ _ _ _ (_ :: _) _ _; first | (refine wx1 ?_; clear hk a; intro a hk) | (refine wx2 ?_ ?_ <;> (intro hp; clear hk a; intro a hk)) | (refine wx3 ?_; clear hk hS a; intro w b hS a hk) | (refine wx4 ?_; clear hk hS a; intro w hS a hk) | (refine wx5 ?_; clear hk hS a; intro w v hS a hk) | fail) | refine wx0 ?_ | (refine s_end hk ?_; clear hk a; intro a hk) | fail))
      refine sg hk (g_bsT (xs := [((k, 0) : Int × Int)]) (m := 0) hk hS ?_ (hT := eT rfl) (hE := zT rfl) (hz := oT rfl)); clear hk hS a; intro w ve hS a hk
      (repeat' (first | (show wpListIn _ _ _ _ _ (_ :: _) _ _; first | (refine wx1 ?_; clear hk a; intro a hk) | (refine wx2 ?_ ?_ <;> (intro hp; clear hk a; intro a hk)) | (refine wx3 ?_; clear hk hS a; intro w b hS a hk) | (refine wx4 ?_; clear hk hS a; intro w hS a hk) | (refine wx5 ?_; clear hk hS a; intro w v hS a hk) | fail) | refine wx0 ?_ | (refine s_end hk ?_; clear hk a; intro a hk) | fail))
      rename Value => vn
      rw [List.nil_append] at hS
      obtain ⟨aovn, cvn, hshp, _⟩ := (OwT.rd (hS.rd (A := OwT 72 _ vn) (by (repeat (first | exact At.here | apply At.there))))).shape; subst hshp
      (repeat' (first | (show wpListIn _ _ _ _ _ (_ :: _) _ _; first | (refine wx1 ?_; clear hk a; intro a hk) | (refine wx2 ?_ ?_ <;> (intro hp; clear hk a; intro a hk)) | (refine wx3 ?_; clear hk hS a; intro w b hS a hk) | (refine wx4 ?_; clear hk hS a; intro w hS a hk) | (refine wx5 ?_; clear hk hS a; intro w v hS a hk) | fail) | refine wx0 ?_ | (refine s_end hk ?_; clear hk a; intro a hk) | fail))
      exact ⟨by omega, (aovn, cvn, [(k, 0)]), hk.sd, hS.sub (.cons (by (repeat (first | exact At.here | apply At.there))) (.cons (by (repeat (first | exact At.here | apply At.there))) (.cons (by (repeat (first | exact At.here | apply At.there))) (.cons (by (repeat (first | exact At.here | apply At.there))) (.cons (by (repeat (first | exact At.here | apply At.there))) (by (repeat (first | exact Sub.refl | apply Sub.under)))))))), rfl⟩
    · have : j = 1 := by omega
      subst this
      rw [if_neg j0] at hy
      subst hy
      (repeat' (first | (show wpListIn _ _ _ _ _ (_ :: _) _ _; first | (refine wx1 ?_; clear hk a; intro a hk) | (refine wx2 ?_ ?_ <;> (intro hp; clear hk a; intro a hk)) | (refine wx3 ?_; clear hk hS a; intro w b hS a hk) | (refine wx4 ?_; clear hk hS a; intro w hS a hk) | (refine wx5 ?_; clear hk hS a; intro w v hS a hk) | fail) | refine wx0 ?_ | (refine s_end hk ?_; clear hk a; intro a hk) | fail))
      exact done1 hk (h := hfin (X := []) (hS.sub (.cons (by (repeat (first | exact At.here | apply At.there))) (.cons (by (repeat (first | exact At.here | apply At.there))) (.cons (by (repeat (first | exact At.here | apply At.there))) (.cons (by (repeat (first | exact At.here | apply At.there))) (by (repeat (first | exact Sub.refl | apply Sub.under))))))))) 
end
end Go.Proofs.YthodcfdgahfniaaGreat
