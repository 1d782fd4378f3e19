/- Layer 12: a list gone through backwards, by a range over a function; what is known of a value only so far. -/
import Derived.Test.YtlcfdlcmeinhiaaWeave6
import Derived.Test.YtlcfdlcmeinhiaaL23
namespace Go.Proofs.Ytlcfdlcmeinhiaa
open Go.RowKit
set_option maxRecDepth 100000
attribute [local irreducible] Go.Code.wpIn Go.wpListIn Go.Calls Gives Go.Exit.then Go.Exit.inBlock Done ObxE

/-- A resource of some x, of which p holds. -/
def exH {α : Type} (A : α → HP) (p : α → Prop) : HP where
  holds F w := ∃ x, p x ∧ (A x).holds F w
  stable := fun F w w' ⟨x, hp, h⟩ hh => ⟨x, hp, (A x).stable F w w' h hh⟩
  dom := fun F w c ⟨x, _, h⟩ hc => (A x).dom F w c h hc
theorem exH.of {α : Type} {A : α → HP} {p : α → Prop} {B : Bs} {w : World} {L : List HP} {x : α} (h : St B (A x :: L) w) (hp : p x) : St B (exH A p :: L) w :=
  h.conv (As := [_]) At.here (fun F hF => ⟨F, fun _ h => h, Sep.one ⟨x, hp, hF⟩⟩)
theorem St.exH {α : Type} {A : α → HP} {p : α → Prop} {B : Bs} {w : World} {L L' : List HP} (h : St B L w) (hat : At (Proofs.Ytlcfdlcmeinhiaa.exH A p) L L') : ∃ x, p x ∧ St B (A x :: L') w := by
  obtain ⟨F, hF, hS⟩ := h.own
  obtain ⟨F1, F2, h1, h2, h3, ⟨x, hp, h4⟩, h5⟩ := hS.pull hat
  exact ⟨x, hp, h.below, h.frz, F, hF, F1, F2, h1, h2, h3, h4, h5⟩

theorem backw_any {B : Bs} {w : World} {L : List HP} {ao : Option Addr} {j c : Nat} (hS : St B L w) :
    Calls Try.prog 60 #[.slice ao j c] w (Ret fun u w' => ∃ b, u = .func (.func 70) #[] #[.pointer (some ⟨b, 0, none⟩)] ∧ St B (pts b [.slice ao j c] 31 :: L) w') := by
  refine enter Try.func60 rfl Try.ntmps60 rfl (fun a hk => ?_)
  (repeat' (first | (show wpListIn _ _ _ _ _ (_ :: _) _ _; first | (refine st hk ?_; clear hk a; intro a hk) | (refine st_skip hk ?_; clear hk a; intro a hk) | (refine s_skip0 hk ?_; clear hk a; intro a hk) | (first | refine st_lss hk ?_ ?_ | refine st_leq hk ?_ ?_ | refine st_gtr hk ?_ ?_ | refine st_geq hk ?_ ?_ | refine st_eqi hk ?_ ?_ | refine st_nei hk ?_ ?_ | refine st_eqS hk ?_ ?_ | refine st_neS hk ?_ ?_ | refine st_cmpS hk ?_ ?_ | refine st_eqs hk ?_ ?_ | refine st_nes hk ?_ ?_) <;> (intro hp; clear hk a; intro a hk) | (first | refine st_box hk hS ?_ | refine st_alloc hk hS ?_); clear hk hS a; intro w b hS a hk | (first | refine st_store hk hS ?_ | refine st_stI hk hS ?_ | refine st_stB hk hS ?_ | refine st_stS hk hS ?_); clear hk hS a; intro w hS a hk | (first | refine st_bs1I hk hS ?_ | refine st_bs1S hk hS ?_ | refine st_app1 hk hS ?_ | refine st_appE hk hS ?_); clear hk hS a; intro w v hS a hk | fail) | refine wpIn_seq ?_ | refine wpIn_block ?_ | refine wpIn_region_lit ?_ | refine q_then ?_ | refine q_thenE ?_ | refine q_thenR ?_ | refine q_inN ?_ | refine q_inR ?_ | refine q_inE ?_ | refine q_inO ?_ | refine wpIn_skip ?_ | refine wpIn_ret ?_ | refine wpIn_exit ?_ | (refine s_end hk ?_; clear hk a; intro a hk) | refine c_true hk ?_ | refine c_false hk ?_ | fail))
  exact done1 hk (h := ⟨b, rfl, hS⟩)

theorem back1_any {ι : Type} {B : Bs} {w : World} {xs : List Int} {v : Value} {bv b : Nat} {fn : FuncId} {tmps : Array Value} {p q : Nat} {asg bod : Code} {D : Nat} (Ls : Nat → ι → List HP) (F : Nat → ι → Prop) (x0 : ι)
    (hS : St B (obj b (lrec fn tmps #[p, q] asg bod D .ready none) :: pts bv [v] 31 :: OwT 3 xs v :: Ls xs.length x0) w) (hF : F xs.length x0) (hl : xs.length ≤ 100000)
    (hround : ∀ (i : Nat) (y : ι) (id : Int) (w : World), xs[i]? = some id → i < xs.length → F (i + 1) y →
      St B (obj b (lrec fn tmps #[p, q] asg bod D .ready none) :: pts bv [v] 31 :: OwT 3 xs v :: Ls (i + 1) y) w →
      RoundIn Fence.wide 0 Try.prog b fn (((#[p, q] : Array Tmp).zip #[.int .i64 (i : Int), .int .i64 id]).foldl (fun t (s, u) => t.setIfInBounds s u) tmps) asg bod w
        (Ret fun u w' => u = .bool true ∧ ∃ y', St B (obj b (lrec fn tmps #[p, q] asg bod D .ready none) :: pts bv [v] 31 :: OwT 3 xs v :: Ls i y') w' ∧ F i y')) :
    Calls Try.prog 70 #[.func (.yield b) #[] #[], .pointer (some ⟨bv, 0, none⟩)] w
      (Ret fun _ w' => ∃ y, St B (obj b (lrec fn tmps #[p, q] asg bod D .ready none) :: pts bv [v] 31 :: OwT 3 xs v :: Ls 0 y) w' ∧ F 0 y) := by
  refine enter Try.func70 rfl Try.ntmps70 rfl (fun a hk => ?_)
  (repeat' (first | (show wpListIn _ _ _ _ _ (_ :: _) _ _; first | (refine st hk ?_; clear hk a; intro a hk) | (refine st_skip hk ?_; clear hk a; intro a hk) | (refine s_skip0 hk ?_; clear hk a; intro a hk) | (first | refine st_lss hk ?_ ?_ | refine st_leq hk ?_ ?_ | refine st_gtr hk ?_ ?_ | refine st_geq hk ?_ ?_ | refine st_eqi hk ?_ ?_ | refine st_nei hk ?_ ?_ | refine st_eqS hk ?_ ?_ | refine st_neS hk ?_ ?_ | refine st_cmpS hk ?_ ?_ | refine st_eqs hk ?_ ?_ | refine st_nes hk ?_ ?_) <;> (intro hp; clear hk a; intro a hk) | (first | refine st_box hk hS ?_ | refine st_alloc hk hS ?_); clear hk hS a; intro w b hS a hk | (first | refine st_store hk hS ?_ | refine st_stI hk hS ?_ | refine st_stB hk hS ?_ | refine st_stS hk hS ?_); clear hk hS a; intro w hS a hk | (first | refine st_bs1I hk hS ?_ | refine st_bs1S hk hS ?_ | refine st_app1 hk hS ?_ | refine st_appE hk hS ?_); clear hk hS a; intro w v hS a hk | fail) | refine wpIn_seq ?_ | refine wpIn_block ?_ | refine wpIn_region_lit ?_ | refine q_then ?_ | refine q_thenE ?_ | refine q_thenR ?_ | refine q_inN ?_ | refine q_inR ?_ | refine q_inE ?_ | refine q_inO ?_ | refine wpIn_skip ?_ | refine wpIn_ret ?_ | refine wpIn_exit ?_ | (refine s_end hk ?_; clear hk a; intro a hk) | refine c_true hk ?_ | refine c_false hk ?_ | fail))
  replace hk := Kn.kp [0, 1, 3] hk
  refine wp_while (fun x : Nat × ι => [(3, .int .i64 ((x.1 : Int) - 1))]) (fun x => obj b (lrec fn tmps #[p, q] asg bod D .ready none) :: pts bv [v] 31 :: OwT 3 xs v :: Ls x.1 x.2) (fun x => x.1 ≤ xs.length ∧ F x.1 x.2) (fun x => x.1) (xs.length, x0) hk (by repeat (first | exact trivial | refine ⟨rfl, ?_⟩)) hS ⟨Nat.le_refl _, hF⟩ ?_
  clear hk hS a hF
  rintro ⟨k, y⟩ a w hk hS ⟨hkl, hF⟩
  simp only at hk hS hkl hF
  cases k with
  | zero =>
    (repeat' (first | (show wpListIn _ _ _ _ _ (_ :: _) _ _; first | (refine st hk ?_; clear hk a; intro a hk) | (refine st_skip hk ?_; clear hk a; intro a hk) | (refine s_skip0 hk ?_; clear hk a; intro a hk) | (first | refine st_lss hk ?_ ?_ | refine st_leq hk ?_ ?_ | refine st_gtr hk ?_ ?_ | refine st_geq hk ?_ ?_ | refine st_eqi hk ?_ ?_ | refine st_nei hk ?_ ?_ | refine st_eqS hk ?_ ?_ | refine st_neS hk ?_ ?_ | refine st_cmpS hk ?_ ?_ | refine st_eqs hk ?_ ?_ | refine st_nes hk ?_ ?_) <;> (intro hp; clear hk a; intro a hk) | (first | refine st_box hk hS ?_ | refine st_alloc hk hS ?_); clear hk hS a; intro w b hS a hk | (first | refine st_store hk hS ?_ | refine st_stI hk hS ?_ | refine st_stB hk hS ?_ | refine st_stS hk hS ?_); clear hk hS a; intro w hS a hk | (first | refine st_bs1I hk hS ?_ | refine st_bs1S hk hS ?_ | refine st_app1 hk hS ?_ | refine st_appE hk hS ?_); clear hk hS a; intro w v hS a hk | fail) | refine wpIn_seq ?_ | refine wpIn_block ?_ | refine wpIn_region_lit ?_ | refine q_then ?_ | refine q_thenE ?_ | refine q_thenR ?_ | refine q_inN ?_ | refine q_inR ?_ | refine q_inE ?_ | refine q_inO ?_ | refine wpIn_skip ?_ | refine wpIn_ret ?_ | refine wpIn_exit ?_ | (refine s_end hk ?_; clear hk a; intro a hk) | refine c_true hk ?_ | refine c_false hk ?_ | fail))
    exact done0n hk (h := ⟨y, hS, hF⟩)
  | succ i =>
    obtain ⟨id, hx⟩ : ∃ x, xs[i]? = some x := ⟨_, List.getElem?_eq_getElem (by omega)⟩
    rw [show ((i + 1 : Nat) : Int) - 1 = (i : Int) by omega] at hk
    (repeat' (first | (show wpListIn _ _ _ _ _ (_ :: _) _ _; first | (refine st hk ?_; clear hk a; intro a hk) | (refine st_skip hk ?_; clear hk a; intro a hk) | (refine s_skip0 hk ?_; clear hk a; intro a hk) | (first | refine st_lss hk ?_ ?_ | refine st_leq hk ?_ ?_ | refine st_gtr hk ?_ ?_ | refine st_geq hk ?_ ?_ | refine st_eqi hk ?_ ?_ | refine st_nei hk ?_ ?_ | refine st_eqS hk ?_ ?_ | refine st_neS hk ?_ ?_ | refine st_cmpS hk ?_ ?_ | refine st_eqs hk ?_ ?_ | refine st_nes hk ?_ ?_) <;> (intro hp; clear hk a; intro a hk) | (first | refine st_box hk hS ?_ | refine st_alloc hk hS ?_); clear hk hS a; intro w b hS a hk | (first | refine st_store hk hS ?_ | refine st_stI hk hS ?_ | refine st_stB hk hS ?_ | refine st_stS hk hS ?_); clear hk hS a; intro w hS a hk | (first | refine st_bs1I hk hS ?_ | refine st_bs1S hk hS ?_ | refine st_app1 hk hS ?_ | refine st_appE hk hS ?_); clear hk hS a; intro w v hS a hk | fail) | refine wpIn_seq ?_ | refine wpIn_block ?_ | refine wpIn_region_lit ?_ | refine q_then ?_ | refine q_thenE ?_ | refine q_thenR ?_ | refine q_inN ?_ | refine q_inR ?_ | refine q_inE ?_ | refine q_inO ?_ | refine wpIn_skip ?_ | refine wpIn_ret ?_ | refine wpIn_exit ?_ | (refine s_end hk ?_; clear hk a; intro a hk) | refine c_true hk ?_ | refine c_false hk ?_ | fail))
    refine sg hk (g_yield hk hS (by (repeat (first | exact At.here | apply At.there))) (hround i y id w hx (by omega) hF hS) ?_ (hsz := rfl)); clear hk hS a
    rintro _ w ⟨rfl, y', hS, hF'⟩ a hk
    (repeat' (first | (show wpListIn _ _ _ _ _ (_ :: _) _ _; first | (refine st hk ?_; clear hk a; intro a hk) | (refine st_skip hk ?_; clear hk a; intro a hk) | (refine s_skip0 hk ?_; clear hk a; intro a hk) | (first | refine st_lss hk ?_ ?_ | refine st_leq hk ?_ ?_ | refine st_gtr hk ?_ ?_ | refine st_geq hk ?_ ?_ | refine st_eqi hk ?_ ?_ | refine st_nei hk ?_ ?_ | refine st_eqS hk ?_ ?_ | refine st_neS hk ?_ ?_ | refine st_cmpS hk ?_ ?_ | refine st_eqs hk ?_ ?_ | refine st_nes hk ?_ ?_) <;> (intro hp; clear hk a; intro a hk) | (first | refine st_box hk hS ?_ | refine st_alloc hk hS ?_); clear hk hS a; intro w b hS a hk | (first | refine st_store hk hS ?_ | refine st_stI hk hS ?_ | refine st_stB hk hS ?_ | refine st_stS hk hS ?_); clear hk hS a; intro w hS a hk | (first | refine st_bs1I hk hS ?_ | refine st_bs1S hk hS ?_ | refine st_app1 hk hS ?_ | refine st_appE hk hS ?_); clear hk hS a; intro w v hS a hk | fail) | refine wpIn_seq ?_ | refine wpIn_block ?_ | refine wpIn_region_lit ?_ | refine q_then ?_ | refine q_thenE ?_ | refine q_thenR ?_ | refine q_inN ?_ | refine q_inR ?_ | refine q_inE ?_ | refine q_inO ?_ | refine wpIn_skip ?_ | refine wpIn_ret ?_ | refine wpIn_exit ?_ | (refine s_end hk ?_; clear hk a; intro a hk) | refine c_true hk ?_ | refine c_false hk ?_ | fail))
    exact ⟨(i, y'), by simp only; omega, hk.sd, hS, by omega, hF'⟩

/-- A list gone through backwards. -/
theorem wp_rangeB {ι : Type} {B : Bs} {w : World} {xs : List Int} {v : Value} {bv : Nat} {p q n : Nat} {asg bod : Code} {gop : Operand} {Q : Exit → Act → World → Prop} {a : Act} {l0 : List (Nat × Value)}
    (Ls : Nat → ι → List HP) (F : Nat → ι → Prop) (x0 : ι) (hk : Kn [] n a l0) (hS : St B (pts bv [v] 31 :: OwT 3 xs v :: Ls xs.length x0) w) (hF : F xs.length x0) (hl : xs.length ≤ 100000)
    (hround : ∀ (i : Nat) (y : ι) (id : Int) (fn b D : Nat) (tmps : Array Value) (w : World), xs[i]? = some id → i < xs.length → F (i + 1) y →
      St B (obj b (lrec fn tmps #[p, q] asg bod D .ready none) :: obj D (.deferred (some [])) :: pts bv [v] 31 :: OwT 3 xs v :: Ls (i + 1) y) w →
      ∀ a', Kn [] n a' ((q, .int .i64 id) :: (p, .int .i64 (i : Int)) :: l0) → asg.wpIn (FR (some b)) 0 Try.prog (Exit.then (BegK Try.prog b bod (Ret fun u w' => u = .bool true ∧
        ∃ y', St B (obj b (lrec fn tmps #[p, q] asg bod D .ready none) :: obj D (.deferred (some [])) :: pts bv [v] 31 :: OwT 3 xs v :: Ls i y') w' ∧ F i y')) (fun _ _ _ => False)) a' w)
    (hend : ∀ (y : ι) (D : Nat) (w : World), F 0 y → St B (obj D (.deferred (some [])) :: pts bv [v] 31 :: OwT 3 xs v :: Ls 0 y) w → ∀ a', Kn (mk_ D) n a' l0 → Q .normal a' w)
    (hg : ev l0 gop = some (.func (.func 70) #[] #[.pointer (some ⟨bv, 0, none⟩)]) := by rfl) (hp : Nat.blt p n = true := by rfl) (hq : Nat.blt q n = true := by rfl) :
    (Code.rangeFunc gop #[p, q] asg bod).wpIn (FR none) 0 Try.prog Q a w := by
  refine wp_rangeFunc (lb := [.pointer (some ⟨bv, 0, none⟩)]) (fun y => pts bv [v] 31 :: OwT 3 xs v :: Ls 0 y) (fun y => F 0 y) hk hS (fun fn b D w1 hS1 => ?_) (fun y D w hF hS => hend y D w hF hS) hg
  have hS2 : St B (obj b (lrec fn a.tmps #[p, q] asg bod D .ready none) :: pts bv [v] 31 :: OwT 3 xs v :: (fun i y => obj D (.deferred (some [])) :: Ls i y) xs.length x0) w1 :=
    hS1.sub (.cons .here (.cons (.there .here) (.cons (.there .here) .refl)))
  refine Calls.mono (back1_any (fun i y => obj D (.deferred (some [])) :: Ls i y) F x0 hS2 hF hl (fun i y id w hid hi hF hS => round2 hk hp hq (fun a' hk' => ?_)))
    (fun e w h => h.mono (fun v w ⟨y, hS, hF⟩ => ⟨y, hS.sub (.cons .here (.cons (.there (.there .here)) (.cons .here (.cons .here .refl)))), hF⟩))
  have h1 := hround i y id fn b D a.tmps w hid hi hF (hS.sub (.cons .here (.cons (.there (.there .here)) (.cons .here (.cons .here .refl))))) a' hk'
  exact beg_mono h1 (fun e w h => h.mono (fun u w ⟨h0, y', hS, hF⟩ => ⟨h0, y', hS.sub (.cons .here (.cons (.there .here) (.cons (.there .here) .refl))), hF⟩))
end Go.Proofs.Ytlcfdlcmeinhiaa
