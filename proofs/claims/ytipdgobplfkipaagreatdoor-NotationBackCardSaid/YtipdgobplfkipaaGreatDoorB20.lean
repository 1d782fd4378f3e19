/- Layer 7: which views may be, by themselves: the program. Layer 7: which views may be, by themselves: names, values, kids: the program. Layer 7: which views may be, by themselves: the program. -/
import Derived.Test.YtipdgobplfkipaaGreatDoorB19
import Derived.Test.YtipdgobplfkipaaGreatDoorB08
set_option linter.all false
namespace Go.Proofs.YtipdgobplfkipaaGreatDoor
open Go.RowKit
set_option maxRecDepth 100000
attribute [local irreducible] Go.Code.wpIn Go.wpListIn Go.Calls Gives Go.Exit.then Go.Exit.inBlock Done ObxE

set_option maxHeartbeats 1000000 in
theorem idxN_any (p : ByteArray → Bool) (s : List ByteArray) (f : FuncId) (cap : List Value) (v : Value) {B : Bs} {L : List HP} (w : World) (hS : St B L w) (hv : SlT s v w) (hl : s.length ≤ 1000) (hf : callable Tryz.prog f = true)
    (hc : ∀ (x : ByteArray) (w' : World), x ∈ s → St B L w' → Calls Tryz.prog f (.string x :: cap).toArray w' (Ret fun v w'' => v = .bool (p x) ∧ St w' [] w'')) :
    Calls Tryz.prog 97 #[v, .func (.func f) #[] cap.toArray] w (Ret fun v w' => ∃ r : Int, v = .int .i64 r ∧ (r = -1 ∧ (∀ i (h : i < s.length), p s[i] = false) ∨ ∃ (k : Nat) (h : k < s.length), r = k ∧ (∀ i (h : i < s.length), i < k → p s[i] = false) ∧ p s[k] = true) ∧ St w [] w') := by
  have hS0 := hS
  clear hS
  refine enter Tryz.func97 rfl Tryz.ntmps97 rfl (fun a hk => ?_)
  have hS := St.refl w
  have hw0 : w = w := rfl
  (repeat' (first | (show wpListIn _ _ _ _ _ (_ :: _) _ _; first | (refine wx1 ?_; clear hk a; intro a hk) | (refine wx2 ?_ ?_ <;> (intro hp; clear hk a; intro a hk)) | (refine wx3 ?_; clear hk hS a; intro w b hS a hk) | (refine wx4 ?_; clear hk hS a; intro w hS a hk) | (refine wx5 ?_; clear hk hS a; intro w v hS a hk) | fail) | refine wx0 ?_ | (refine s_end hk ?_; clear hk a; intro a hk) | fail))
  replace hk := Kn.kp [0, 1, 7, 8] hk
  refine wp_for s.length (fun i _ => [(8, .int .i64 (i : Int))]) (fun _ _ => []) (fun i _ => ∀ j (h : j < s.length), j < i → p s[j] = false) () hk (by repeat (first | exact trivial | refine ⟨rfl, ?_⟩)) hS (fun j h hj => by omega) ?_
  clear hk hS a
  rintro i - a w1 hi hk hS hF
  by_cases hil : i < s.length
  · (repeat' (first | (show wpListIn _ _ _ _ _ (_ :: _) _ _; first | (refine wx1 ?_; clear hk a; intro a hk) | (refine wx2 ?_ ?_ <;> (intro hp; clear hk a; intro a hk)) | (refine wx3 ?_; clear hk hS a; intro w b hS a hk) | (refine wx4 ?_; clear hk hS a; intro w hS a hk) | (refine wx5 ?_; clear hk hS a; intro w v hS a hk) | fail) | refine wx0 ?_ | (refine s_end hk ?_; clear hk a; intro a hk) | fail))
    refine sg hk (g_callvO (first := []) (cap := cap) hk (hf := hf) (hc := hc _ _ (List.getElem_mem _) (hS0.call hS)) (h := ?_)); clear hk a; rintro _ w2 ⟨rfl, hS1⟩ a hk; replace hS := hS.call0 hS1; clear hS1
    cases hp : p s[i] with
    | true =>
      rw [hp] at hk
      (repeat' (first | (show wpListIn _ _ _ _ _ (_ :: _) _ _; first | (refine wx1 ?_; clear hk a; intro a hk) | (refine wx2 ?_ ?_ <;> (intro hp; clear hk a; intro a hk)) | (refine wx3 ?_; clear hk hS a; intro w b hS a hk) | (refine wx4 ?_; clear hk hS a; intro w hS a hk) | (refine wx5 ?_; clear hk hS a; intro w v hS a hk) | fail) | refine wx0 ?_ | (refine s_end hk ?_; clear hk a; intro a hk) | fail))
      exact done1 hk (h := ⟨i, rfl, .inr ⟨i, hil, rfl, hF, hp⟩, hS.nil⟩)
    | false =>
      rw [hp] at hk
      (repeat' (first | (show wpListIn _ _ _ _ _ (_ :: _) _ _; first | (refine wx1 ?_; clear hk a; intro a hk) | (refine wx2 ?_ ?_ <;> (intro hp; clear hk a; intro a hk)) | (refine wx3 ?_; clear hk hS a; intro w b hS a hk) | (refine wx4 ?_; clear hk hS a; intro w hS a hk) | (refine wx5 ?_; clear hk hS a; intro w v hS a hk) | fail) | refine wx0 ?_ | (refine s_end hk ?_; clear hk a; intro a hk) | fail))
      refine ⟨hil, (), hk.sd, hS, fun j h hj => ?_⟩
      by_cases e : j = i
      · subst e; exact hp
      · exact hF j h (by omega)
  · (repeat' (first | (show wpListIn _ _ _ _ _ (_ :: _) _ _; first | (refine wx1 ?_; clear hk a; intro a hk) | (refine wx2 ?_ ?_ <;> (intro hp; clear hk a; intro a hk)) | (refine wx3 ?_; clear hk hS a; intro w b hS a hk) | (refine wx4 ?_; clear hk hS a; intro w hS a hk) | (refine wx5 ?_; clear hk hS a; intro w v hS a hk) | fail) | refine wx0 ?_ | (refine s_end hk ?_; clear hk a; intro a hk) | fail))
    exact done1 hk (h := ⟨-1, rfl, .inl ⟨rfl, fun i h => hF i h (by omega)⟩, hS.nil⟩)


theorem anyN_any (p : ByteArray → Bool) (s : List ByteArray) (f : FuncId) (v : Value) (w0 : World) (hv : SlT s v w0) (hl : s.length ≤ 1000) (hf : callable Tryz.prog f = true)
    (hc : ∀ x ∈ s, ∀ w, Calls Tryz.prog f #[.string x] w (Ret fun v w' => v = .bool (p x) ∧ St w [] w')) :
    Calls Tryz.prog 69 #[v, .func (.func f) #[] #[]] w0 (Ret fun v w => v = .bool (s.any p) ∧ St w0 [] w) := by
  refine enter Tryz.func69 rfl Tryz.ntmps69 rfl (fun a hk => ?_); have hS := St.refl w0
  (repeat' (first | (show wpListIn _ _ _ _ _ (_ :: _) _ _; first | (refine wx1 ?_; clear hk a; intro a hk) | (refine wx2 ?_ ?_ <;> (intro hp; clear hk a; intro a hk)) | (refine wx3 ?_; clear hk hS a; intro w b hS a hk) | (refine wx4 ?_; clear hk hS a; intro w hS a hk) | (refine wx5 ?_; clear hk hS a; intro w v hS a hk) | fail) | refine wx0 ?_ | (refine s_end hk ?_; clear hk a; intro a hk) | fail))
  refine sg hk (g_callO hk (hf := by kernel_rfl) (hc := idxN_any p s f [] v _ (St.refl _) (hS.rdT hv) hl hf (fun x w' hx _ => hc x hx w')) (h := ?_)); clear hk a; rintro vr w ⟨r, rfl, hr, hS1⟩ a hk; replace hS := hS.call hS1; clear hS1
  rcases hr with ⟨rfl, hn⟩ | ⟨k, hk0, rfl, hn, hp⟩
  · have e : s.any p = false := by
      rw [List.any_eq_false]
      intro x hx
      obtain ⟨i, hi, rfl⟩ := List.getElem_of_mem hx
      rw [hn i hi]; decide
    rw [e]
    (repeat' (first | (show wpListIn _ _ _ _ _ (_ :: _) _ _; first | (refine wx1 ?_; clear hk a; intro a hk) | (refine wx2 ?_ ?_ <;> (intro hp; clear hk a; intro a hk)) | (refine wx3 ?_; clear hk hS a; intro w b hS a hk) | (refine wx4 ?_; clear hk hS a; intro w hS a hk) | (refine wx5 ?_; clear hk hS a; intro w v hS a hk) | fail) | refine wx0 ?_ | (refine s_end hk ?_; clear hk a; intro a hk) | fail))
    exact done1 hk (h := ⟨rfl, hS.nil⟩)
  · have e : s.any p = true := List.any_eq_true.2 ⟨s[k], List.getElem_mem _, hp⟩
    rw [e]
    (repeat' (first | (show wpListIn _ _ _ _ _ (_ :: _) _ _; first | (refine wx1 ?_; clear hk a; intro a hk) | (refine wx2 ?_ ?_ <;> (intro hp; clear hk a; intro a hk)) | (refine wx3 ?_; clear hk hS a; intro w b hS a hk) | (refine wx4 ?_; clear hk hS a; intro w hS a hk) | (refine wx5 ?_; clear hk hS a; intro w v hS a hk) | fail) | refine wx0 ?_ | (refine s_end hk ?_; clear hk a; intro a hk) | fail))
    exact done1 hk (h := ⟨rfl, hS.nil⟩)

theorem lasts_any (n : Int) (w0 : World) : Calls Tryz.prog 129 #[.int .i64 n] w0 (Ret fun v w => v = .bool (lasts n) ∧ St w0 [] w) := by
  refine enter Tryz.func129 rfl Tryz.ntmps129 rfl (fun a hk => ?_); have hS := St.refl w0
  by_cases h : 0 ≤ n ∧ n ≤ 1000
  · have hl : lasts n = true := by unfold lasts; exact decide_eq_true h
    obtain ⟨h1, h2⟩ := h
    rw [hl]
    (repeat' (first | (show wpListIn _ _ _ _ _ (_ :: _) _ _; first | (refine wx1 ?_; clear hk a; intro a hk) | (refine wx2 ?_ ?_ <;> (intro hp; clear hk a; intro a hk)) | (refine wx3 ?_; clear hk hS a; intro w b hS a hk) | (refine wx4 ?_; clear hk hS a; intro w hS a hk) | (refine wx5 ?_; clear hk hS a; intro w v hS a hk) | fail) | refine wx0 ?_ | (refine s_end hk ?_; clear hk a; intro a hk) | fail))
    exact done1 hk (h := ⟨rfl, hS.nil⟩)
  · have hl : lasts n = false := by unfold lasts; exact decide_eq_false h
    rw [hl]
    (repeat' (first | (show wpListIn _ _ _ _ _ (_ :: _) _ _; first | (refine wx1 ?_; clear hk a; intro a hk) | (refine wx2 ?_ ?_ <;> (intro hp; clear hk a; intro a hk)) | (refine wx3 ?_; clear hk hS a; intro w b hS a hk) | (refine wx4 ?_; clear hk hS a; intro w hS a hk) | (refine wx5 ?_; clear hk hS a; intro w v hS a hk) | fail) | refine wx0 ?_ | (refine s_end hk ?_; clear hk a; intro a hk) | fail))
    all_goals first | exact done1 hk (h := ⟨rfl, hS.nil⟩) | (exfalso; omega)

set_option maxHeartbeats 4000000 in
theorem optsMay_any (e lv m d : Int) (p q : Bool) (k : Int) (w0 : World) : Calls Tryz.prog 95 #[.agg #[.int .i64 e, .int .i64 lv, .int .i64 m, .int .i64 d, .bool p, .bool q], .int .i64 k] w0 (Ret fun v w => v = .bool (optsB (e, lv, m, d, p, q) k) ∧ St w0 [] w) := by
  have h1 := fun w0 => lasts_any e w0
  have h2 := fun w0 => lasts_any lv w0
  have h3 := fun w0 => lasts_any m w0
  unfold optsB
  simp only
  generalize lasts e = b1 at *
  generalize lasts lv = b2 at *
  generalize lasts m = b3 at *
  refine enter Tryz.func95 rfl Tryz.ntmps95 rfl (fun a hk => ?_); have hS := St.refl w0
  by_cases hk3 : k = 3
  · rw [if_pos hk3]
    (repeat' (first | (show wpListIn _ _ _ _ _ (_ :: _) _ _; first | (refine wx1 ?_; clear hk a; intro a hk) | (refine wx2 ?_ ?_ <;> (intro hp; clear hk a; intro a hk)) | (refine wx3 ?_; clear hk hS a; intro w b hS a hk) | (refine wx4 ?_; clear hk hS a; intro w hS a hk) | (refine wx5 ?_; clear hk hS a; intro w v hS a hk) | fail) | refine wx0 ?_ | (refine s_end hk ?_; clear hk a; intro a hk) | fail))
    refine sg hk (g_callO hk (hf := by kernel_rfl) (hc := h1 _) (h := ?_)); clear hk a; rintro _ w ⟨rfl, hS1⟩ a hk; replace hS := hS.call0 hS1; clear hS1
    cases b1 with
    | false => (repeat' (first | (show wpListIn _ _ _ _ _ (_ :: _) _ _; first | (refine wx1 ?_; clear hk a; intro a hk) | (refine wx2 ?_ ?_ <;> (intro hp; clear hk a; intro a hk)) | (refine wx3 ?_; clear hk hS a; intro w b hS a hk) | (refine wx4 ?_; clear hk hS a; intro w hS a hk) | (refine wx5 ?_; clear hk hS a; intro w v hS a hk) | fail) | refine wx0 ?_ | (refine s_end hk ?_; clear hk a; intro a hk) | fail)); exact done1 hk (h := ⟨rfl, hS.nil⟩)
    | true =>
      (repeat' (first | (show wpListIn _ _ _ _ _ (_ :: _) _ _; first | (refine wx1 ?_; clear hk a; intro a hk) | (refine wx2 ?_ ?_ <;> (intro hp; clear hk a; intro a hk)) | (refine wx3 ?_; clear hk hS a; intro w b hS a hk) | (refine wx4 ?_; clear hk hS a; intro w hS a hk) | (refine wx5 ?_; clear hk hS a; intro w v hS a hk) | fail) | refine wx0 ?_ | (refine s_end hk ?_; clear hk a; intro a hk) | fail))
      refine sg hk (g_callO hk (hf := by kernel_rfl) (hc := h2 _) (h := ?_)); clear hk a; rintro _ w ⟨rfl, hS1⟩ a hk; replace hS := hS.call0 hS1; clear hS1
      cases b2 with
      | false => (repeat' (first | (show wpListIn _ _ _ _ _ (_ :: _) _ _; first | (refine wx1 ?_; clear hk a; intro a hk) | (refine wx2 ?_ ?_ <;> (intro hp; clear hk a; intro a hk)) | (refine wx3 ?_; clear hk hS a; intro w b hS a hk) | (refine wx4 ?_; clear hk hS a; intro w hS a hk) | (refine wx5 ?_; clear hk hS a; intro w v hS a hk) | fail) | refine wx0 ?_ | (refine s_end hk ?_; clear hk a; intro a hk) | fail)); exact done1 hk (h := ⟨rfl, hS.nil⟩)
      | true =>
        (repeat' (first | (show wpListIn _ _ _ _ _ (_ :: _) _ _; first | (refine wx1 ?_; clear hk a; intro a hk) | (refine wx2 ?_ ?_ <;> (intro hp; clear hk a; intro a hk)) | (refine wx3 ?_; clear hk hS a; intro w b hS a hk) | (refine wx4 ?_; clear hk hS a; intro w hS a hk) | (refine wx5 ?_; clear hk hS a; intro w v hS a hk) | fail) | refine wx0 ?_ | (refine s_end hk ?_; clear hk a; intro a hk) | fail))
        refine sg hk (g_callO hk (hf := by kernel_rfl) (hc := h3 _) (h := ?_)); clear hk a; rintro _ w ⟨rfl, hS1⟩ a hk; replace hS := hS.call0 hS1; clear hS1
        cases b3 with
        | false => (repeat' (first | (show wpListIn _ _ _ _ _ (_ :: _) _ _; first | (refine wx1 ?_; clear hk a; intro a hk) | (refine wx2 ?_ ?_ <;> (intro hp; clear hk a; intro a hk)) | (refine wx3 ?_; clear hk hS a; intro w b hS a hk) | (refine wx4 ?_; clear hk hS a; intro w hS a hk) | (refine wx5 ?_; clear hk hS a; intro w v hS a hk) | fail) | refine wx0 ?_ | (refine s_end hk ?_; clear hk a; intro a hk) | fail)); exact done1 hk (h := ⟨rfl, hS.nil⟩)
        | true =>
          (repeat' (first | (show wpListIn _ _ _ _ _ (_ :: _) _ _; first | (refine wx1 ?_; clear hk a; intro a hk) | (refine wx2 ?_ ?_ <;> (intro hp; clear hk a; intro a hk)) | (refine wx3 ?_; clear hk hS a; intro w b hS a hk) | (refine wx4 ?_; clear hk hS a; intro w hS a hk) | (refine wx5 ?_; clear hk hS a; intro w v hS a hk) | fail) | refine wx0 ?_ | (refine s_end hk ?_; clear hk a; intro a hk) | fail))
          · exact done1 hk (h := ⟨by have e0 : d = 0 := by assumption
                                     simp [e0], hS.nil⟩)
          · exact done1 hk (h := ⟨by have e0 : ¬ d = 0 := by assumption
                                     simp [e0], hS.nil⟩)
  · rw [if_neg hk3]
    by_cases hk4 : k = 4
    · rw [if_pos hk4]
      (repeat' (first | (show wpListIn _ _ _ _ _ (_ :: _) _ _; first | (refine wx1 ?_; clear hk a; intro a hk) | (refine wx2 ?_ ?_ <;> (intro hp; clear hk a; intro a hk)) | (refine wx3 ?_; clear hk hS a; intro w b hS a hk) | (refine wx4 ?_; clear hk hS a; intro w hS a hk) | (refine wx5 ?_; clear hk hS a; intro w v hS a hk) | fail) | refine wx0 ?_ | (refine s_end hk ?_; clear hk a; intro a hk) | fail))
      refine sg hk (g_callO hk (hf := by kernel_rfl) (hc := h1 _) (h := ?_)); clear hk a; rintro _ w ⟨rfl, hS1⟩ a hk; replace hS := hS.call0 hS1; clear hS1
      cases b1 with
      | false => (repeat' (first | (show wpListIn _ _ _ _ _ (_ :: _) _ _; first | (refine wx1 ?_; clear hk a; intro a hk) | (refine wx2 ?_ ?_ <;> (intro hp; clear hk a; intro a hk)) | (refine wx3 ?_; clear hk hS a; intro w b hS a hk) | (refine wx4 ?_; clear hk hS a; intro w hS a hk) | (refine wx5 ?_; clear hk hS a; intro w v hS a hk) | fail) | refine wx0 ?_ | (refine s_end hk ?_; clear hk a; intro a hk) | fail)); exact done1 hk (h := ⟨rfl, hS.nil⟩)
      | true =>
        (repeat' (first | (show wpListIn _ _ _ _ _ (_ :: _) _ _; first | (refine wx1 ?_; clear hk a; intro a hk) | (refine wx2 ?_ ?_ <;> (intro hp; clear hk a; intro a hk)) | (refine wx3 ?_; clear hk hS a; intro w b hS a hk) | (refine wx4 ?_; clear hk hS a; intro w hS a hk) | (refine wx5 ?_; clear hk hS a; intro w v hS a hk) | fail) | refine wx0 ?_ | (refine s_end hk ?_; clear hk a; intro a hk) | fail))
        refine sg hk (g_callO hk (hf := by kernel_rfl) (hc := h2 _) (h := ?_)); clear hk a; rintro _ w ⟨rfl, hS1⟩ a hk; replace hS := hS.call0 hS1; clear hS1
        cases b2 with
        | false => (repeat' (first | (show wpListIn _ _ _ _ _ (_ :: _) _ _; first | (refine wx1 ?_; clear hk a; intro a hk) | (refine wx2 ?_ ?_ <;> (intro hp; clear hk a; intro a hk)) | (refine wx3 ?_; clear hk hS a; intro w b hS a hk) | (refine wx4 ?_; clear hk hS a; intro w hS a hk) | (refine wx5 ?_; clear hk hS a; intro w v hS a hk) | fail) | refine wx0 ?_ | (refine s_end hk ?_; clear hk a; intro a hk) | fail)); exact done1 hk (h := ⟨rfl, hS.nil⟩)
        | true =>
          by_cases hm : m = 0
          · cases q with
            | true => (repeat' (first | (show wpListIn _ _ _ _ _ (_ :: _) _ _; first | (refine wx1 ?_; clear hk a; intro a hk) | (refine wx2 ?_ ?_ <;> (intro hp; clear hk a; intro a hk)) | (refine wx3 ?_; clear hk hS a; intro w b hS a hk) | (refine wx4 ?_; clear hk hS a; intro w hS a hk) | (refine wx5 ?_; clear hk hS a; intro w v hS a hk) | fail) | refine wx0 ?_ | (refine s_end hk ?_; clear hk a; intro a hk) | fail)); exact done1 hk (h := ⟨by simp, hS.nil⟩)
            | false =>
              by_cases hd : 0 ≤ d
              · by_cases hd2 : d ≤ 2
                · (repeat' (first | (show wpListIn _ _ _ _ _ (_ :: _) _ _; first | (refine wx1 ?_; clear hk a; intro a hk) | (refine wx2 ?_ ?_ <;> (intro hp; clear hk a; intro a hk)) | (refine wx3 ?_; clear hk hS a; intro w b hS a hk) | (refine wx4 ?_; clear hk hS a; intro w hS a hk) | (refine wx5 ?_; clear hk hS a; intro w v hS a hk) | fail) | refine wx0 ?_ | (refine s_end hk ?_; clear hk a; intro a hk) | fail))
                  exact done1 hk (h := ⟨by simp [hm, hd, hd2], hS.nil⟩)
                · (repeat' (first | (show wpListIn _ _ _ _ _ (_ :: _) _ _; first | (refine wx1 ?_; clear hk a; intro a hk) | (refine wx2 ?_ ?_ <;> (intro hp; clear hk a; intro a hk)) | (refine wx3 ?_; clear hk hS a; intro w b hS a hk) | (refine wx4 ?_; clear hk hS a; intro w hS a hk) | (refine wx5 ?_; clear hk hS a; intro w v hS a hk) | fail) | refine wx0 ?_ | (refine s_end hk ?_; clear hk a; intro a hk) | fail))
                  exact done1 hk (h := ⟨by simp [hd2], hS.nil⟩)
              · (repeat' (first | (show wpListIn _ _ _ _ _ (_ :: _) _ _; first | (refine wx1 ?_; clear hk a; intro a hk) | (refine wx2 ?_ ?_ <;> (intro hp; clear hk a; intro a hk)) | (refine wx3 ?_; clear hk hS a; intro w b hS a hk) | (refine wx4 ?_; clear hk hS a; intro w hS a hk) | (refine wx5 ?_; clear hk hS a; intro w v hS a hk) | fail) | refine wx0 ?_ | (refine s_end hk ?_; clear hk a; intro a hk) | fail))
                exact done1 hk (h := ⟨by simp [hd], hS.nil⟩)
          · (repeat' (first | (show wpListIn _ _ _ _ _ (_ :: _) _ _; first | (refine wx1 ?_; clear hk a; intro a hk) | (refine wx2 ?_ ?_ <;> (intro hp; clear hk a; intro a hk)) | (refine wx3 ?_; clear hk hS a; intro w b hS a hk) | (refine wx4 ?_; clear hk hS a; intro w hS a hk) | (refine wx5 ?_; clear hk hS a; intro w v hS a hk) | fail) | refine wx0 ?_ | (refine s_end hk ?_; clear hk a; intro a hk) | fail))
            exact done1 hk (h := ⟨by simp [hm], hS.nil⟩)
    · rw [if_neg hk4]
      (repeat' (first | (show wpListIn _ _ _ _ _ (_ :: _) _ _; first | (refine wx1 ?_; clear hk a; intro a hk) | (refine wx2 ?_ ?_ <;> (intro hp; clear hk a; intro a hk)) | (refine wx3 ?_; clear hk hS a; intro w b hS a hk) | (refine wx4 ?_; clear hk hS a; intro w hS a hk) | (refine wx5 ?_; clear hk hS a; intro w v hS a hk) | fail) | refine wx0 ?_ | (refine s_end hk ?_; clear hk a; intro a hk) | fail))
      · exact done1 hk (h := ⟨by have e0 := eqC_enc (α := Opt) (x := (e, lv, m, d, p, q)) (y := (0, 0, 0, 0, false, false)) (b := true) (by assumption)
                                 rw [if_pos rfl] at e0
                                 rw [decide_eq_true e0], hS.nil⟩)
      · exact done1 hk (h := ⟨by have e0 := eqC_enc (α := Opt) (x := (e, lv, m, d, p, q)) (y := (0, 0, 0, 0, false, false)) (b := false) (by assumption)
                                 rw [if_neg (by decide)] at e0
                                 rw [decide_eq_false e0], hS.nil⟩)
end Go.Proofs.YtipdgobplfkipaaGreatDoor
namespace Go.Proofs.YtipdgobplfkipaaGreatDoor
open Go.RowKit
set_option maxRecDepth 100000
attribute [local irreducible] Go.Code.wpIn Go.wpListIn Go.Calls Gives Go.Exit.then Go.Exit.inBlock Done ObxE

set_option maxHeartbeats 4000000 in
theorem names7_any (k : Int) (tag key text : ByteArray) (cl : List ByteArray) (al : List PrS) (sl : List PrI) (e lv m d : Int) (p q : Bool) (kids : List Tree) (a1 a2 a3 a4 : Option Addr) (m1 m2 m3 m4 : Nat) (H : List NdH) (w0 : World) (c1 : SlT cl (.slice a1 cl.length m1) w0) (c2 : SlT al (.slice a2 al.length m2) w0) (c3 : SlT sl (.slice a3 sl.length m3) w0) (c4 : SlT H (.slice a4 H.length m4) w0) (hF : FoR w0 kids H) (l1 : cl.length ≤ 100) (l2 : al.length ≤ 100) (l3 : sl.length ≤ 100) (l4 : kids.length ≤ 1000) :
    Calls Tryz.prog 70 #[.agg #[.int .i64 k, .string tag, .string key, .string text, .slice a1 cl.length m1, .slice a2 al.length m2, .slice a3 sl.length m3, .int .i64 e, .int .i64 lv, .int .i64 m, .int .i64 d, .bool p, .bool q, .slice a4 H.length m4]] w0 (Ret fun v w => St w0 [OwT 9 (namesL cl al sl) v] w) := by
  refine enter Tryz.func70 rfl Tryz.ntmps70 rfl (fun a hk => ?_); have hS := St.refl w0
  (repeat' (first | (show wpListIn _ _ _ _ _ (_ :: _) _ _; first | (refine wx1 ?_; clear hk a; intro a hk) | (refine wx2 ?_ ?_ <;> (intro hp; clear hk a; intro a hk)) | (refine wx3 ?_; clear hk hS a; intro w b hS a hk) | (refine wx4 ?_; clear hk hS a; intro w hS a hk) | (refine wx5 ?_; clear hk hS a; intro w v hS a hk) | fail) | refine wx0 ?_ | (refine s_end hk ?_; clear hk a; intro a hk) | fail))
  rename Nat => b1
  refine sg hk (g_callO hk (hf := by kernel_rfl) (hc := cloneS_any cl _ _ (hS.rdT c1) (by omega)) (h := ?_)); clear hk a; rintro vn w hS1 a hk; replace hS := hS.call hS1; clear hS1
  rw [List.cons_append, List.nil_append] at hS
  have hv2 := hS.rdT c2
  (repeat' (first | (show wpListIn _ _ _ _ _ (_ :: _) _ _; first | (refine wx1 ?_; clear hk a; intro a hk) | (refine wx2 ?_ ?_ <;> (intro hp; clear hk a; intro a hk)) | (refine wx3 ?_; clear hk hS a; intro w b hS a hk) | (refine wx4 ?_; clear hk hS a; intro w hS a hk) | (refine wx5 ?_; clear hk hS a; intro w v hS a hk) | fail) | refine wx0 ?_ | (refine s_end hk ?_; clear hk a; intro a hk) | fail))
  replace hS : St w0 [OwT 9 (cl ++ (al.take 0).map (·.1)) vn, pts b1 [.int .i64 k, .string tag, .string key, .string text, .slice a1 cl.length m1, .slice a2 al.length m2, .slice a3 sl.length m3, .int .i64 e, .int .i64 lv, .int .i64 m, .int .i64 d, .bool p, .bool q, .slice a4 H.length m4] 33] w := by
    rw [show cl ++ (al.take 0).map (·.1) = cl by simp]
    exact hS.sb
  replace hk := Kn.kp [1, 3, 12, 13, 14] hk
  refine wp_for al.length (fun i v => [(3, v), (14, .int .i64 (i : Int))]) (fun i v => [OwT 9 (cl ++ (al.take i).map (·.1)) v, pts b1 [.int .i64 k, .string tag, .string key, .string text, .slice a1 cl.length m1, .slice a2 al.length m2, .slice a3 sl.length m3, .int .i64 e, .int .i64 lv, .int .i64 m, .int .i64 d, .bool p, .bool q, .slice a4 H.length m4] 33]) (fun _ _ => True) vn hk (by repeat (first | exact trivial | refine ⟨rfl, ?_⟩)) hS trivial ?_
  clear hk hS a hv2
  rintro i vo a w hi hk hS -
  have hv2 := hS.rdT c2
  have hml : (cl ++ (al.take i).map (·.1)).length ≤ 200 := by rw [List.length_append, List.length_map, List.length_take]; omega
  by_cases hil : i < al.length
  · obtain ⟨⟨nm, val⟩, hx⟩ : ∃ x, al[i]? = some x := ⟨_, List.getElem?_eq_getElem hil⟩
    have hst : cl ++ (al.take (i + 1)).map (·.1) = cl ++ (al.take i).map (·.1) ++ [nm] := by rw [take_snoc hx, List.map_append, List.map_singleton, List.append_assoc]
    (repeat' (first | (show wpListIn _ _ _ _ _ (_ :: _) _ _; first | (refine wx1 ?_; clear hk a; intro a hk) | (refine wx2 ?_ ?_ <;> (intro hp; clear hk a; intro a hk)) | (refine wx3 ?_; clear hk hS a; intro w b hS a hk) | (refine wx4 ?_; clear hk hS a; intro w hS a hk) | (refine wx5 ?_; clear hk hS a; intro w v hS a hk) | fail) | refine wx0 ?_ | (refine s_end hk ?_; clear hk a; intro a hk) | fail))
    rw [← hst] at hS
    exact ⟨hil, _, hk.sd, hS.sb, trivial⟩
  · have : i = al.length := by omega
    subst this
    rw [List.take_length] at hS hml
    have hv3 := hS.rdT c3
    (repeat' (first | (show wpListIn _ _ _ _ _ (_ :: _) _ _; first | (refine wx1 ?_; clear hk a; intro a hk) | (refine wx2 ?_ ?_ <;> (intro hp; clear hk a; intro a hk)) | (refine wx3 ?_; clear hk hS a; intro w b hS a hk) | (refine wx4 ?_; clear hk hS a; intro w hS a hk) | (refine wx5 ?_; clear hk hS a; intro w v hS a hk) | fail) | refine wx0 ?_ | (refine s_end hk ?_; clear hk a; intro a hk) | fail))
    replace hS : St w0 [OwT 9 (cl ++ al.map (·.1) ++ (sl.take 0).map (·.1)) vo] w := by
      rw [show cl ++ al.map (·.1) ++ (sl.take 0).map (·.1) = cl ++ al.map (·.1) by simp]
      exact hS.sb
    replace hk := Kn.kp [3, 25, 26, 27] hk
    refine wp_for sl.length (fun i v => [(3, v), (27, .int .i64 (i : Int))]) (fun i v => [OwT 9 (cl ++ al.map (·.1) ++ (sl.take i).map (·.1)) v]) (fun _ _ => True) vo hk (by repeat (first | exact trivial | refine ⟨rfl, ?_⟩)) hS trivial ?_
    clear hk hS a hv3
    rintro i vp a w hi hk hS -
    have hv3 := hS.rdT c3
    have hml2 : (cl ++ al.map (·.1) ++ (sl.take i).map (·.1)).length ≤ 300 := by rw [List.length_append, List.length_map, List.length_take]; omega
    by_cases hil : i < sl.length
    · obtain ⟨⟨nm, val⟩, hx⟩ : ∃ x, sl[i]? = some x := ⟨_, List.getElem?_eq_getElem hil⟩
      have hst : cl ++ al.map (·.1) ++ (sl.take (i + 1)).map (·.1) = cl ++ al.map (·.1) ++ (sl.take i).map (·.1) ++ [nm] := by rw [take_snoc hx, List.map_append, List.map_singleton, List.append_assoc (cl ++ al.map (·.1))]
      (repeat' (first | (show wpListIn _ _ _ _ _ (_ :: _) _ _; first | (refine wx1 ?_; clear hk a; intro a hk) | (refine wx2 ?_ ?_ <;> (intro hp; clear hk a; intro a hk)) | (refine wx3 ?_; clear hk hS a; intro w b hS a hk) | (refine wx4 ?_; clear hk hS a; intro w hS a hk) | (refine wx5 ?_; clear hk hS a; intro w v hS a hk) | fail) | refine wx0 ?_ | (refine s_end hk ?_; clear hk a; intro a hk) | fail))
      rw [← hst] at hS
      exact ⟨hil, _, hk.sd, hS.sb, trivial⟩
    · have : i = sl.length := by omega
      subst this
      rw [List.take_length] at hS
      (repeat' (first | (show wpListIn _ _ _ _ _ (_ :: _) _ _; first | (refine wx1 ?_; clear hk a; intro a hk) | (refine wx2 ?_ ?_ <;> (intro hp; clear hk a; intro a hk)) | (refine wx3 ?_; clear hk hS a; intro w b hS a hk) | (refine wx4 ?_; clear hk hS a; intro w hS a hk) | (refine wx5 ?_; clear hk hS a; intro w v hS a hk) | fail) | refine wx0 ?_ | (refine s_end hk ?_; clear hk a; intro a hk) | fail))
      exact done1 hk (h := hS.sb)
theorem names_len {cl : List ByteArray} {al : List PrS} {sl : List PrI} (l1 : cl.length ≤ 100) (l2 : al.length ≤ 100) (l3 : sl.length ≤ 100) : (namesL cl al sl).length ≤ 300 := by
  unfold namesL; rw [List.length_append, List.length_append, List.length_map, List.length_map]; omega

theorem all_takeP {α : Type} {l : List α} {i : Nat} {x : α} (h : l[i]? = some x) (p : α → Bool) : (l.take (i + 1)).all p = ((l.take i).all p && p x) := by rw [take_snoc h]; simp
theorem all_falseP {α : Type} {l : List α} {i : Nat} {x : α} (h : l[i]? = some x) {p : α → Bool} (hp : p x = false) : l.all p = false := by
  rw [List.all_eq_false]; exact ⟨x, List.mem_of_getElem? h, by rw [hp]; decide⟩
theorem sat_any (x : Int) (w0 : World) : Calls Tryz.prog 128 #[.int .i64 x] w0 (Ret fun v w => v = .int .i64 (max (-2147483648) (min x 2147483647)) ∧ St w0 [] w) := by
  refine enter Tryz.func128 rfl Tryz.ntmps128 rfl (fun a hk => ?_); have hS := St.refl w0
  (repeat' (first | (show wpListIn _ _ _ _ _ (_ :: _) _ _; first | (refine wx1 ?_; clear hk a; intro a hk) | (refine wx2 ?_ ?_ <;> (intro hp; clear hk a; intro a hk)) | (refine wx3 ?_; clear hk hS a; intro w b hS a hk) | (refine wx4 ?_; clear hk hS a; intro w hS a hk) | (refine wx5 ?_; clear hk hS a; intro w v hS a hk) | fail) | refine wx0 ?_ | (refine s_end hk ?_; clear hk a; intro a hk) | fail))
  exact done1 hk (h := ⟨rfl, hS.nil⟩)

set_option maxHeartbeats 4000000 in
theorem valued_any (k : Int) (tag key text : ByteArray) (cl : List ByteArray) (al : List PrS) (sl : List PrI) (e lv m d : Int) (p q : Bool) (kids : List Tree) (a1 a2 a3 a4 : Option Addr) (m1 m2 m3 m4 : Nat) (H : List NdH) (w0 : World) (c1 : SlT cl (.slice a1 cl.length m1) w0) (c2 : SlT al (.slice a2 al.length m2) w0) (c3 : SlT sl (.slice a3 sl.length m3) w0) (c4 : SlT H (.slice a4 H.length m4) w0) (hF : FoR w0 kids H) (l1 : cl.length ≤ 100) (l2 : al.length ≤ 100) (l3 : sl.length ≤ 100) (l4 : kids.length ≤ 1000) (hz : ∀ x ∈ al, x.2.size ≤ 1000000) :
    Calls Tryz.prog 94 #[.agg #[.int .i64 k, .string tag, .string key, .string text, .slice a1 cl.length m1, .slice a2 al.length m2, .slice a3 sl.length m3, .int .i64 e, .int .i64 lv, .int .i64 m, .int .i64 d, .bool p, .bool q, .slice a4 H.length m4]] w0 (Ret fun v w => v = .bool (valB al sl) ∧ St w0 [] w) := by
  refine enter Tryz.func94 rfl Tryz.ntmps94 rfl (fun a hk => ?_); have hS := St.refl w0
  have hv2 := hS.rdT c2
  (repeat' (first | (show wpListIn _ _ _ _ _ (_ :: _) _ _; first | (refine wx1 ?_; clear hk a; intro a hk) | (refine wx2 ?_ ?_ <;> (intro hp; clear hk a; intro a hk)) | (refine wx3 ?_; clear hk hS a; intro w b hS a hk) | (refine wx4 ?_; clear hk hS a; intro w hS a hk) | (refine wx5 ?_; clear hk hS a; intro w v hS a hk) | fail) | refine wx0 ?_ | (refine s_end hk ?_; clear hk a; intro a hk) | fail))
  rename Nat => b1
  replace hk := Kn.kp [1, 8, 9, 10] hk
  refine wp_for al.length (fun i _ => [(10, .int .i64 (i : Int))]) (fun i _ => [pts b1 [.int .i64 k, .string tag, .string key, .string text, .slice a1 cl.length m1, .slice a2 al.length m2, .slice a3 sl.length m3, .int .i64 e, .int .i64 lv, .int .i64 m, .int .i64 d, .bool p, .bool q, .slice a4 H.length m4] 33]) (fun i _ => (al.take i).all (fun x => valS x.2) = true) () hk (by repeat (first | exact trivial | refine ⟨rfl, ?_⟩)) hS.sb rfl ?_
  clear hk hS a hv2
  rintro i - a w hi hk hS hA
  have hv2 := hS.rdT c2
  by_cases hil : i < al.length
  · obtain ⟨⟨nm, val⟩, hx⟩ : ∃ x, al[i]? = some x := ⟨_, List.getElem?_eq_getElem hil⟩
    have hsz := hz _ (List.mem_of_getElem? hx)
    have hst := all_takeP hx (fun x : PrS => valS x.2)
    (repeat' (first | (show wpListIn _ _ _ _ _ (_ :: _) _ _; first | (refine wx1 ?_; clear hk a; intro a hk) | (refine wx2 ?_ ?_ <;> (intro hp; clear hk a; intro a hk)) | (refine wx3 ?_; clear hk hS a; intro w b hS a hk) | (refine wx4 ?_; clear hk hS a; intro w hS a hk) | (refine wx5 ?_; clear hk hS a; intro w v hS a hk) | fail) | refine wx0 ?_ | (refine s_end hk ?_; clear hk a; intro a hk) | fail))
    refine sg hk (g_callO hk (hf := by kernel_rfl) (hc := value_any val hsz _) (h := ?_)); clear hk a; rintro _ w ⟨rfl, hS1⟩ a hk; replace hS := hS.call0 hS1; clear hS1
    cases hb : valS val with
    | true =>
      rw [hb] at hk
      (repeat' (first | (show wpListIn _ _ _ _ _ (_ :: _) _ _; first | (refine wx1 ?_; clear hk a; intro a hk) | (refine wx2 ?_ ?_ <;> (intro hp; clear hk a; intro a hk)) | (refine wx3 ?_; clear hk hS a; intro w b hS a hk) | (refine wx4 ?_; clear hk hS a; intro w hS a hk) | (refine wx5 ?_; clear hk hS a; intro w v hS a hk) | fail) | refine wx0 ?_ | (refine s_end hk ?_; clear hk a; intro a hk) | fail))
      exact ⟨hil, (), hk.sd, hS.sb, by rw [hst, hA]; exact hb⟩
    | false =>
      rw [hb] at hk
      (repeat' (first | (show wpListIn _ _ _ _ _ (_ :: _) _ _; first | (refine wx1 ?_; clear hk a; intro a hk) | (refine wx2 ?_ ?_ <;> (intro hp; clear hk a; intro a hk)) | (refine wx3 ?_; clear hk hS a; intro w b hS a hk) | (refine wx4 ?_; clear hk hS a; intro w hS a hk) | (refine wx5 ?_; clear hk hS a; intro w v hS a hk) | fail) | refine wx0 ?_ | (refine s_end hk ?_; clear hk a; intro a hk) | fail))
      exact done1 hk (h := ⟨by rw [valB, all_falseP hx (p := fun x : PrS => valS x.2) hb]; rfl, hS.nil⟩)
  · have : i = al.length := by omega
    subst this
    rw [List.take_length] at hA
    have hv3 := hS.rdT c3
    (repeat' (first | (show wpListIn _ _ _ _ _ (_ :: _) _ _; first | (refine wx1 ?_; clear hk a; intro a hk) | (refine wx2 ?_ ?_ <;> (intro hp; clear hk a; intro a hk)) | (refine wx3 ?_; clear hk hS a; intro w b hS a hk) | (refine wx4 ?_; clear hk hS a; intro w hS a hk) | (refine wx5 ?_; clear hk hS a; intro w v hS a hk) | fail) | refine wx0 ?_ | (refine s_end hk ?_; clear hk a; intro a hk) | fail))
    replace hk := Kn.kp [20, 21, 22] hk
    refine wp_for sl.length (fun i _ => [(22, .int .i64 (i : Int))]) (fun i _ => []) (fun i _ => (sl.take i).all (fun x => decide (-2147483648 ≤ x.2 ∧ x.2 ≤ 2147483647)) = true) () hk (by repeat (first | exact trivial | refine ⟨rfl, ?_⟩)) hS.sb rfl ?_
    clear hk hS a hv3
    rintro i - a w hi hk hS hB
    have hv3 := hS.rdT c3
    by_cases hil : i < sl.length
    · obtain ⟨⟨nm, val⟩, hx⟩ : ∃ x, sl[i]? = some x := ⟨_, List.getElem?_eq_getElem hil⟩
      have hst := all_takeP hx (fun x : PrI => decide (-2147483648 ≤ x.2 ∧ x.2 ≤ 2147483647))
      (repeat' (first | (show wpListIn _ _ _ _ _ (_ :: _) _ _; first | (refine wx1 ?_; clear hk a; intro a hk) | (refine wx2 ?_ ?_ <;> (intro hp; clear hk a; intro a hk)) | (refine wx3 ?_; clear hk hS a; intro w b hS a hk) | (refine wx4 ?_; clear hk hS a; intro w hS a hk) | (refine wx5 ?_; clear hk hS a; intro w v hS a hk) | fail) | refine wx0 ?_ | (refine s_end hk ?_; clear hk a; intro a hk) | fail))
      refine wp_drawn 5 mixed (by kernel_rfl) hk hS ?_; clear hk hS a
      (repeat' (first | (show ObxE _ _ _ _ _ _ _ _ _ (_ :: _) _ _ _; first | refine ox1 ?_ | (refine ox2 ?_ ?_ <;> intro hp) | fail) | fail))
      refine' obe_val (fun us a w hk hd hS => ?_) ?_; rotate_left; focus (have hk := Kn.vw hk (by repeat (first | exact VW.nil | apply VW.val rfl | apply VW.base rfl rfl | apply VW.res rfl | apply VW.upd rfl | apply VW.cpy rfl | apply VW.dep rfl | apply VW.fn rfl | apply VW.lnd rfl | apply VW.tak rfl)); exact g_callO hk (hf := by kernel_rfl) (hc := sat_any val _) (h := fun _ _ h => h))
      (repeat' (first | (show ObxE _ _ _ _ _ _ _ _ _ (_ :: _) _ _ _; first | refine ox1 ?_ | (refine ox2 ?_ ?_ <;> intro hp) | fail) | fail))
      refine obe_nil ⟨rfl, ?_⟩; intro us a w hk hS
      (repeat' (first | (show wpListIn _ _ _ _ _ (_ :: _) _ _; first | (refine wx1 ?_; clear hk a; intro a hk) | (refine wx2 ?_ ?_ <;> (intro hp; clear hk a; intro a hk)) | (refine wx3 ?_; clear hk hS a; intro w b hS a hk) | (refine wx4 ?_; clear hk hS a; intro w hS a hk) | (refine wx5 ?_; clear hk hS a; intro w v hS a hk) | fail) | refine wx0 ?_ | (refine s_end hk ?_; clear hk a; intro a hk) | fail))
      · have hb : -2147483648 ≤ val ∧ val ≤ 2147483647 := by
          have : max (-2147483648) (min val 2147483647) = val := by assumption
          omega
        exact ⟨hil, (), hk.sd, hS.sb, by rw [hst, hB, Bool.true_and]; exact decide_eq_true hb⟩
      · have hb : ¬ (-2147483648 ≤ val ∧ val ≤ 2147483647) := by
          have : ¬ max (-2147483648) (min val 2147483647) = val := by assumption
          omega
        exact done1 hk (h := ⟨by rw [valB, all_falseP hx (p := fun x : PrI => decide (-2147483648 ≤ x.2 ∧ x.2 ≤ 2147483647)) (decide_eq_false hb), Bool.and_false], hS.nil⟩)
    · have : i = sl.length := by omega
      subst this
      rw [List.take_length] at hB
      (repeat' (first | (show wpListIn _ _ _ _ _ (_ :: _) _ _; first | (refine wx1 ?_; clear hk a; intro a hk) | (refine wx2 ?_ ?_ <;> (intro hp; clear hk a; intro a hk)) | (refine wx3 ?_; clear hk hS a; intro w b hS a hk) | (refine wx4 ?_; clear hk hS a; intro w hS a hk) | (refine wx5 ?_; clear hk hS a; intro w v hS a hk) | fail) | refine wx0 ?_ | (refine s_end hk ?_; clear hk a; intro a hk) | fail))
      exact done1 hk (h := ⟨by rw [valB, hA, hB]; rfl, hS.nil⟩)

set_option maxHeartbeats 4000000 in
theorem kept_any (k : Int) (tag key text : ByteArray) (cl : List ByteArray) (al : List PrS) (sl : List PrI) (e lv m d : Int) (p q : Bool) (kids : List Tree) (a1 a2 a3 a4 : Option Addr) (m1 m2 m3 m4 : Nat) (H : List NdH) (w0 : World) (c1 : SlT cl (.slice a1 cl.length m1) w0) (c2 : SlT al (.slice a2 al.length m2) w0) (c3 : SlT sl (.slice a3 sl.length m3) w0) (c4 : SlT H (.slice a4 H.length m4) w0) (hF : FoR w0 kids H) (l1 : cl.length ≤ 100) (l2 : al.length ≤ 100) (l3 : sl.length ≤ 100) (l4 : kids.length ≤ 1000) :
    Calls Tryz.prog 96 #[.agg #[.int .i64 k, .string tag, .string key, .string text, .slice a1 cl.length m1, .slice a2 al.length m2, .slice a3 sl.length m3, .int .i64 e, .int .i64 lv, .int .i64 m, .int .i64 d, .bool p, .bool q, .slice a4 H.length m4]] w0 (Ret fun v w => v = .bool (keptB k kids) ∧ St w0 [] w) := by
  have hHk : H.length = kids.length := hF.1
  refine enter Tryz.func96 rfl Tryz.ntmps96 rfl (fun a hk => ?_); have hS := St.refl w0
  have hv4 := hS.rdT c4
  by_cases hk2 : k = 2
  · (repeat' (first | (show wpListIn _ _ _ _ _ (_ :: _) _ _; first | (refine wx1 ?_; clear hk a; intro a hk) | (refine wx2 ?_ ?_ <;> (intro hp; clear hk a; intro a hk)) | (refine wx3 ?_; clear hk hS a; intro w b hS a hk) | (refine wx4 ?_; clear hk hS a; intro w hS a hk) | (refine wx5 ?_; clear hk hS a; intro w v hS a hk) | fail) | refine wx0 ?_ | (refine s_end hk ?_; clear hk a; intro a hk) | fail))
    exact done1 hk (h := ⟨by simp [keptB, hk2], hS.nil⟩)
  · (repeat' (first | (show wpListIn _ _ _ _ _ (_ :: _) _ _; first | (refine wx1 ?_; clear hk a; intro a hk) | (refine wx2 ?_ ?_ <;> (intro hp; clear hk a; intro a hk)) | (refine wx3 ?_; clear hk hS a; intro w b hS a hk) | (refine wx4 ?_; clear hk hS a; intro w hS a hk) | (refine wx5 ?_; clear hk hS a; intro w v hS a hk) | fail) | refine wx0 ?_ | (refine s_end hk ?_; clear hk a; intro a hk) | fail))
    rename Nat => b1
    replace hk := Kn.kp [1, 9, 10, 11] hk
    refine wp_for H.length (fun i _ => [(11, .int .i64 (i : Int))]) (fun i _ => [pts b1 [.int .i64 k, .string tag, .string key, .string text, .slice a1 cl.length m1, .slice a2 al.length m2, .slice a3 sl.length m3, .int .i64 e, .int .i64 lv, .int .i64 m, .int .i64 d, .bool p, .bool q, .slice a4 H.length m4] 33]) (fun i _ => (kids.take i).all kidB = true) () hk (by repeat (first | exact trivial | refine ⟨rfl, ?_⟩)) hS.sb rfl ?_
    clear hk hS a hv4
    rintro i - a w hi hk hS hA
    have hv4 := hS.rdT c4
    by_cases hil : i < H.length
    · obtain ⟨tk, htk⟩ : ∃ t, kids[i]? = some t := ⟨_, List.getElem?_eq_getElem (by omega)⟩
      obtain ⟨hd0, hx⟩ : ∃ x, H[i]? = some x := ⟨_, List.getElem?_eq_getElem hil⟩
      have hTr := hF.2 i tk hd0 htk hx
      have hst := all_takeP htk kidB
      obtain ⟨k', tag', key', text', cl', al', sl', e', lv', m', d', p', q', kids', x1, x2, y1, y2, z1, z2, u1, u2, H', rfl, rfl, _⟩ := hTr.split
      by_cases hb : k' = 2 ∧ ¬ key' = ⟨#[]⟩
      · obtain ⟨hb1, hb2⟩ := hb
        (repeat' (first | (show wpListIn _ _ _ _ _ (_ :: _) _ _; first | (refine wx1 ?_; clear hk a; intro a hk) | (refine wx2 ?_ ?_ <;> (intro hp; clear hk a; intro a hk)) | (refine wx3 ?_; clear hk hS a; intro w b hS a hk) | (refine wx4 ?_; clear hk hS a; intro w hS a hk) | (refine wx5 ?_; clear hk hS a; intro w v hS a hk) | fail) | refine wx0 ?_ | (refine s_end hk ?_; clear hk a; intro a hk) | fail))
        exact ⟨hil, (), hk.sd, hS.sb, by rw [hst, hA, Bool.true_and]; exact decide_eq_true ⟨hb1, hb2⟩⟩
      · have hbf : keptB k kids = false := by
          rw [keptB, all_falseP htk (p := kidB) (decide_eq_false hb)]
          simp [hk2]
        rw [hbf]
        by_cases hb1 : k' = 2
        · have hb2 : key' = ⟨#[]⟩ := by
            by_cases h : key' = ⟨#[]⟩
            · exact h
            · exact absurd ⟨hb1, h⟩ hb
          (repeat' (first | (show wpListIn _ _ _ _ _ (_ :: _) _ _; first | (refine wx1 ?_; clear hk a; intro a hk) | (refine wx2 ?_ ?_ <;> (intro hp; clear hk a; intro a hk)) | (refine wx3 ?_; clear hk hS a; intro w b hS a hk) | (refine wx4 ?_; clear hk hS a; intro w hS a hk) | (refine wx5 ?_; clear hk hS a; intro w v hS a hk) | fail) | refine wx0 ?_ | (refine s_end hk ?_; clear hk a; intro a hk) | fail))
          exact done1 hk (h := ⟨rfl, hS.nil⟩)
        · (repeat' (first | (show wpListIn _ _ _ _ _ (_ :: _) _ _; first | (refine wx1 ?_; clear hk a; intro a hk) | (refine wx2 ?_ ?_ <;> (intro hp; clear hk a; intro a hk)) | (refine wx3 ?_; clear hk hS a; intro w b hS a hk) | (refine wx4 ?_; clear hk hS a; intro w hS a hk) | (refine wx5 ?_; clear hk hS a; intro w v hS a hk) | fail) | refine wx0 ?_ | (refine s_end hk ?_; clear hk a; intro a hk) | fail))
          exact done1 hk (h := ⟨rfl, hS.nil⟩)
    · have : i = kids.length := by omega
      subst this
      rw [List.take_length] at hA
      (repeat' (first | (show wpListIn _ _ _ _ _ (_ :: _) _ _; first | (refine wx1 ?_; clear hk a; intro a hk) | (refine wx2 ?_ ?_ <;> (intro hp; clear hk a; intro a hk)) | (refine wx3 ?_; clear hk hS a; intro w b hS a hk) | (refine wx4 ?_; clear hk hS a; intro w hS a hk) | (refine wx5 ?_; clear hk hS a; intro w v hS a hk) | fail) | refine wx0 ?_ | (refine s_end hk ?_; clear hk a; intro a hk) | fail))
      · exact done1 hk (h := ⟨by have h3 : k = 3 := by assumption
                                 simp [keptB, hA, h3], hS.nil⟩)
      · exact done1 hk (h := ⟨by have h3 : kids.length ≤ 1 := by omega
                                 simp [keptB, hA, h3], hS.nil⟩)
      · exact done1 hk (h := ⟨by have h3 : ¬ kids.length ≤ 1 := by omega
                                 have h4 : ¬ k = 3 := by assumption
                                 simp [keptB, h3, h4, hk2], hS.nil⟩)

set_option maxHeartbeats 4000000 in
theorem bare_any (k : Int) (tag key text : ByteArray) (cl : List ByteArray) (al : List PrS) (sl : List PrI) (e lv m d : Int) (p q : Bool) (kids : List Tree) (a1 a2 a3 a4 : Option Addr) (m1 m2 m3 m4 : Nat) (H : List NdH) (w0 : World) (c1 : SlT cl (.slice a1 cl.length m1) w0) (c2 : SlT al (.slice a2 al.length m2) w0) (c3 : SlT sl (.slice a3 sl.length m3) w0) (c4 : SlT H (.slice a4 H.length m4) w0) (hF : FoR w0 kids H) (l1 : cl.length ≤ 100) (l2 : al.length ≤ 100) (l3 : sl.length ≤ 100) (l4 : kids.length ≤ 1000) :
    Calls Tryz.prog 90 #[.agg #[.int .i64 k, .string tag, .string key, .string text, .slice a1 cl.length m1, .slice a2 al.length m2, .slice a3 sl.length m3, .int .i64 e, .int .i64 lv, .int .i64 m, .int .i64 d, .bool p, .bool q, .slice a4 H.length m4]] w0 (Ret fun v w => v = .bool (bareB tag key cl al sl (e, lv, m, d, p, q) kids) ∧ St w0 [] w) := by
  have hHk : H.length = kids.length := hF.1
  unfold bareB
  refine enter Tryz.func90 rfl Tryz.ntmps90 rfl (fun a hk => ?_); have hS := St.refl w0
  have hv1 := hS.rdT c1
  have hv2 := hS.rdT c2
  have hv3 := hS.rdT c3
  have hv4 := hS.rdT c4
  (repeat' (first | (show wpListIn _ _ _ _ _ (_ :: _) _ _; first | (refine wx1 ?_; clear hk a; intro a hk) | (refine wx2 ?_ ?_ <;> (intro hp; clear hk a; intro a hk)) | (refine wx3 ?_; clear hk hS a; intro w b hS a hk) | (refine wx4 ?_; clear hk hS a; intro w hS a hk) | (refine wx5 ?_; clear hk hS a; intro w v hS a hk) | fail) | refine wx0 ?_ | (refine s_end hk ?_; clear hk a; intro a hk) | fail))
  · have ht : tag = ⟨#[]⟩ := by assumption
    have hy : key = ⟨#[]⟩ := by assumption
    have hl : cl.length + al.length + sl.length + kids.length = 0 := by omega
    have e0 := eqC_enc (α := Opt) (x := (e, lv, m, d, p, q)) (y := (0, 0, 0, 0, false, false)) (b := true) (by assumption)
    rw [if_pos rfl] at e0
    exact done1 hk (h := ⟨by rw [decide_eq_true ⟨ht, hy, hl, e0⟩], hS.nil⟩)
  · have e0 := eqC_enc (α := Opt) (x := (e, lv, m, d, p, q)) (y := (0, 0, 0, 0, false, false)) (b := false) (by assumption)
    rw [if_neg (by decide)] at e0
    exact done1 hk (h := ⟨by rw [decide_eq_false (fun h => e0 h.2.2.2)], hS.nil⟩)
  · have hl : ¬ cl.length + al.length + sl.length + kids.length = 0 := by omega
    exact done1 hk (h := ⟨by rw [decide_eq_false (fun h => hl h.2.2.1)], hS.nil⟩)
  · have hy : ¬ key = ⟨#[]⟩ := by assumption
    exact done1 hk (h := ⟨by rw [decide_eq_false (fun h => hy h.2.1)], hS.nil⟩)
  · have hy : ¬ tag = ⟨#[]⟩ := by assumption
    exact done1 hk (h := ⟨by rw [decide_eq_false (fun h => hy h.1)], hS.nil⟩)
end Go.Proofs.YtipdgobplfkipaaGreatDoor
namespace Go.Proofs.YtipdgobplfkipaaGreatDoor
open Go.RowKit
set_option maxRecDepth 100000
attribute [local irreducible] Go.Code.wpIn Go.wpListIn Go.Calls Gives Go.Exit.then Go.Exit.inBlock Done ObxE

theorem may1_any (s : ByteArray) (hs : s.size ≤ 1000000) (w0 : World) : Calls Tryz.prog 92 #[.string s] w0 (Ret fun v w => v = .bool (!nameS s) ∧ St w0 [] w) := by
  refine enter Tryz.func92 rfl Tryz.ntmps92 rfl (fun a hk => ?_); have hS := St.refl w0
  (repeat' (first | (show wpListIn _ _ _ _ _ (_ :: _) _ _; first | (refine wx1 ?_; clear hk a; intro a hk) | (refine wx2 ?_ ?_ <;> (intro hp; clear hk a; intro a hk)) | (refine wx3 ?_; clear hk hS a; intro w b hS a hk) | (refine wx4 ?_; clear hk hS a; intro w hS a hk) | (refine wx5 ?_; clear hk hS a; intro w v hS a hk) | fail) | refine wx0 ?_ | (refine s_end hk ?_; clear hk a; intro a hk) | fail))
  refine sg hk (g_callO hk (hf := by kernel_rfl) (hc := name_any s hs _) (h := ?_)); clear hk a; rintro _ w ⟨rfl, hS1⟩ a hk; replace hS := hS.call0 hS1; clear hS1
  (repeat' (first | (show wpListIn _ _ _ _ _ (_ :: _) _ _; first | (refine wx1 ?_; clear hk a; intro a hk) | (refine wx2 ?_ ?_ <;> (intro hp; clear hk a; intro a hk)) | (refine wx3 ?_; clear hk hS a; intro w b hS a hk) | (refine wx4 ?_; clear hk hS a; intro w hS a hk) | (refine wx5 ?_; clear hk hS a; intro w v hS a hk) | fail) | refine wx0 ?_ | (refine s_end hk ?_; clear hk a; intro a hk) | fail))
  exact done1 hk (h := ⟨rfl, hS.nil⟩)

set_option maxHeartbeats 16000000 in
theorem may7_any (k : Int) (tag key text : ByteArray) (cl : List ByteArray) (al : List PrS) (sl : List PrI) (e lv m d : Int) (p q : Bool) (kids : List Tree) (a1 a2 a3 a4 : Option Addr) (m1 m2 m3 m4 : Nat) (H : List NdH) (w0 : World) (c1 : SlT cl (.slice a1 cl.length m1) w0) (c2 : SlT al (.slice a2 al.length m2) w0) (c3 : SlT sl (.slice a3 sl.length m3) w0) (c4 : SlT H (.slice a4 H.length m4) w0) (hF : FoR w0 kids H) (l1 : cl.length ≤ 100) (l2 : al.length ≤ 100) (l3 : sl.length ≤ 100) (l4 : kids.length ≤ 1000) (hz1 : tag.size ≤ 1000000) (hz2 : key.size ≤ 1000000) (hz3 : text.size ≤ 1000000) (hz5 : ∀ x ∈ al, x.2.size ≤ 1000000) (hz6 : ∀ c ∈ namesL cl al sl, c.size ≤ 1000000) :
    Calls Tryz.prog 68 #[.agg #[.int .i64 k, .string tag, .string key, .string text, .slice a1 cl.length m1, .slice a2 al.length m2, .slice a3 sl.length m3, .int .i64 e, .int .i64 lv, .int .i64 m, .int .i64 d, .bool p, .bool q, .slice a4 H.length m4]] w0 (Ret fun v w => v = .bool (mayB k tag key text cl al sl (e, lv, m, d, p, q) kids) ∧ St w0 [] w) := by
  have hba := fun w0 c1 c2 c3 c4 hF l1 l2 l3 l4 => bare_any k tag key text cl al sl e lv m d p q kids a1 a2 a3 a4 m1 m2 m3 m4 H w0 c1 c2 c3 c4 hF l1 l2 l3 l4
  have hva := fun w0 c1 c2 c3 c4 hF l1 l2 l3 l4 => valued_any k tag key text cl al sl e lv m d p q kids a1 a2 a3 a4 m1 m2 m3 m4 H w0 c1 c2 c3 c4 hF l1 l2 l3 l4 hz5
  have hkp := fun w0 c1 c2 c3 c4 hF l1 l2 l3 l4 => kept_any k tag key text cl al sl e lv m d p q kids a1 a2 a3 a4 m1 m2 m3 m4 H w0 c1 c2 c3 c4 hF l1 l2 l3 l4
  have hop := fun w0 => optsMay_any e lv m d p q k w0
  have hnm := fun w0 => name_any tag hz1 w0
  have hky := fun w0 => key_any key hz2 w0
  have htx := fun w0 => text_any text hz3 w0
  have hna : (namesL cl al sl).any (fun s => !nameS s) = !((namesL cl al sl).all nameS) := by rw [List.not_all_eq_any_not]
  unfold mayB
  generalize bareB tag key cl al sl (e, lv, m, d, p, q) kids = bb at *
  generalize valB al sl = bv at *
  generalize keptB k kids = bp at *
  generalize optsB (e, lv, m, d, p, q) k = bo at *
  generalize nameS tag = bt at *
  generalize keyS key = bk at *
  generalize txtS text = bx at *
  generalize (namesL cl al sl).all nameS = bn at *
  refine enter Tryz.func68 rfl Tryz.ntmps68 rfl (fun a hk => ?_); have hS := St.refl w0
  by_cases h1 : k = 1
  · rw [if_pos h1]
    (repeat' (first | (show wpListIn _ _ _ _ _ (_ :: _) _ _; first | (refine wx1 ?_; clear hk a; intro a hk) | (refine wx2 ?_ ?_ <;> (intro hp; clear hk a; intro a hk)) | (refine wx3 ?_; clear hk hS a; intro w b hS a hk) | (refine wx4 ?_; clear hk hS a; intro w hS a hk) | (refine wx5 ?_; clear hk hS a; intro w v hS a hk) | fail) | refine wx0 ?_ | (refine s_end hk ?_; clear hk a; intro a hk) | fail))
    refine sg hk (g_callO hk (hf := by kernel_rfl) (hc := hba _ (hS.rdT c1) (hS.rdT c2) (hS.rdT c3) (hS.rdT c4) (hS.rdFo hF) l1 l2 l3 l4) (h := ?_)); clear hk a; rintro _ w ⟨rfl, hS1⟩ a hk; replace hS := hS.call0 hS1; clear hS1
    cases bb with
    | false =>
      (repeat' (first | (show wpListIn _ _ _ _ _ (_ :: _) _ _; first | (refine wx1 ?_; clear hk a; intro a hk) | (refine wx2 ?_ ?_ <;> (intro hp; clear hk a; intro a hk)) | (refine wx3 ?_; clear hk hS a; intro w b hS a hk) | (refine wx4 ?_; clear hk hS a; intro w hS a hk) | (refine wx5 ?_; clear hk hS a; intro w v hS a hk) | fail) | refine wx0 ?_ | (refine s_end hk ?_; clear hk a; intro a hk) | fail))
      exact done1 hk (h := ⟨rfl, hS.nil⟩)
    | true =>
      (repeat' (first | (show wpListIn _ _ _ _ _ (_ :: _) _ _; first | (refine wx1 ?_; clear hk a; intro a hk) | (refine wx2 ?_ ?_ <;> (intro hp; clear hk a; intro a hk)) | (refine wx3 ?_; clear hk hS a; intro w b hS a hk) | (refine wx4 ?_; clear hk hS a; intro w hS a hk) | (refine wx5 ?_; clear hk hS a; intro w v hS a hk) | fail) | refine wx0 ?_ | (refine s_end hk ?_; clear hk a; intro a hk) | fail))
      refine sg hk (g_callO hk (hf := by kernel_rfl) (hc := htx _) (h := ?_)); clear hk a; rintro _ w ⟨rfl, hS1⟩ a hk; replace hS := hS.call0 hS1; clear hS1
      (repeat' (first | (show wpListIn _ _ _ _ _ (_ :: _) _ _; first | (refine wx1 ?_; clear hk a; intro a hk) | (refine wx2 ?_ ?_ <;> (intro hp; clear hk a; intro a hk)) | (refine wx3 ?_; clear hk hS a; intro w b hS a hk) | (refine wx4 ?_; clear hk hS a; intro w hS a hk) | (refine wx5 ?_; clear hk hS a; intro w v hS a hk) | fail) | refine wx0 ?_ | (refine s_end hk ?_; clear hk a; intro a hk) | fail))
      exact done1 hk (h := ⟨by simp, hS.nil⟩)
  · rw [if_neg h1]
    by_cases h234 : k = 2 ∨ k = 3 ∨ k = 4
    · rw [if_pos h234]
      rcases h234 with hk2 | hk2 | hk2
      all_goals (
        (repeat' (first | (show wpListIn _ _ _ _ _ (_ :: _) _ _; first | (refine wx1 ?_; clear hk a; intro a hk) | (refine wx2 ?_ ?_ <;> (intro hp; clear hk a; intro a hk)) | (refine wx3 ?_; clear hk hS a; intro w b hS a hk) | (refine wx4 ?_; clear hk hS a; intro w hS a hk) | (refine wx5 ?_; clear hk hS a; intro w v hS a hk) | fail) | refine wx0 ?_ | (refine s_end hk ?_; clear hk a; intro a hk) | fail))
        refine sg hk (g_callO hk (hf := by kernel_rfl) (hc := names7_any k tag key text cl al sl e lv m d p q kids a1 a2 a3 a4 m1 m2 m3 m4 H _ (hS.rdT c1) (hS.rdT c2) (hS.rdT c3) (hS.rdT c4) (hS.rdFo hF) l1 l2 l3 l4) (h := ?_)); clear hk a; rintro vn w hS1 a hk; replace hS := hS.call hS1; clear hS1
        rw [List.cons_append, List.nil_append] at hS
        (repeat' (first | (show wpListIn _ _ _ _ _ (_ :: _) _ _; first | (refine wx1 ?_; clear hk a; intro a hk) | (refine wx2 ?_ ?_ <;> (intro hp; clear hk a; intro a hk)) | (refine wx3 ?_; clear hk hS a; intro w b hS a hk) | (refine wx4 ?_; clear hk hS a; intro w hS a hk) | (refine wx5 ?_; clear hk hS a; intro w v hS a hk) | fail) | refine wx0 ?_ | (refine s_end hk ?_; clear hk a; intro a hk) | fail))
        refine sg hk (g_callO hk (hf := by kernel_rfl) (hc := anyN_any (fun s => !nameS s) (namesL cl al sl) 92 vn _ (by first | exact St.rdT hS (by assumption) | exact OwT.rd (hS.rd (A := OwT _ _ _) (by (repeat (first | exact At.here | apply At.there)))) | assumption) (by have := names_len l1 l2 l3; omega) (by kernel_rfl) (fun x hx w => may1_any x (hz6 x hx) w)) (h := ?_)); clear hk a; rintro _ w ⟨rfl, hS1⟩ a hk; replace hS := hS.call0 hS1; clear hS1
        rw [hna] at hk
        by_cases ht : text = ⟨#[]⟩
        · (repeat' (first | (show wpListIn _ _ _ _ _ (_ :: _) _ _; first | (refine wx1 ?_; clear hk a; intro a hk) | (refine wx2 ?_ ?_ <;> (intro hp; clear hk a; intro a hk)) | (refine wx3 ?_; clear hk hS a; intro w b hS a hk) | (refine wx4 ?_; clear hk hS a; intro w hS a hk) | (refine wx5 ?_; clear hk hS a; intro w v hS a hk) | fail) | refine wx0 ?_ | (refine s_end hk ?_; clear hk a; intro a hk) | fail))
          refine sg hk (g_callO hk (hf := by kernel_rfl) (hc := hnm _) (h := ?_)); clear hk a; rintro _ w ⟨rfl, hS1⟩ a hk; replace hS := hS.call0 hS1; clear hS1
          cases bt with
          | false =>
            (repeat' (first | (show wpListIn _ _ _ _ _ (_ :: _) _ _; first | (refine wx1 ?_; clear hk a; intro a hk) | (refine wx2 ?_ ?_ <;> (intro hp; clear hk a; intro a hk)) | (refine wx3 ?_; clear hk hS a; intro w b hS a hk) | (refine wx4 ?_; clear hk hS a; intro w hS a hk) | (refine wx5 ?_; clear hk hS a; intro w v hS a hk) | fail) | refine wx0 ?_ | (refine s_end hk ?_; clear hk a; intro a hk) | fail))
            exact done1 hk (h := ⟨by simp [ht], hS.nil⟩)
          | true =>
            cases bn with
            | false =>
              (repeat' (first | (show wpListIn _ _ _ _ _ (_ :: _) _ _; first | (refine wx1 ?_; clear hk a; intro a hk) | (refine wx2 ?_ ?_ <;> (intro hp; clear hk a; intro a hk)) | (refine wx3 ?_; clear hk hS a; intro w b hS a hk) | (refine wx4 ?_; clear hk hS a; intro w hS a hk) | (refine wx5 ?_; clear hk hS a; intro w v hS a hk) | fail) | refine wx0 ?_ | (refine s_end hk ?_; clear hk a; intro a hk) | fail))
              exact done1 hk (h := ⟨by simp [ht], hS.nil⟩)
            | true =>
              by_cases hy : key = ⟨#[]⟩
              · (repeat' (first | (show wpListIn _ _ _ _ _ (_ :: _) _ _; first | (refine wx1 ?_; clear hk a; intro a hk) | (refine wx2 ?_ ?_ <;> (intro hp; clear hk a; intro a hk)) | (refine wx3 ?_; clear hk hS a; intro w b hS a hk) | (refine wx4 ?_; clear hk hS a; intro w hS a hk) | (refine wx5 ?_; clear hk hS a; intro w v hS a hk) | fail) | refine wx0 ?_ | (refine s_end hk ?_; clear hk a; intro a hk) | fail))
                refine sg hk (g_callO hk (hf := by kernel_rfl) (hc := hva _ (hS.rdT c1) (hS.rdT c2) (hS.rdT c3) (hS.rdT c4) (hS.rdFo hF) l1 l2 l3 l4) (h := ?_)); clear hk a; rintro _ w ⟨rfl, hS1⟩ a hk; replace hS := hS.call0 hS1; clear hS1
                cases bv with
                | false =>
                  (repeat' (first | (show wpListIn _ _ _ _ _ (_ :: _) _ _; first | (refine wx1 ?_; clear hk a; intro a hk) | (refine wx2 ?_ ?_ <;> (intro hp; clear hk a; intro a hk)) | (refine wx3 ?_; clear hk hS a; intro w b hS a hk) | (refine wx4 ?_; clear hk hS a; intro w hS a hk) | (refine wx5 ?_; clear hk hS a; intro w v hS a hk) | fail) | refine wx0 ?_ | (refine s_end hk ?_; clear hk a; intro a hk) | fail))
                  exact done1 hk (h := ⟨by simp [ht, hy], hS.nil⟩)
                | true =>
                  (repeat' (first | (show wpListIn _ _ _ _ _ (_ :: _) _ _; first | (refine wx1 ?_; clear hk a; intro a hk) | (refine wx2 ?_ ?_ <;> (intro hp; clear hk a; intro a hk)) | (refine wx3 ?_; clear hk hS a; intro w b hS a hk) | (refine wx4 ?_; clear hk hS a; intro w hS a hk) | (refine wx5 ?_; clear hk hS a; intro w v hS a hk) | fail) | refine wx0 ?_ | (refine s_end hk ?_; clear hk a; intro a hk) | fail))
                  refine sg hk (g_callO hk (hf := by kernel_rfl) (hc := hop _) (h := ?_)); clear hk a; rintro _ w ⟨rfl, hS1⟩ a hk; replace hS := hS.call0 hS1; clear hS1
                  cases bo with
                  | false =>
                    (repeat' (first | (show wpListIn _ _ _ _ _ (_ :: _) _ _; first | (refine wx1 ?_; clear hk a; intro a hk) | (refine wx2 ?_ ?_ <;> (intro hp; clear hk a; intro a hk)) | (refine wx3 ?_; clear hk hS a; intro w b hS a hk) | (refine wx4 ?_; clear hk hS a; intro w hS a hk) | (refine wx5 ?_; clear hk hS a; intro w v hS a hk) | fail) | refine wx0 ?_ | (refine s_end hk ?_; clear hk a; intro a hk) | fail))
                    exact done1 hk (h := ⟨by simp [ht, hy], hS.nil⟩)
                  | true =>
                    (repeat' (first | (show wpListIn _ _ _ _ _ (_ :: _) _ _; first | (refine wx1 ?_; clear hk a; intro a hk) | (refine wx2 ?_ ?_ <;> (intro hp; clear hk a; intro a hk)) | (refine wx3 ?_; clear hk hS a; intro w b hS a hk) | (refine wx4 ?_; clear hk hS a; intro w hS a hk) | (refine wx5 ?_; clear hk hS a; intro w v hS a hk) | fail) | refine wx0 ?_ | (refine s_end hk ?_; clear hk a; intro a hk) | fail))
                    refine sg hk (g_callO hk (hf := by kernel_rfl) (hc := hkp _ (hS.rdT c1) (hS.rdT c2) (hS.rdT c3) (hS.rdT c4) (hS.rdFo hF) l1 l2 l3 l4) (h := ?_)); clear hk a; rintro _ w ⟨rfl, hS1⟩ a hk; replace hS := hS.call0 hS1; clear hS1
                    cases bp with
                    | false =>
                      (repeat' (first | (show wpListIn _ _ _ _ _ (_ :: _) _ _; first | (refine wx1 ?_; clear hk a; intro a hk) | (refine wx2 ?_ ?_ <;> (intro hp; clear hk a; intro a hk)) | (refine wx3 ?_; clear hk hS a; intro w b hS a hk) | (refine wx4 ?_; clear hk hS a; intro w hS a hk) | (refine wx5 ?_; clear hk hS a; intro w v hS a hk) | fail) | refine wx0 ?_ | (refine s_end hk ?_; clear hk a; intro a hk) | fail))
                      exact done1 hk (h := ⟨by simp [ht, hy], hS.nil⟩)
                    | true =>
                      (repeat' (first | (show wpListIn _ _ _ _ _ (_ :: _) _ _; first | (refine wx1 ?_; clear hk a; intro a hk) | (refine wx2 ?_ ?_ <;> (intro hp; clear hk a; intro a hk)) | (refine wx3 ?_; clear hk hS a; intro w b hS a hk) | (refine wx4 ?_; clear hk hS a; intro w hS a hk) | (refine wx5 ?_; clear hk hS a; intro w v hS a hk) | fail) | refine wx0 ?_ | (refine s_end hk ?_; clear hk a; intro a hk) | fail))
                      exact done1 hk (h := ⟨by simp [ht, hy], hS.nil⟩)
              · (repeat' (first | (show wpListIn _ _ _ _ _ (_ :: _) _ _; first | (refine wx1 ?_; clear hk a; intro a hk) | (refine wx2 ?_ ?_ <;> (intro hp; clear hk a; intro a hk)) | (refine wx3 ?_; clear hk hS a; intro w b hS a hk) | (refine wx4 ?_; clear hk hS a; intro w hS a hk) | (refine wx5 ?_; clear hk hS a; intro w v hS a hk) | fail) | refine wx0 ?_ | (refine s_end hk ?_; clear hk a; intro a hk) | fail))
                refine sg hk (g_callO hk (hf := by kernel_rfl) (hc := hky _) (h := ?_)); clear hk a; rintro _ w ⟨rfl, hS1⟩ a hk; replace hS := hS.call0 hS1; clear hS1
                cases bk with
                | false =>
                  (repeat' (first | (show wpListIn _ _ _ _ _ (_ :: _) _ _; first | (refine wx1 ?_; clear hk a; intro a hk) | (refine wx2 ?_ ?_ <;> (intro hp; clear hk a; intro a hk)) | (refine wx3 ?_; clear hk hS a; intro w b hS a hk) | (refine wx4 ?_; clear hk hS a; intro w hS a hk) | (refine wx5 ?_; clear hk hS a; intro w v hS a hk) | fail) | refine wx0 ?_ | (refine s_end hk ?_; clear hk a; intro a hk) | fail))
                  exact done1 hk (h := ⟨by simp [ht, hy], hS.nil⟩)
                | true =>
                  (repeat' (first | (show wpListIn _ _ _ _ _ (_ :: _) _ _; first | (refine wx1 ?_; clear hk a; intro a hk) | (refine wx2 ?_ ?_ <;> (intro hp; clear hk a; intro a hk)) | (refine wx3 ?_; clear hk hS a; intro w b hS a hk) | (refine wx4 ?_; clear hk hS a; intro w hS a hk) | (refine wx5 ?_; clear hk hS a; intro w v hS a hk) | fail) | refine wx0 ?_ | (refine s_end hk ?_; clear hk a; intro a hk) | fail))
                  refine sg hk (g_callO hk (hf := by kernel_rfl) (hc := hva _ (hS.rdT c1) (hS.rdT c2) (hS.rdT c3) (hS.rdT c4) (hS.rdFo hF) l1 l2 l3 l4) (h := ?_)); clear hk a; rintro _ w ⟨rfl, hS1⟩ a hk; replace hS := hS.call0 hS1; clear hS1
                  cases bv with
                  | false =>
                    (repeat' (first | (show wpListIn _ _ _ _ _ (_ :: _) _ _; first | (refine wx1 ?_; clear hk a; intro a hk) | (refine wx2 ?_ ?_ <;> (intro hp; clear hk a; intro a hk)) | (refine wx3 ?_; clear hk hS a; intro w b hS a hk) | (refine wx4 ?_; clear hk hS a; intro w hS a hk) | (refine wx5 ?_; clear hk hS a; intro w v hS a hk) | fail) | refine wx0 ?_ | (refine s_end hk ?_; clear hk a; intro a hk) | fail))
                    exact done1 hk (h := ⟨by simp [ht, hy], hS.nil⟩)
                  | true =>
                    (repeat' (first | (show wpListIn _ _ _ _ _ (_ :: _) _ _; first | (refine wx1 ?_; clear hk a; intro a hk) | (refine wx2 ?_ ?_ <;> (intro hp; clear hk a; intro a hk)) | (refine wx3 ?_; clear hk hS a; intro w b hS a hk) | (refine wx4 ?_; clear hk hS a; intro w hS a hk) | (refine wx5 ?_; clear hk hS a; intro w v hS a hk) | fail) | refine wx0 ?_ | (refine s_end hk ?_; clear hk a; intro a hk) | fail))
                    refine sg hk (g_callO hk (hf := by kernel_rfl) (hc := hop _) (h := ?_)); clear hk a; rintro _ w ⟨rfl, hS1⟩ a hk; replace hS := hS.call0 hS1; clear hS1
                    cases bo with
                    | false =>
                      (repeat' (first | (show wpListIn _ _ _ _ _ (_ :: _) _ _; first | (refine wx1 ?_; clear hk a; intro a hk) | (refine wx2 ?_ ?_ <;> (intro hp; clear hk a; intro a hk)) | (refine wx3 ?_; clear hk hS a; intro w b hS a hk) | (refine wx4 ?_; clear hk hS a; intro w hS a hk) | (refine wx5 ?_; clear hk hS a; intro w v hS a hk) | fail) | refine wx0 ?_ | (refine s_end hk ?_; clear hk a; intro a hk) | fail))
                      exact done1 hk (h := ⟨by simp [ht, hy], hS.nil⟩)
                    | true =>
                      (repeat' (first | (show wpListIn _ _ _ _ _ (_ :: _) _ _; first | (refine wx1 ?_; clear hk a; intro a hk) | (refine wx2 ?_ ?_ <;> (intro hp; clear hk a; intro a hk)) | (refine wx3 ?_; clear hk hS a; intro w b hS a hk) | (refine wx4 ?_; clear hk hS a; intro w hS a hk) | (refine wx5 ?_; clear hk hS a; intro w v hS a hk) | fail) | refine wx0 ?_ | (refine s_end hk ?_; clear hk a; intro a hk) | fail))
                      refine sg hk (g_callO hk (hf := by kernel_rfl) (hc := hkp _ (hS.rdT c1) (hS.rdT c2) (hS.rdT c3) (hS.rdT c4) (hS.rdFo hF) l1 l2 l3 l4) (h := ?_)); clear hk a; rintro _ w ⟨rfl, hS1⟩ a hk; replace hS := hS.call0 hS1; clear hS1
                      cases bp with
                      | false =>
                        (repeat' (first | (show wpListIn _ _ _ _ _ (_ :: _) _ _; first | (refine wx1 ?_; clear hk a; intro a hk) | (refine wx2 ?_ ?_ <;> (intro hp; clear hk a; intro a hk)) | (refine wx3 ?_; clear hk hS a; intro w b hS a hk) | (refine wx4 ?_; clear hk hS a; intro w hS a hk) | (refine wx5 ?_; clear hk hS a; intro w v hS a hk) | fail) | refine wx0 ?_ | (refine s_end hk ?_; clear hk a; intro a hk) | fail))
                        exact done1 hk (h := ⟨by simp [ht, hy], hS.nil⟩)
                      | true =>
                        (repeat' (first | (show wpListIn _ _ _ _ _ (_ :: _) _ _; first | (refine wx1 ?_; clear hk a; intro a hk) | (refine wx2 ?_ ?_ <;> (intro hp; clear hk a; intro a hk)) | (refine wx3 ?_; clear hk hS a; intro w b hS a hk) | (refine wx4 ?_; clear hk hS a; intro w hS a hk) | (refine wx5 ?_; clear hk hS a; intro w v hS a hk) | fail) | refine wx0 ?_ | (refine s_end hk ?_; clear hk a; intro a hk) | fail))
                        exact done1 hk (h := ⟨by simp [ht, hy], hS.nil⟩)
        · (repeat' (first | (show wpListIn _ _ _ _ _ (_ :: _) _ _; first | (refine wx1 ?_; clear hk a; intro a hk) | (refine wx2 ?_ ?_ <;> (intro hp; clear hk a; intro a hk)) | (refine wx3 ?_; clear hk hS a; intro w b hS a hk) | (refine wx4 ?_; clear hk hS a; intro w hS a hk) | (refine wx5 ?_; clear hk hS a; intro w v hS a hk) | fail) | refine wx0 ?_ | (refine s_end hk ?_; clear hk a; intro a hk) | fail))
          exact done1 hk (h := ⟨by simp [ht], hS.nil⟩)
      )
    · rw [if_neg h234]
      have hk2 : ¬ k = 2 := fun h => h234 (.inl h)
      have hk3 : ¬ k = 3 := fun h => h234 (.inr (.inl h))
      have hk4 : ¬ k = 4 := fun h => h234 (.inr (.inr h))
      (repeat' (first | (show wpListIn _ _ _ _ _ (_ :: _) _ _; first | (refine wx1 ?_; clear hk a; intro a hk) | (refine wx2 ?_ ?_ <;> (intro hp; clear hk a; intro a hk)) | (refine wx3 ?_; clear hk hS a; intro w b hS a hk) | (refine wx4 ?_; clear hk hS a; intro w hS a hk) | (refine wx5 ?_; clear hk hS a; intro w v hS a hk) | fail) | refine wx0 ?_ | (refine s_end hk ?_; clear hk a; intro a hk) | fail))
      exact done1 hk (h := ⟨rfl, hS.nil⟩)
end Go.Proofs.YtipdgobplfkipaaGreatDoor
