/- Texts are cut. Layer 4's reference, and what the statements of later layers begin with. Layer 7's reference: attributes, by their names. -/
import Derived.Test.YtkcjkbnbblpomaaGreatDoorS10
import Derived.Test.YtkcjkbnbblpomaaGreatDoorS13
import Derived.Test.YtkcjkbnbblpomaaGreatDoorS12
set_option linter.all false
namespace Go.Proofs.YtkcjkbnbblpomaaGreatDoor
open Go.RowKit
set_option maxRecDepth 100000
attribute [local irreducible] Go.Code.wpIn Go.wpListIn Go.Calls Gives Go.Exit.then Go.Exit.inBlock Done ObxE

def cutF (s : ByteArray) (n : Nat) : ByteArray := if n < s.size then s.extract 0 n else s

theorem cut_any (s : ByteArray) (n : Nat) (w0 : World) : Calls Tryz.prog 84 #[.string s, .int .i64 (n : Int)] w0 (Ret fun v w => v = .string (cutF s n) ∧ St w0 [] w) := by
  refine enter Tryz.func84 rfl Tryz.ntmps84 rfl (fun a hk => ?_); have hS := St.refl w0
  by_cases hn : n < s.size
  · have hn' : (n : Int) < (s.size : Int) := by omega
    (repeat' (first | (show wpListIn _ _ _ _ _ (_ :: _) _ _; first | (refine wx1 ?_; clear hk a; intro a hk) | (refine wx2 ?_ ?_ <;> (intro hp; clear hk a; intro a hk)) | (refine wx3 ?_; clear hk hS a; intro w b hS a hk) | (refine wx4 ?_; clear hk hS a; intro w hS a hk) | (refine wx5 ?_; clear hk hS a; intro w v hS a hk) | fail) | refine wx0 ?_ | (refine s_end hk ?_; clear hk a; intro a hk) | fail))
    exact done1 hk (h := ⟨by rw [cutF, if_pos hn]; rfl, hS.nil⟩)
  · have hn' : ¬ (n : Int) < (s.size : Int) := by omega
    (repeat' (first | (show wpListIn _ _ _ _ _ (_ :: _) _ _; first | (refine wx1 ?_; clear hk a; intro a hk) | (refine wx2 ?_ ?_ <;> (intro hp; clear hk a; intro a hk)) | (refine wx3 ?_; clear hk hS a; intro w b hS a hk) | (refine wx4 ?_; clear hk hS a; intro w hS a hk) | (refine wx5 ?_; clear hk hS a; intro w v hS a hk) | fail) | refine wx0 ?_ | (refine s_end hk ?_; clear hk a; intro a hk) | fail))
    exact done1 hk (h := ⟨by rw [cutF, if_neg hn], hS.nil⟩)
end Go.Proofs.YtkcjkbnbblpomaaGreatDoor
namespace Go.Proofs.YtkcjkbnbblpomaaGreatDoor
open Go.RowKit
set_option maxRecDepth 100000
attribute [local irreducible] Go.Code.wpIn Go.wpListIn Go.Calls Gives Go.Exit.then Go.Exit.inBlock Done ObxE

theorem getLast_take {β : Type} {S : List β} {k : Nat} (h : k + 1 ≤ S.length) : (S.take (k + 1)).getLast? = some (S[k]'(by omega)) := by
  rw [List.getLast?_eq_getElem?, List.length_take, Nat.min_eq_left h, List.getElem?_take, if_pos (by omega), List.getElem?_eq_getElem (by omega)]
  simp

set_option maxHeartbeats 4000000 in
theorem refOf_any (l : List PrI) (v : Value) (w0 : World) (hv : SlT l v w0) (hl : l.length ≤ 1000) :
    Calls Tryz.prog 92 #[v] w0 (Ret fun v w => St w0 [OwT 105 (snapF nmI l) v] w) := by
  have hsl := snap_len nmI l
  have hmn := fun k hk => minE_next nmI l k hk
  generalize snapF nmI l = S at *
  refine enter Tryz.func92 rfl Tryz.ntmps92 rfl (fun a hk => ?_); have hS := St.refl w0
  (repeat' (first | (show wpListIn _ _ _ _ _ (_ :: _) _ _; first | (refine wx1 ?_; clear hk a; intro a hk) | (refine wx2 ?_ ?_ <;> (intro hp; clear hk a; intro a hk)) | (refine wx3 ?_; clear hk hS a; intro w b hS a hk) | (refine wx4 ?_; clear hk hS a; intro w hS a hk) | (refine wx5 ?_; clear hk hS a; intro w v hS a hk) | fail) | refine wx0 ?_ | (refine s_end hk ?_; clear hk a; intro a hk) | fail))
  refine sg hk (g_bs0 PrI hS ?_ (hT := eT rfl) (hE := zT rfl)); clear hk hS a; intro w v2 hS a hk
  (repeat' (first | (show wpListIn _ _ _ _ _ (_ :: _) _ _; first | (refine wx1 ?_; clear hk a; intro a hk) | (refine wx2 ?_ ?_ <;> (intro hp; clear hk a; intro a hk)) | (refine wx3 ?_; clear hk hS a; intro w b hS a hk) | (refine wx4 ?_; clear hk hS a; intro w hS a hk) | (refine wx5 ?_; clear hk hS a; intro w v hS a hk) | fail) | refine wx0 ?_ | (refine s_end hk ?_; clear hk a; intro a hk) | fail))
  replace hk := Kn.kp [0, 3] hk
  refine wp_for S.length (fun _ v => [(3, v)]) (fun k v => [OwT 105 (S.take k) v]) (fun _ _ => True) v2 hk (by repeat (first | exact trivial | refine ⟨rfl, ?_⟩)) hS trivial ?_
  clear hk hS a
  rintro k vo a w hk1 hk hS -
  have hkl : (S.take k).length = k := by rw [List.length_take]; omega
  have hm1 := hmn k hk1
  (repeat' (first | (show wpListIn _ _ _ _ _ (_ :: _) _ _; first | (refine wx1 ?_; clear hk a; intro a hk) | (refine wx2 ?_ ?_ <;> (intro hp; clear hk a; intro a hk)) | (refine wx3 ?_; clear hk hS a; intro w b hS a hk) | (refine wx4 ?_; clear hk hS a; intro w hS a hk) | (refine wx5 ?_; clear hk hS a; intro w v hS a hk) | fail) | refine wx0 ?_ | (refine s_end hk ?_; clear hk a; intro a hk) | fail))
  replace hk := Kn.kp [0, 3, 4, 5, 11, 12, 13] hk
  refine wp_for l.length (fun i _ => [(4, .bool (minE nmI (l.take i) ((S.take k).getLast?.map nmI)).isSome), (13, .int .i64 (i : Int))]) (fun i _ => [pts b (Enc.f ((minE nmI (l.take i) ((S.take k).getLast?.map nmI)).getD (⟨#[]⟩, 0))) 105, OwT 105 (S.take k) vo]) (fun _ _ => True) () hk (by repeat (first | exact trivial | refine ⟨rfl, ?_⟩)) hS.sb trivial ?_
  clear hk hS a
  rintro i - a w hi hk hS -
  by_cases hil : i < l.length
  · obtain ⟨⟨id, X⟩, hx⟩ : ∃ x, l[i]? = some x := ⟨_, List.getElem?_eq_getElem hil⟩
    have hm' : minE nmI (l.take (i + 1)) ((S.take k).getLast?.map nmI) = minStepE nmI ((S.take k).getLast?.map nmI) (minE nmI (l.take i) ((S.take k).getLast?.map nmI)) (id, X) := by rw [take_snoc hx, minE_snoc]
    have hA : (S.take k).getLast?.map nmI = none ∧ k = 0 ∨ ∃ h : k - 1 < S.length, 0 < k ∧ (S.take k).getLast?.map nmI = some S[k - 1].1 := by
      by_cases hk0 : k = 0
      · subst hk0; exact .inl ⟨rfl, rfl⟩
      · refine .inr ⟨by omega, by omega, ?_⟩
        obtain ⟨k', rfl⟩ : ∃ k', k = k' + 1 := ⟨k - 1, by omega⟩
        rw [getLast_take hk1]
        rfl
    generalize minE nmI (l.take (i + 1)) ((S.take k).getLast?.map nmI) = m' at hm' ⊢
    generalize minE nmI (l.take i) ((S.take k).getLast?.map nmI) = m at hm' hk hS
    generalize (S.take k).getLast?.map nmI = A at hm' hA
    rcases hA with ⟨rfl, hk0⟩ | ⟨hkS, hkp, rfl⟩
    · rcases m with _ | ⟨qn, qx⟩
      · have e : m' = some (id, X) := by rw [hm']; rfl
        subst e
        simp only [Option.isSome_none, Option.getD_none] at hk hS
        (repeat' (first | (show wpListIn _ _ _ _ _ (_ :: _) _ _; first | (refine wx1 ?_; clear hk a; intro a hk) | (refine wx2 ?_ ?_ <;> (intro hp; clear hk a; intro a hk)) | (refine wx3 ?_; clear hk hS a; intro w b hS a hk) | (refine wx4 ?_; clear hk hS a; intro w hS a hk) | (refine wx5 ?_; clear hk hS a; intro w v hS a hk) | fail) | refine wx0 ?_ | (refine s_end hk ?_; clear hk a; intro a hk) | fail))
        refine wp_drawn 13 mixed (by kernel_rfl) hk hS ?_; clear hk hS a
        (repeat' (first | (show ObxE _ _ _ _ _ _ _ _ _ (_ :: _) _ _ _; first | refine ox1 ?_ | (refine ox2 ?_ ?_ <;> intro hp) | fail) | fail))
        refine obe_nil ⟨rfl, ?_⟩; intro us a w hk hS
        (repeat' (first | (show wpListIn _ _ _ _ _ (_ :: _) _ _; first | (refine wx1 ?_; clear hk a; intro a hk) | (refine wx2 ?_ ?_ <;> (intro hp; clear hk a; intro a hk)) | (refine wx3 ?_; clear hk hS a; intro w b hS a hk) | (refine wx4 ?_; clear hk hS a; intro w hS a hk) | (refine wx5 ?_; clear hk hS a; intro w v hS a hk) | fail) | refine wx0 ?_ | (refine s_end hk ?_; clear hk a; intro a hk) | fail))
        exact ⟨hil, (), hk.sd, hS.sb, trivial⟩
      · simp only [Option.isSome_some, Option.getD_some] at hk hS
        (repeat' (first | (show wpListIn _ _ _ _ _ (_ :: _) _ _; first | (refine wx1 ?_; clear hk a; intro a hk) | (refine wx2 ?_ ?_ <;> (intro hp; clear hk a; intro a hk)) | (refine wx3 ?_; clear hk hS a; intro w b hS a hk) | (refine wx4 ?_; clear hk hS a; intro w hS a hk) | (refine wx5 ?_; clear hk hS a; intro w v hS a hk) | fail) | refine wx0 ?_ | (refine s_end hk ?_; clear hk a; intro a hk) | fail))
        refine wp_drawn 13 mixed (by kernel_rfl) hk hS ?_; clear hk hS a
        (repeat' (first | (show ObxE _ _ _ _ _ _ _ _ _ (_ :: _) _ _ _; first | refine ox1 ?_ | (refine ox2 ?_ ?_ <;> intro hp) | fail) | fail))
        refine obe_nil ⟨rfl, ?_⟩; intro us a w hk hS
        (repeat' (first | (show wpListIn _ _ _ _ _ (_ :: _) _ _; first | (refine wx1 ?_; clear hk a; intro a hk) | (refine wx2 ?_ ?_ <;> (intro hp; clear hk a; intro a hk)) | (refine wx3 ?_; clear hk hS a; intro w b hS a hk) | (refine wx4 ?_; clear hk hS a; intro w hS a hk) | (refine wx5 ?_; clear hk hS a; intro w v hS a hk) | fail) | refine wx0 ?_ | (refine s_end hk ?_; clear hk a; intro a hk) | fail))
        · have h1 : (!Lin.lt qn id) = true := by assumption
          have e : m' = some (id, X) := by rw [hm']; simp at h1; simp [minStepE, aheadB, h1]
          subst e
          exact ⟨hil, (), hk.sd, hS.sb, trivial⟩
        · have h1 : (!Lin.lt qn id) = false := by assumption
          have e : m' = some (qn, qx) := by rw [hm']; simp at h1; simp [minStepE, aheadB, h1]
          subst e
          exact ⟨hil, (), hk.sd, hS.sb, trivial⟩
    · have hga : ∀ h, ((S.take k)[(((S.take k).length : Int) - 1).toNat]'h).1 = S[k - 1].1 := by
        intro h
        rw [List.getElem_take]
        congr 2
        omega
      rcases m with _ | ⟨qn, qx⟩
      · simp only [Option.isSome_none, Option.getD_none] at hk hS
        (repeat' (first | (show wpListIn _ _ _ _ _ (_ :: _) _ _; first | (refine wx1 ?_; clear hk a; intro a hk) | (refine wx2 ?_ ?_ <;> (intro hp; clear hk a; intro a hk)) | (refine wx3 ?_; clear hk hS a; intro w b hS a hk) | (refine wx4 ?_; clear hk hS a; intro w hS a hk) | (refine wx5 ?_; clear hk hS a; intro w v hS a hk) | fail) | refine wx0 ?_ | (refine s_end hk ?_; clear hk a; intro a hk) | fail))
        refine wp_drawn 13 mixed (by kernel_rfl) hk hS ?_; clear hk hS a
        (repeat' (first | (show ObxE _ _ _ _ _ _ _ _ _ (_ :: _) _ _ _; first | refine ox1 ?_ | (refine ox2 ?_ ?_ <;> intro hp) | fail) | fail))
        refine obe_nil ⟨rfl, ?_⟩; intro us a w hk hS
        (repeat' (first | (show wpListIn _ _ _ _ _ (_ :: _) _ _; first | (refine wx1 ?_; clear hk a; intro a hk) | (refine wx2 ?_ ?_ <;> (intro hp; clear hk a; intro a hk)) | (refine wx3 ?_; clear hk hS a; intro w b hS a hk) | (refine wx4 ?_; clear hk hS a; intro w hS a hk) | (refine wx5 ?_; clear hk hS a; intro w v hS a hk) | fail) | refine wx0 ?_ | (refine s_end hk ?_; clear hk a; intro a hk) | fail))
        · have h1 : Lin.lt S[k - 1].1 id = true := by rw [← hga (by omega)]; assumption
          have e : m' = some (id, X) := by rw [hm']; simp [minStepE, aheadB, h1]
          subst e
          exact ⟨hil, (), hk.sd, hS.sb, trivial⟩
        · have h1 : Lin.lt S[k - 1].1 id = false := by rw [← hga (by omega)]; assumption
          have e : m' = none := by rw [hm']; simp [minStepE, aheadB, h1]
          subst e
          exact ⟨hil, (), hk.sd, hS.sb, trivial⟩
      · simp only [Option.isSome_some, Option.getD_some] at hk hS
        (repeat' (first | (show wpListIn _ _ _ _ _ (_ :: _) _ _; first | (refine wx1 ?_; clear hk a; intro a hk) | (refine wx2 ?_ ?_ <;> (intro hp; clear hk a; intro a hk)) | (refine wx3 ?_; clear hk hS a; intro w b hS a hk) | (refine wx4 ?_; clear hk hS a; intro w hS a hk) | (refine wx5 ?_; clear hk hS a; intro w v hS a hk) | fail) | refine wx0 ?_ | (refine s_end hk ?_; clear hk a; intro a hk) | fail))
        refine wp_drawn 13 mixed (by kernel_rfl) hk hS ?_; clear hk hS a
        (repeat' (first | (show ObxE _ _ _ _ _ _ _ _ _ (_ :: _) _ _ _; first | refine ox1 ?_ | (refine ox2 ?_ ?_ <;> intro hp) | fail) | fail))
        refine obe_nil ⟨rfl, ?_⟩; intro us a w hk hS
        (repeat' (first | (show wpListIn _ _ _ _ _ (_ :: _) _ _; first | (refine wx1 ?_; clear hk a; intro a hk) | (refine wx2 ?_ ?_ <;> (intro hp; clear hk a; intro a hk)) | (refine wx3 ?_; clear hk hS a; intro w b hS a hk) | (refine wx4 ?_; clear hk hS a; intro w hS a hk) | (refine wx5 ?_; clear hk hS a; intro w v hS a hk) | fail) | refine wx0 ?_ | (refine s_end hk ?_; clear hk a; intro a hk) | fail))
        · have h1 : Lin.lt S[k - 1].1 id = true := by rw [← hga (by omega)]; assumption
          have h2 : (!Lin.lt qn id) = true := by assumption
          have e : m' = some (id, X) := by rw [hm']; simp at h2; simp [minStepE, aheadB, h1, h2]
          subst e
          exact ⟨hil, (), hk.sd, hS.sb, trivial⟩
        · have h1 : Lin.lt S[k - 1].1 id = true := by rw [← hga (by omega)]; assumption
          have h2 : (!Lin.lt qn id) = false := by assumption
          have e : m' = some (qn, qx) := by rw [hm']; simp at h2; simp [minStepE, aheadB, h1, h2]
          subst e
          exact ⟨hil, (), hk.sd, hS.sb, trivial⟩
        · have h1 : Lin.lt S[k - 1].1 id = false := by rw [← hga (by omega)]; assumption
          have e : m' = some (qn, qx) := by rw [hm']; simp [minStepE, aheadB, h1]
          subst e
          exact ⟨hil, (), hk.sd, hS.sb, trivial⟩
  · have : i = l.length := by omega
    subst this
    rw [List.take_length, hm1] at hk hS
    by_cases hkS : k < S.length
    · obtain ⟨⟨i2, X2⟩, hSk⟩ : ∃ e, S[k]? = some e := ⟨_, List.getElem?_eq_getElem hkS⟩
      rw [hSk] at hk hS
      simp only [Option.isSome_some, Option.getD_some] at hk hS
      (repeat' (first | (show wpListIn _ _ _ _ _ (_ :: _) _ _; first | (refine wx1 ?_; clear hk a; intro a hk) | (refine wx2 ?_ ?_ <;> (intro hp; clear hk a; intro a hk)) | (refine wx3 ?_; clear hk hS a; intro w b hS a hk) | (refine wx4 ?_; clear hk hS a; intro w hS a hk) | (refine wx5 ?_; clear hk hS a; intro w v hS a hk) | fail) | refine wx0 ?_ | (refine s_end hk ?_; clear hk a; intro a hk) | fail))
      refine sg hk (g_bsT (xs := [((i2, X2) : PrI)]) (m := 0) hk hS ?_ (hT := eT rfl) (hE := zT rfl) (hz := oT rfl)); clear hk hS a; intro w ve hS a hk
      (repeat' (first | (show wpListIn _ _ _ _ _ (_ :: _) _ _; first | (refine wx1 ?_; clear hk a; intro a hk) | (refine wx2 ?_ ?_ <;> (intro hp; clear hk a; intro a hk)) | (refine wx3 ?_; clear hk hS a; intro w b hS a hk) | (refine wx4 ?_; clear hk hS a; intro w hS a hk) | (refine wx5 ?_; clear hk hS a; intro w v hS a hk) | fail) | refine wx0 ?_ | (refine s_end hk ?_; clear hk a; intro a hk) | fail))
      have hst : S.take (k + 1) = S.take k ++ [(i2, X2)] := take_snoc hSk
      rw [← hst] at hS
      exact ⟨hkS, _, hk.sd, hS.sb, trivial⟩
    · have : k = S.length := by omega
      subst this
      rw [List.getElem?_eq_none (Nat.le_refl _)] at hk hS
      rw [List.take_length] at hS
      simp only [Option.isSome_none] at hk
      (repeat' (first | (show wpListIn _ _ _ _ _ (_ :: _) _ _; first | (refine wx1 ?_; clear hk a; intro a hk) | (refine wx2 ?_ ?_ <;> (intro hp; clear hk a; intro a hk)) | (refine wx3 ?_; clear hk hS a; intro w b hS a hk) | (refine wx4 ?_; clear hk hS a; intro w hS a hk) | (refine wx5 ?_; clear hk hS a; intro w v hS a hk) | fail) | refine wx0 ?_ | (refine s_end hk ?_; clear hk a; intro a hk) | fail))
      exact done1 hk (h := hS.sb)

def few04 (l : List PrI) (n : Nat) : List PrI := (l.take n).map (fun p => (cutF p.1 20, p.2))
theorem few04_len (l : List PrI) (n : Nat) : (few04 l n).length = min n l.length := by simp [few04]
theorem few04_snoc {l : List PrI} {i : Nat} {x : PrI} (h : l[i]? = some x) : few04 l (i + 1) = few04 l i ++ [(cutF x.1 20, x.2)] := by simp [few04, take_snoc h]

set_option maxHeartbeats 1000000 in
theorem few04_any (l : List PrI) (n : Nat) (hn : n ≤ 1000) (v : Value) (w0 : World) (hv : SlT l v w0) : Calls Tryz.prog 86 #[v, .int .i64 (n : Int)] w0
    (Ret fun v w => St w0 [OwT 105 (few04 l n) v] w) := by
  refine enter Tryz.func86 rfl Tryz.ntmps86 rfl (fun a hk => ?_); have hS := St.refl w0
  (repeat' (first | (show wpListIn _ _ _ _ _ (_ :: _) _ _; first | (refine wx1 ?_; clear hk a; intro a hk) | (refine wx2 ?_ ?_ <;> (intro hp; clear hk a; intro a hk)) | (refine wx3 ?_; clear hk hS a; intro w b hS a hk) | (refine wx4 ?_; clear hk hS a; intro w hS a hk) | (refine wx5 ?_; clear hk hS a; intro w v hS a hk) | fail) | refine wx0 ?_ | (refine s_end hk ?_; clear hk a; intro a hk) | fail))
  replace hS := hS.nilT 105 PrI
  replace hk := Kn.kp [0, 1, 5, 6] hk
  refine wp_for n (fun i v => [(5, v), (6, .int .i64 (i : Int))]) (fun i v => [OwT 105 (few04 l i) v]) (fun i _ => i ≤ l.length) (.slice none 0 0) hk (by repeat (first | exact trivial | refine ⟨rfl, ?_⟩)) hS (by omega) ?_
  clear hk hS a
  rintro i vo a w hi hk hS hF
  have hm : l.length ≤ maxLen := hv.len_le
  simp only [maxLen] at hm
  have hlen := few04_len l i
  by_cases hll : i < l.length
  · by_cases hlt : i < n
    · obtain ⟨⟨k, x⟩, hx⟩ : ∃ x, l[i]? = some x := ⟨_, List.getElem?_eq_getElem hll⟩
      have hst := few04_snoc hx
      (repeat' (first | (show wpListIn _ _ _ _ _ (_ :: _) _ _; first | (refine wx1 ?_; clear hk a; intro a hk) | (refine wx2 ?_ ?_ <;> (intro hp; clear hk a; intro a hk)) | (refine wx3 ?_; clear hk hS a; intro w b hS a hk) | (refine wx4 ?_; clear hk hS a; intro w hS a hk) | (refine wx5 ?_; clear hk hS a; intro w v hS a hk) | fail) | refine wx0 ?_ | (refine s_end hk ?_; clear hk a; intro a hk) | fail))
      refine wp_drawn 14 mixed (by kernel_rfl) hk hS ?_; clear hk hS a
      (repeat' (first | (show ObxE _ _ _ _ _ _ _ _ _ (_ :: _) _ _ _; first | refine ox1 ?_ | (refine ox2 ?_ ?_ <;> intro hp) | fail) | fail))
      refine' obe_val (fun us a w hk hd hS => ?_) ?_; rotate_left; focus (have hk := Kn.vw hk (by repeat (first | exact VW.nil | apply VW.val rfl | apply VW.base rfl rfl | apply VW.res rfl | apply VW.upd rfl | apply VW.cpy rfl | apply VW.dep rfl | apply VW.fn rfl | apply VW.lnd rfl | apply VW.tak rfl)); exact g_callO hk (hf := by kernel_rfl) (hc := cut_any _ 20 _) (h := fun _ _ h => h))
      (repeat' (first | (show ObxE _ _ _ _ _ _ _ _ _ (_ :: _) _ _ _; first | refine ox1 ?_ | (refine ox2 ?_ ?_ <;> intro hp) | fail) | fail))
      refine' obe_res (fun us a w hk hd hS => ?_) ?_; rotate_left; focus (have hk := Kn.vw hk (by repeat (first | exact VW.nil | apply VW.val rfl | apply VW.base rfl rfl | apply VW.res rfl | apply VW.upd rfl | apply VW.cpy rfl | apply VW.dep rfl | apply VW.fn rfl | apply VW.lnd rfl | apply VW.tak rfl)); exact v_bsT (xs := [((cutF k 20, x) : PrI)]) (m := 0) hk (hT := eT rfl) (hE := zT rfl) (hz := oT rfl))
      refine obe_nil ⟨rfl, ?_⟩; intro us a w hk hS
      simp only [resE] at hS
      (repeat' (first | (show wpListIn _ _ _ _ _ (_ :: _) _ _; first | (refine wx1 ?_; clear hk a; intro a hk) | (refine wx2 ?_ ?_ <;> (intro hp; clear hk a; intro a hk)) | (refine wx3 ?_; clear hk hS a; intro w b hS a hk) | (refine wx4 ?_; clear hk hS a; intro w hS a hk) | (refine wx5 ?_; clear hk hS a; intro w v hS a hk) | fail) | refine wx0 ?_ | (refine s_end hk ?_; clear hk a; intro a hk) | fail))
      rw [← hst] at hS
      exact ⟨hlt, _, hk.sd, hS.sb, by omega⟩
    · have hin : i = n := by omega
      subst hin
      (repeat' (first | (show wpListIn _ _ _ _ _ (_ :: _) _ _; first | (refine wx1 ?_; clear hk a; intro a hk) | (refine wx2 ?_ ?_ <;> (intro hp; clear hk a; intro a hk)) | (refine wx3 ?_; clear hk hS a; intro w b hS a hk) | (refine wx4 ?_; clear hk hS a; intro w hS a hk) | (refine wx5 ?_; clear hk hS a; intro w v hS a hk) | fail) | refine wx0 ?_ | (refine s_end hk ?_; clear hk a; intro a hk) | fail))
      exact done1 hk (h := hS)
  · have e : few04 l i = few04 l n := by simp only [few04]; rw [List.take_of_length_le (by omega), List.take_of_length_le (by omega)]
    rw [e] at hS
    (repeat' (first | (show wpListIn _ _ _ _ _ (_ :: _) _ _; first | (refine wx1 ?_; clear hk a; intro a hk) | (refine wx2 ?_ ?_ <;> (intro hp; clear hk a; intro a hk)) | (refine wx3 ?_; clear hk hS a; intro w b hS a hk) | (refine wx4 ?_; clear hk hS a; intro w hS a hk) | (refine wx5 ?_; clear hk hS a; intro w v hS a hk) | fail) | refine wx0 ?_ | (refine s_end hk ?_; clear hk a; intro a hk) | fail))
    exact done1 hk (h := hS)

set_option maxHeartbeats 1000000 in
theorem own04_any (l : List PrI) (v : Value) (w0 : World) (hv : SlT l v w0) (hl : l.length ≤ 1000) : Calls Tryz.prog 40 #[v] w0
    (Ret fun v w => St w0 [OwT 103 l v] w) := by
  refine enter Tryz.func40 rfl Tryz.ntmps40 rfl (fun a hk => ?_); have hS := St.refl w0
  (repeat' (first | (show wpListIn _ _ _ _ _ (_ :: _) _ _; first | (refine wx1 ?_; clear hk a; intro a hk) | (refine wx2 ?_ ?_ <;> (intro hp; clear hk a; intro a hk)) | (refine wx3 ?_; clear hk hS a; intro w b hS a hk) | (refine wx4 ?_; clear hk hS a; intro w hS a hk) | (refine wx5 ?_; clear hk hS a; intro w v hS a hk) | fail) | refine wx0 ?_ | (refine s_end hk ?_; clear hk a; intro a hk) | fail))
  replace hS := hS.nilT 103 PrI
  replace hk := Kn.kp [3, 6, 7, 8] hk
  refine wp_for l.length (fun i v => [(3, v), (8, .int .i64 (i : Int))]) (fun i v => [OwT 103 (l.take i) v]) (fun _ _ => True) (.slice none 0 0) hk (by repeat (first | exact trivial | refine ⟨rfl, ?_⟩)) hS.sb trivial ?_
  clear hk hS a
  rintro i vo a w hi hk hS -
  have htl : (l.take i).length ≤ i := by rw [List.length_take]; omega
  by_cases hil : i < l.length
  · obtain ⟨⟨k, x⟩, hx⟩ : ∃ x, l[i]? = some x := ⟨_, List.getElem?_eq_getElem hil⟩
    have hst : l.take (i + 1) = l.take i ++ [(k, x)] := take_snoc hx
    (repeat' (first | (show wpListIn _ _ _ _ _ (_ :: _) _ _; first | (refine wx1 ?_; clear hk a; intro a hk) | (refine wx2 ?_ ?_ <;> (intro hp; clear hk a; intro a hk)) | (refine wx3 ?_; clear hk hS a; intro w b hS a hk) | (refine wx4 ?_; clear hk hS a; intro w hS a hk) | (refine wx5 ?_; clear hk hS a; intro w v hS a hk) | fail) | refine wx0 ?_ | (refine s_end hk ?_; clear hk a; intro a hk) | fail))
    refine sg hk (g_bsT (xs := [((k, x) : PrI)]) (m := 0) hk hS ?_ (hT := eT rfl) (hE := zT rfl) (hz := oT rfl)); clear hk hS a; intro w ve hS a hk
    (repeat' (first | (show wpListIn _ _ _ _ _ (_ :: _) _ _; first | (refine wx1 ?_; clear hk a; intro a hk) | (refine wx2 ?_ ?_ <;> (intro hp; clear hk a; intro a hk)) | (refine wx3 ?_; clear hk hS a; intro w b hS a hk) | (refine wx4 ?_; clear hk hS a; intro w hS a hk) | (refine wx5 ?_; clear hk hS a; intro w v hS a hk) | fail) | refine wx0 ?_ | (refine s_end hk ?_; clear hk a; intro a hk) | fail))
    rw [← hst] at hS
    exact ⟨hil, _, hk.sd, hS.sb, trivial⟩
  · have : i = l.length := by omega
    subst this
    rw [List.take_length] at hS
    (repeat' (first | (show wpListIn _ _ _ _ _ (_ :: _) _ _; first | (refine wx1 ?_; clear hk a; intro a hk) | (refine wx2 ?_ ?_ <;> (intro hp; clear hk a; intro a hk)) | (refine wx3 ?_; clear hk hS a; intro w b hS a hk) | (refine wx4 ?_; clear hk hS a; intro w hS a hk) | (refine wx5 ?_; clear hk hS a; intro w v hS a hk) | fail) | refine wx0 ?_ | (refine s_end hk ?_; clear hk a; intro a hk) | fail))
    exact done1 hk (h := hS.sb)

end Go.Proofs.YtkcjkbnbblpomaaGreatDoor
namespace Go.Proofs.YtkcjkbnbblpomaaGreatDoor
open Go.RowKit
set_option maxRecDepth 100000
attribute [local irreducible] Go.Code.wpIn Go.wpListIn Go.Calls Gives Go.Exit.then Go.Exit.inBlock Done ObxE

section
variable {α β κ : Type} [DecidableEq κ] [Lin κ] {key : α → κ} {key' : β → κ} {f : α → β}
theorem putF_map : ∀ {s : List α} {e : α}, (∀ a ∈ s, key' (f a) = key a) → key' (f e) = key e → putF key' (s.map f) (f e) = (putF key s e).map f
  | [], e, _, _ => rfl
  | x :: s, e, hs, he => by
    have hx := hs x (by simp)
    have ih := putF_map (s := s) (e := e) (fun a h => hs a (by simp [h])) he
    simp only [List.map_cons, putF, hx, he]
    split
    · rfl
    · split
      · rfl
      · rw [ih]; rfl
theorem snapF_map (l : List α) (h : ∀ a ∈ l, key' (f a) = key a) : snapF key' (l.map f) = (snapF key l).map f := by
  suffices hh : ∀ n, n ≤ l.length → snapF key' ((l.take n).map f) = (snapF key (l.take n)).map f by
    have := hh l.length (Nat.le_refl _)
    rwa [List.take_length] at this
  intro n
  induction n with
  | zero => intro _; rfl
  | succ n ih =>
    intro hn
    have hx : l[n]? = some l[n] := List.getElem?_eq_getElem (by omega)
    rw [take_snoc hx, List.map_append, List.map_singleton, snap_snoc, snap_snoc, ih (by omega)]
    refine putF_map (fun a ha => h a ?_) (h _ (List.getElem_mem _))
    exact List.mem_of_mem_take (last_mem key ((snap_last key).1 ha))
end

def idxF (l : List PrS) (n : Nat) : List PrI := (List.range n).map (fun i : Nat => ((l[i]?.getD (⟨#[]⟩, ⟨#[]⟩)).1, (i : Int)))
theorem idxF_len (l : List PrS) (n : Nat) : (idxF l n).length = n := by simp [idxF]
theorem idxF_snoc {l : List PrS} {i : Nat} {x : PrS} (h : l[i]? = some x) : idxF l (i + 1) = idxF l i ++ [(x.1, (i : Int))] := by simp [idxF, List.range_succ, h]
def atI (l : List PrS) (p : PrI) : PrS := l[p.2.toNat]?.getD (⟨#[]⟩, ⟨#[]⟩)
theorem idxF_at (l : List PrS) {p : PrI} (h : p ∈ idxF l l.length) : ∃ i : Nat, ∃ x : PrS, p = (x.1, (i : Int)) ∧ l[i]? = some x := by
  simp only [idxF, List.mem_map, List.mem_range] at h
  obtain ⟨i, hi, rfl⟩ := h
  exact ⟨i, l[i], by rw [List.getElem?_eq_getElem hi]; rfl, List.getElem?_eq_getElem hi⟩
theorem idxF_snap (l : List PrS) : (snapF nmI (idxF l l.length)).map (atI l) = snapF nmS l := by
  have h := snapF_map (key := nmI) (key' := nmS) (f := atI l) (idxF l l.length) (fun p hp => by
    obtain ⟨i, x, rfl, hx⟩ := idxF_at l hp
    show (atI l (x.1, (i : Int))).1 = x.1
    simp [atI, hx])
  rw [← h]
  congr 1
  apply List.ext_getElem?
  intro j
  simp only [idxF, List.map_map, List.getElem?_map]
  rcases Nat.lt_or_ge j l.length with hj | hj
  · rw [List.getElem?_range hj]
    simp [atI, List.getElem?_eq_getElem hj]
  · rw [List.getElem?_eq_none (by simpa using hj), List.getElem?_eq_none hj]
    rfl

set_option maxHeartbeats 1000000 in
theorem attrs07_any (l : List PrS) (v : Value) (w0 : World) (hv : SlT l v w0) (hl : l.length ≤ 900) :
    Calls Tryz.prog 91 #[v] w0 (Ret fun v w => St w0 [OwT 97 (snapF nmS l) v] w) := by
  have hsn := idxF_snap l
  have hsl := snap_len nmI (idxF l l.length)
  rw [idxF_len] at hsl
  have hmem : ∀ p ∈ snapF nmI (idxF l l.length), ∃ i : Nat, ∃ x : PrS, p = (x.1, (i : Int)) ∧ l[i]? = some x := fun p hp => idxF_at l (last_mem nmI ((snap_last nmI).1 hp))
  refine enter Tryz.func91 rfl Tryz.ntmps91 rfl (fun a hk => ?_); have hS := St.refl w0
  (repeat' (first | (show wpListIn _ _ _ _ _ (_ :: _) _ _; first | (refine wx1 ?_; clear hk a; intro a hk) | (refine wx2 ?_ ?_ <;> (intro hp; clear hk a; intro a hk)) | (refine wx3 ?_; clear hk hS a; intro w b hS a hk) | (refine wx4 ?_; clear hk hS a; intro w hS a hk) | (refine wx5 ?_; clear hk hS a; intro w v hS a hk) | fail) | refine wx0 ?_ | (refine s_end hk ?_; clear hk a; intro a hk) | fail))
  refine sg hk (g_bs0 PrI hS ?_ (hT := eT rfl) (hE := zT rfl)); clear hk hS a; intro w v3 hS a hk
  (repeat' (first | (show wpListIn _ _ _ _ _ (_ :: _) _ _; first | (refine wx1 ?_; clear hk a; intro a hk) | (refine wx2 ?_ ?_ <;> (intro hp; clear hk a; intro a hk)) | (refine wx3 ?_; clear hk hS a; intro w b hS a hk) | (refine wx4 ?_; clear hk hS a; intro w hS a hk) | (refine wx5 ?_; clear hk hS a; intro w v hS a hk) | fail) | refine wx0 ?_ | (refine s_end hk ?_; clear hk a; intro a hk) | fail))
  replace hk := Kn.kp [0, 3, 10, 11, 12] hk
  refine wp_for l.length (fun i v => [(3, v), (12, .int .i64 (i : Int))]) (fun i v => [OwT 105 (idxF l i) v]) (fun _ _ => True) v3 hk (by repeat (first | exact trivial | refine ⟨rfl, ?_⟩)) hS.sb trivial ?_
  clear hk hS a
  rintro i vo a w hi hk hS -
  have hil' := idxF_len l i
  by_cases hil : i < l.length
  · obtain ⟨⟨key, val⟩, hx⟩ : ∃ x, l[i]? = some x := ⟨_, List.getElem?_eq_getElem hil⟩
    have hst := idxF_snoc hx
    (repeat' (first | (show wpListIn _ _ _ _ _ (_ :: _) _ _; first | (refine wx1 ?_; clear hk a; intro a hk) | (refine wx2 ?_ ?_ <;> (intro hp; clear hk a; intro a hk)) | (refine wx3 ?_; clear hk hS a; intro w b hS a hk) | (refine wx4 ?_; clear hk hS a; intro w hS a hk) | (refine wx5 ?_; clear hk hS a; intro w v hS a hk) | fail) | refine wx0 ?_ | (refine s_end hk ?_; clear hk a; intro a hk) | fail))
    refine sg hk (g_bsT (xs := [((key, (i : Int)) : PrI)]) (m := 0) hk hS ?_ (hT := eT rfl) (hE := zT rfl) (hz := oT rfl)); clear hk hS a; intro w ve hS a hk
    (repeat' (first | (show wpListIn _ _ _ _ _ (_ :: _) _ _; first | (refine wx1 ?_; clear hk a; intro a hk) | (refine wx2 ?_ ?_ <;> (intro hp; clear hk a; intro a hk)) | (refine wx3 ?_; clear hk hS a; intro w b hS a hk) | (refine wx4 ?_; clear hk hS a; intro w hS a hk) | (refine wx5 ?_; clear hk hS a; intro w v hS a hk) | fail) | refine wx0 ?_ | (refine s_end hk ?_; clear hk a; intro a hk) | fail))
    rw [← hst] at hS
    exact ⟨hil, _, hk.sd, hS.sb, trivial⟩
  · have : i = l.length := by omega
    subst this
    clear hil'
    (repeat' (first | (show wpListIn _ _ _ _ _ (_ :: _) _ _; first | (refine wx1 ?_; clear hk a; intro a hk) | (refine wx2 ?_ ?_ <;> (intro hp; clear hk a; intro a hk)) | (refine wx3 ?_; clear hk hS a; intro w b hS a hk) | (refine wx4 ?_; clear hk hS a; intro w hS a hk) | (refine wx5 ?_; clear hk hS a; intro w v hS a hk) | fail) | refine wx0 ?_ | (refine s_end hk ?_; clear hk a; intro a hk) | fail))
    refine sg hk (g_bs0 PrS hS ?_ (hT := eT rfl) (hE := zT rfl)); clear hk hS a; intro w v6 hS a hk
    (repeat' (first | (show wpListIn _ _ _ _ _ (_ :: _) _ _; first | (refine wx1 ?_; clear hk a; intro a hk) | (refine wx2 ?_ ?_ <;> (intro hp; clear hk a; intro a hk)) | (refine wx3 ?_; clear hk hS a; intro w b hS a hk) | (refine wx4 ?_; clear hk hS a; intro w hS a hk) | (refine wx5 ?_; clear hk hS a; intro w v hS a hk) | fail) | refine wx0 ?_ | (refine s_end hk ?_; clear hk a; intro a hk) | fail))
    refine sg hk (g_callO hk (hf := by kernel_rfl) (hc := refOf_any (idxF l l.length) vo _ (by first | exact St.rdT hS (by assumption) | exact OwT.rd (hS.rd (A := OwT _ _ _) (by (repeat (first | exact At.here | apply At.there)))) | assumption) (by rw [idxF_len]; omega)) (h := ?_)); clear hk a; rintro vs w hS1 a hk; replace hS := hS.call hS1; clear hS1
    rw [List.cons_append, List.nil_append] at hS
    generalize snapF nmI (idxF l l.length) = S at *
    (repeat' (first | (show wpListIn _ _ _ _ _ (_ :: _) _ _; first | (refine wx1 ?_; clear hk a; intro a hk) | (refine wx2 ?_ ?_ <;> (intro hp; clear hk a; intro a hk)) | (refine wx3 ?_; clear hk hS a; intro w b hS a hk) | (refine wx4 ?_; clear hk hS a; intro w hS a hk) | (refine wx5 ?_; clear hk hS a; intro w v hS a hk) | fail) | refine wx0 ?_ | (refine s_end hk ?_; clear hk a; intro a hk) | fail))
    replace hk := Kn.kp [0, 6, 27, 28, 29] hk
    refine wp_for S.length (fun i v => [(6, v), (29, .int .i64 (i : Int))]) (fun i v => [OwT 97 ((S.take i).map (atI l)) v, OwT 105 S vs]) (fun _ _ => True) v6 hk (by repeat (first | exact trivial | refine ⟨rfl, ?_⟩)) hS.sb trivial ?_
    clear hk hS a
    rintro j vp a w hj hk hS -
    have htl : ((S.take j).map (atI l)).length ≤ j := by rw [List.length_map, List.length_take]; omega
    by_cases hjl : j < S.length
    · obtain ⟨q, x, hq, hx⟩ := hmem (S[j]'hjl) (List.getElem_mem hjl)
      have hs : S[j]? = some (x.1, (q : Int)) := by rw [List.getElem?_eq_getElem hjl, hq]
      have hst : (S.take (j + 1)).map (atI l) = (S.take j).map (atI l) ++ [x] := by rw [take_snoc hs, List.map_append, List.map_singleton]; simp [atI, hx]
      obtain ⟨key, val⟩ := x
      have hql : q < l.length := by
        rcases Nat.lt_or_ge q l.length with h | h
        · exact h
        · rw [List.getElem?_eq_none h] at hx; cases hx
      (repeat' (first | (show wpListIn _ _ _ _ _ (_ :: _) _ _; first | (refine wx1 ?_; clear hk a; intro a hk) | (refine wx2 ?_ ?_ <;> (intro hp; clear hk a; intro a hk)) | (refine wx3 ?_; clear hk hS a; intro w b hS a hk) | (refine wx4 ?_; clear hk hS a; intro w hS a hk) | (refine wx5 ?_; clear hk hS a; intro w v hS a hk) | fail) | refine wx0 ?_ | (refine s_end hk ?_; clear hk a; intro a hk) | fail))
      refine sg hk (g_bsT (xs := [((key, val) : PrS)]) (m := 0) hk hS ?_ (hT := eT rfl) (hE := zT rfl) (hz := oT rfl)); clear hk hS a; intro w ve hS a hk
      (repeat' (first | (show wpListIn _ _ _ _ _ (_ :: _) _ _; first | (refine wx1 ?_; clear hk a; intro a hk) | (refine wx2 ?_ ?_ <;> (intro hp; clear hk a; intro a hk)) | (refine wx3 ?_; clear hk hS a; intro w b hS a hk) | (refine wx4 ?_; clear hk hS a; intro w hS a hk) | (refine wx5 ?_; clear hk hS a; intro w v hS a hk) | fail) | refine wx0 ?_ | (refine s_end hk ?_; clear hk a; intro a hk) | fail))
      rw [← hst] at hS
      exact ⟨hjl, _, hk.sd, hS.sb, trivial⟩
    · have : j = S.length := by omega
      subst this
      rw [List.take_length, hsn] at hS
      (repeat' (first | (show wpListIn _ _ _ _ _ (_ :: _) _ _; first | (refine wx1 ?_; clear hk a; intro a hk) | (refine wx2 ?_ ?_ <;> (intro hp; clear hk a; intro a hk)) | (refine wx3 ?_; clear hk hS a; intro w b hS a hk) | (refine wx4 ?_; clear hk hS a; intro w hS a hk) | (refine wx5 ?_; clear hk hS a; intro w v hS a hk) | fail) | refine wx0 ?_ | (refine s_end hk ?_; clear hk a; intro a hk) | fail))
      exact done1 hk (h := hS.sb)
end Go.Proofs.YtkcjkbnbblpomaaGreatDoor
