import Derived.Test.YtkcjkbnbblpomaaV09
import Derived.Test.YtkcjkbnbblpomaaV12
import Derived.Test.YtkcjkbnbblpomaaV10
import Derived.RangeFuncRecord
import Derived.Lib.SliceRun
import Derived.WalkSpells
namespace Go.Proofs.Ytkcjkbnbblpomaa
open Go.RowKit
set_option maxRecDepth 100000
attribute [local irreducible] Go.Code.wpIn Go.wpListIn Go.Calls Gives Go.Exit.then Go.Exit.inBlock Done ObxE

def cutF (s : ByteArray) (n : Nat) : ByteArray := if n < s.size then s.extract 0 n else s

theorem cut_any (s : ByteArray) (n : Nat) (w0 : World) : Calls Try.prog 46 #[.string s, .int .i64 (n : Int)] w0 (Ret fun v w => v = .string (cutF s n) ∧ St w0 [] w) := by
  refine enter Try.func46 rfl Try.ntmps46 rfl (fun a hk => ?_); have hS := St.refl w0
  by_cases hn : n < s.size
  · have hn' : (n : Int) < (s.size : Int) := by omega
    (repeat' (first | (show wpListIn _ _ _ _ _ (_ :: _) _ _; first | (refine wx1 ?_; clear hk a; intro a hk) | (refine wx2 ?_ ?_ <;> (intro hp; clear hk a; intro a hk)) | (refine wx3 ?_; clear hk hS a; intro w b hS a hk) | (refine wx4 ?_; clear hk hS a; intro w hS a hk) | (refine wx5 ?_; clear hk hS a; intro w v hS a hk) | fail) | refine wx0 ?_ | (refine s_end hk ?_; clear hk a; intro a hk) | fail))
    exact done1 hk (h := ⟨by rw [cutF, if_pos hn]; rfl, hS.nil⟩)
  · have hn' : ¬ (n : Int) < (s.size : Int) := by omega
    (repeat' (first | (show wpListIn _ _ _ _ _ (_ :: _) _ _; first | (refine wx1 ?_; clear hk a; intro a hk) | (refine wx2 ?_ ?_ <;> (intro hp; clear hk a; intro a hk)) | (refine wx3 ?_; clear hk hS a; intro w b hS a hk) | (refine wx4 ?_; clear hk hS a; intro w hS a hk) | (refine wx5 ?_; clear hk hS a; intro w v hS a hk) | fail) | refine wx0 ?_ | (refine s_end hk ?_; clear hk a; intro a hk) | fail))
    exact done1 hk (h := ⟨by rw [cutF, if_neg hn], hS.nil⟩)
end Go.Proofs.Ytkcjkbnbblpomaa
namespace Go.Proofs.Ytkcjkbnbblpomaa
open Go.RowKit
set_option maxRecDepth 100000
attribute [local irreducible] Go.Code.wpIn Go.wpListIn Go.Calls Gives Go.Exit.then Go.Exit.inBlock Done ObxE

theorem getLast_take {β : Type} {S : List β} {k : Nat} (h : k + 1 ≤ S.length) : (S.take (k + 1)).getLast? = some (S[k]'(by omega)) := by
  rw [List.getLast?_eq_getElem?, List.length_take, Nat.min_eq_left h, List.getElem?_take, if_pos (by omega), List.getElem?_eq_getElem (by omega)]
  simp

set_option maxHeartbeats 4000000 in
theorem refOf_any (l : List PrI) (v : Value) (w0 : World) (hv : SlT l v w0) (hl : l.length ≤ 1000) :
    Calls Try.prog 29 #[v] w0 (Ret fun v w => St w0 [OwT 71 (snapF nmI l) v] w) := by
  have hsl := snap_len nmI l
  have hmn := fun k hk => minE_next nmI l k hk
  generalize snapF nmI l = S at *
  refine enter Try.func29 rfl Try.ntmps29 rfl (fun a hk => ?_); have hS := St.refl w0
  (repeat' (first | (show wpListIn _ _ _ _ _ (_ :: _) _ _; first | (refine wx1 ?_; clear hk a; intro a hk) | (refine wx2 ?_ ?_ <;> (intro hp; clear hk a; intro a hk)) | (refine wx3 ?_; clear hk hS a; intro w b hS a hk) | (refine wx4 ?_; clear hk hS a; intro w hS a hk) | (refine wx5 ?_; clear hk hS a; intro w v hS a hk) | fail) | refine wx0 ?_ | (refine s_end hk ?_; clear hk a; intro a hk) | fail))
  refine sg hk (g_bs0 PrI hS ?_ (hT := eT rfl) (hE := zT rfl)); clear hk hS a; intro w v2 hS a hk
  (repeat' (first | (show wpListIn _ _ _ _ _ (_ :: _) _ _; first | (refine wx1 ?_; clear hk a; intro a hk) | (refine wx2 ?_ ?_ <;> (intro hp; clear hk a; intro a hk)) | (refine wx3 ?_; clear hk hS a; intro w b hS a hk) | (refine wx4 ?_; clear hk hS a; intro w hS a hk) | (refine wx5 ?_; clear hk hS a; intro w v hS a hk) | fail) | refine wx0 ?_ | (refine s_end hk ?_; clear hk a; intro a hk) | fail))
  replace hk := Kn.kp [0, 3] hk
  refine wp_for S.length (fun _ v => [(3, v)]) (fun k v => [OwT 71 (S.take k) v]) (fun _ _ => True) v2 hk (by repeat (first | exact trivial | refine ⟨rfl, ?_⟩)) hS trivial ?_
  clear hk hS a
  rintro k vo a w hk1 hk hS -
  have hkl : (S.take k).length = k := by rw [List.length_take]; omega
  have hm1 := hmn k hk1
  (repeat' (first | (show wpListIn _ _ _ _ _ (_ :: _) _ _; first | (refine wx1 ?_; clear hk a; intro a hk) | (refine wx2 ?_ ?_ <;> (intro hp; clear hk a; intro a hk)) | (refine wx3 ?_; clear hk hS a; intro w b hS a hk) | (refine wx4 ?_; clear hk hS a; intro w hS a hk) | (refine wx5 ?_; clear hk hS a; intro w v hS a hk) | fail) | refine wx0 ?_ | (refine s_end hk ?_; clear hk a; intro a hk) | fail))
  replace hk := Kn.kp [0, 3, 4, 5, 11, 12, 13] hk
  refine wp_for l.length (fun i _ => [(4, .bool (minE nmI (l.take i) ((S.take k).getLast?.map nmI)).isSome), (13, .int .i64 (i : Int))]) (fun i _ => [pts b (Enc.f ((minE nmI (l.take i) ((S.take k).getLast?.map nmI)).getD (⟨#[]⟩, 0))) 71, OwT 71 (S.take k) vo]) (fun _ _ => True) () hk (by repeat (first | exact trivial | refine ⟨rfl, ?_⟩)) hS.sb trivial ?_
  clear hk hS a
  rintro i - a w hi hk hS -
  by_cases hil : i < l.length
  · obtain ⟨⟨id, X⟩, hx⟩ : ∃ x, l[i]? = some x := ⟨_, List.getElem?_eq_getElem hil⟩
    have hm' : minE nmI (l.take (i + 1)) ((S.take k).getLast?.map nmI) = minStepE nmI ((S.take k).getLast?.map nmI) (minE nmI (l.take i) ((S.take k).getLast?.map nmI)) (id, X) := by rw [take_snoc hx, minE_snoc]
    have hA : (S.take k).getLast?.map nmI = none ∧ k = 0 ∨ ∃ h : k - 1 < S.length, 0 < k ∧ (S.take k).getLast?.map nmI = some S[k - 1].1 := by
      by_cases hk0 : k = 0
      · subst hk0; exact .inl ⟨rfl, rfl⟩
      · refine .inr ⟨by omega, by omega, ?_⟩
        obtain ⟨k', rfl⟩ : ∃ k', k = k' + 1 := ⟨k - 1, by omega⟩
        rw [getLast_take hk1]
        rfl
    generalize minE nmI (l.take (i + 1)) ((S.take k).getLast?.map nmI) = m' at hm' ⊢
    generalize minE nmI (l.take i) ((S.take k).getLast?.map nmI) = m at hm' hk hS
    generalize (S.take k).getLast?.map nmI = A at hm' hA
    rcases hA with ⟨rfl, hk0⟩ | ⟨hkS, hkp, rfl⟩
    · rcases m with _ | ⟨qn, qx⟩
      · have e : m' = some (id, X) := by rw [hm']; rfl
        subst e
        simp only [Option.isSome_none, Option.getD_none] at hk hS
        (repeat' (first | (show wpListIn _ _ _ _ _ (_ :: _) _ _; first | (refine wx1 ?_; clear hk a; intro a hk) | (refine wx2 ?_ ?_ <;> (intro hp; clear hk a; intro a hk)) | (refine wx3 ?_; clear hk hS a; intro w b hS a hk) | (refine wx4 ?_; clear hk hS a; intro w hS a hk) | (refine wx5 ?_; clear hk hS a; intro w v hS a hk) | fail) | refine wx0 ?_ | (refine s_end hk ?_; clear hk a; intro a hk) | fail))
        refine wp_drawn 13 mixed (by kernel_rfl) hk hS ?_; clear hk hS a
        (repeat' (first | (show ObxE _ _ _ _ _ _ _ _ _ (_ :: _) _ _ _; first | refine ox1 ?_ | (refine ox2 ?_ ?_ <;> intro hp) | fail) | fail))
        refine obe_nil ⟨rfl, ?_⟩; intro us a w hk hS
        (repeat' (first | (show wpListIn _ _ _ _ _ (_ :: _) _ _; first | (refine wx1 ?_; clear hk a; intro a hk) | (refine wx2 ?_ ?_ <;> (intro hp; clear hk a; intro a hk)) | (refine wx3 ?_; clear hk hS a; intro w b hS a hk) | (refine wx4 ?_; clear hk hS a; intro w hS a hk) | (refine wx5 ?_; clear hk hS a; intro w v hS a hk) | fail) | refine wx0 ?_ | (refine s_end hk ?_; clear hk a; intro a hk) | fail))
        exact ⟨hil, (), hk.sd, hS.sb, trivial⟩
      · simp only [Option.isSome_some, Option.getD_some] at hk hS
        (repeat' (first | (show wpListIn _ _ _ _ _ (_ :: _) _ _; first | (refine wx1 ?_; clear hk a; intro a hk) | (refine wx2 ?_ ?_ <;> (intro hp; clear hk a; intro a hk)) | (refine wx3 ?_; clear hk hS a; intro w b hS a hk) | (refine wx4 ?_; clear hk hS a; intro w hS a hk) | (refine wx5 ?_; clear hk hS a; intro w v hS a hk) | fail) | refine wx0 ?_ | (refine s_end hk ?_; clear hk a; intro a hk) | fail))
        refine wp_drawn 13 mixed (by kernel_rfl) hk hS ?_; clear hk hS a
        (repeat' (first | (show ObxE _ _ _ _ _ _ _ _ _ (_ :: _) _ _ _; first | refine ox1 ?_ | (refine ox2 ?_ ?_ <;> intro hp) | fail) | fail))
        refine obe_nil ⟨rfl, ?_⟩; intro us a w hk hS
        (repeat' (first | (show wpListIn _ _ _ _ _ (_ :: _) _ _; first | (refine wx1 ?_; clear hk a; intro a hk) | (refine wx2 ?_ ?_ <;> (intro hp; clear hk a; intro a hk)) | (refine wx3 ?_; clear hk hS a; intro w b hS a hk) | (refine wx4 ?_; clear hk hS a; intro w hS a hk) | (refine wx5 ?_; clear hk hS a; intro w v hS a hk) | fail) | refine wx0 ?_ | (refine s_end hk ?_; clear hk a; intro a hk) | fail))
        · have h1 : (!Lin.lt qn id) = true := by assumption
          have e : m' = some (id, X) := by rw [hm']; simp at h1; simp [minStepE, aheadB, h1]
          subst e
          exact ⟨hil, (), hk.sd, hS.sb, trivial⟩
        · have h1 : (!Lin.lt qn id) = false := by assumption
          have e : m' = some (qn, qx) := by rw [hm']; simp at h1; simp [minStepE, aheadB, h1]
          subst e
          exact ⟨hil, (), hk.sd, hS.sb, trivial⟩
    · have hga : ∀ h, ((S.take k)[(((S.take k).length : Int) - 1).toNat]'h).1 = S[k - 1].1 := by
        intro h
        rw [List.getElem_take]
        congr 2
        omega
      rcases m with _ | ⟨qn, qx⟩
      · simp only [Option.isSome_none, Option.getD_none] at hk hS
        (repeat' (first | (show wpListIn _ _ _ _ _ (_ :: _) _ _; first | (refine wx1 ?_; clear hk a; intro a hk) | (refine wx2 ?_ ?_ <;> (intro hp; clear hk a; intro a hk)) | (refine wx3 ?_; clear hk hS a; intro w b hS a hk) | (refine wx4 ?_; clear hk hS a; intro w hS a hk) | (refine wx5 ?_; clear hk hS a; intro w v hS a hk) | fail) | refine wx0 ?_ | (refine s_end hk ?_; clear hk a; intro a hk) | fail))
        refine wp_drawn 13 mixed (by kernel_rfl) hk hS ?_; clear hk hS a
        (repeat' (first | (show ObxE _ _ _ _ _ _ _ _ _ (_ :: _) _ _ _; first | refine ox1 ?_ | (refine ox2 ?_ ?_ <;> intro hp) | fail) | fail))
        refine obe_nil ⟨rfl, ?_⟩; intro us a w hk hS
        (repeat' (first | (show wpListIn _ _ _ _ _ (_ :: _) _ _; first | (refine wx1 ?_; clear hk a; intro a hk) | (refine wx2 ?_ ?_ <;> (intro hp; clear hk a; intro a hk)) | (refine wx3 ?_; clear hk hS a; intro w b hS a hk) | (refine wx4 ?_; clear hk hS a; intro w hS a hk) | (refine wx5 ?_; clear hk hS a; intro w v hS a hk) | fail) | refine wx0 ?_ | (refine s_end hk ?_; clear hk a; intro a hk) | fail))
        · have h1 : Lin.lt S[k - 1].1 id = true := by rw [← hga (by omega)]; assumption
          have e : m' = some (id, X) := by rw [hm']; simp [minStepE, aheadB, h1]
          subst e
          exact ⟨hil, (), hk.sd, hS.sb, trivial⟩
        · have h1 : Lin.lt S[k - 1].1 id = false := by rw [← hga (by omega)]; assumption
          have e : m' = none := by rw [hm']; simp [minStepE, aheadB, h1]
          subst e
          exact ⟨hil, (), hk.sd, hS.sb, trivial⟩
      · simp only [Option.isSome_some, Option.getD_some] at hk hS
        (repeat' (first | (show wpListIn _ _ _ _ _ (_ :: _) _ _; first | (refine wx1 ?_; clear hk a; intro a hk) | (refine wx2 ?_ ?_ <;> (intro hp; clear hk a; intro a hk)) | (refine wx3 ?_; clear hk hS a; intro w b hS a hk) | (refine wx4 ?_; clear hk hS a; intro w hS a hk) | (refine wx5 ?_; clear hk hS a; intro w v hS a hk) | fail) | refine wx0 ?_ | (refine s_end hk ?_; clear hk a; intro a hk) | fail))
        refine wp_drawn 13 mixed (by kernel_rfl) hk hS ?_; clear hk hS a
        (repeat' (first | (show ObxE _ _ _ _ _ _ _ _ _ (_ :: _) _ _ _; first | refine ox1 ?_ | (refine ox2 ?_ ?_ <;> intro hp) | fail) | fail))
        refine obe_nil ⟨rfl, ?_⟩; intro us a w hk hS
        (repeat' (first | (show wpListIn _ _ _ _ _ (_ :: _) _ _; first | (refine wx1 ?_; clear hk a; intro a hk) | (refine wx2 ?_ ?_ <;> (intro hp; clear hk a; intro a hk)) | (refine wx3 ?_; clear hk hS a; intro w b hS a hk) | (refine wx4 ?_; clear hk hS a; intro w hS a hk) | (refine wx5 ?_; clear hk hS a; intro w v hS a hk) | fail) | refine wx0 ?_ | (refine s_end hk ?_; clear hk a; intro a hk) | fail))
        · have h1 : Lin.lt S[k - 1].1 id = true := by rw [← hga (by omega)]; assumption
          have h2 : (!Lin.lt qn id) = true := by assumption
          have e : m' = some (id, X) := by rw [hm']; simp at h2; simp [minStepE, aheadB, h1, h2]
          subst e
          exact ⟨hil, (), hk.sd, hS.sb, trivial⟩
        · have h1 : Lin.lt S[k - 1].1 id = true := by rw [← hga (by omega)]; assumption
          have h2 : (!Lin.lt qn id) = false := by assumption
          have e : m' = some (qn, qx) := by rw [hm']; simp at h2; simp [minStepE, aheadB, h1, h2]
          subst e
          exact ⟨hil, (), hk.sd, hS.sb, trivial⟩
        · have h1 : Lin.lt S[k - 1].1 id = false := by rw [← hga (by omega)]; assumption
          have e : m' = some (qn, qx) := by rw [hm']; simp [minStepE, aheadB, h1]
          subst e
          exact ⟨hil, (), hk.sd, hS.sb, trivial⟩
  · have : i = l.length := by omega
    subst this
    rw [List.take_length, hm1] at hk hS
    by_cases hkS : k < S.length
    · obtain ⟨⟨i2, X2⟩, hSk⟩ : ∃ e, S[k]? = some e := ⟨_, List.getElem?_eq_getElem hkS⟩
      rw [hSk] at hk hS
      simp only [Option.isSome_some, Option.getD_some] at hk hS
      (repeat' (first | (show wpListIn _ _ _ _ _ (_ :: _) _ _; first | (refine wx1 ?_; clear hk a; intro a hk) | (refine wx2 ?_ ?_ <;> (intro hp; clear hk a; intro a hk)) | (refine wx3 ?_; clear hk hS a; intro w b hS a hk) | (refine wx4 ?_; clear hk hS a; intro w hS a hk) | (refine wx5 ?_; clear hk hS a; intro w v hS a hk) | fail) | refine wx0 ?_ | (refine s_end hk ?_; clear hk a; intro a hk) | fail))
      refine sg hk (g_bsT (xs := [((i2, X2) : PrI)]) (m := 0) hk hS ?_ (hT := eT rfl) (hE := zT rfl) (hz := oT rfl)); clear hk hS a; intro w ve hS a hk
      (repeat' (first | (show wpListIn _ _ _ _ _ (_ :: _) _ _; first | (refine wx1 ?_; clear hk a; intro a hk) | (refine wx2 ?_ ?_ <;> (intro hp; clear hk a; intro a hk)) | (refine wx3 ?_; clear hk hS a; intro w b hS a hk) | (refine wx4 ?_; clear hk hS a; intro w hS a hk) | (refine wx5 ?_; clear hk hS a; intro w v hS a hk) | fail) | refine wx0 ?_ | (refine s_end hk ?_; clear hk a; intro a hk) | fail))
      have hst : S.take (k + 1) = S.take k ++ [(i2, X2)] := take_snoc hSk
      rw [← hst] at hS
      exact ⟨hkS, _, hk.sd, hS.sb, trivial⟩
    · have : k = S.length := by omega
      subst this
      rw [List.getElem?_eq_none (Nat.le_refl _)] at hk hS
      rw [List.take_length] at hS
      simp only [Option.isSome_none] at hk
      (repeat' (first | (show wpListIn _ _ _ _ _ (_ :: _) _ _; first | (refine wx1 ?_; clear hk a; intro a hk) | (refine wx2 ?_ ?_ <;> (intro hp; clear hk a; intro a hk)) | (refine wx3 ?_; clear hk hS a; intro w b hS a hk) | (refine wx4 ?_; clear hk hS a; intro w hS a hk) | (refine wx5 ?_; clear hk hS a; intro w v hS a hk) | fail) | refine wx0 ?_ | (refine s_end hk ?_; clear hk a; intro a hk) | fail))
      exact done1 hk (h := hS.sb)

def few04 (l : List PrI) (n : Nat) : List PrI := (l.take n).map (fun p => (cutF p.1 20, p.2))
theorem few04_len (l : List PrI) (n : Nat) : (few04 l n).length = min n l.length := by simp [few04]
theorem few04_snoc {l : List PrI} {i : Nat} {x : PrI} (h : l[i]? = some x) : few04 l (i + 1) = few04 l i ++ [(cutF x.1 20, x.2)] := by simp [few04, take_snoc h]

set_option maxHeartbeats 1000000 in
theorem few04_any (l : List PrI) (n : Nat) (hn : n ≤ 1000) (v : Value) (w0 : World) (hv : SlT l v w0) : Calls Try.prog 48 #[v, .int .i64 (n : Int)] w0
    (Ret fun v w => St w0 [OwT 71 (few04 l n) v] w) := by
  refine enter Try.func48 rfl Try.ntmps48 rfl (fun a hk => ?_); have hS := St.refl w0
  (repeat' (first | (show wpListIn _ _ _ _ _ (_ :: _) _ _; first | (refine wx1 ?_; clear hk a; intro a hk) | (refine wx2 ?_ ?_ <;> (intro hp; clear hk a; intro a hk)) | (refine wx3 ?_; clear hk hS a; intro w b hS a hk) | (refine wx4 ?_; clear hk hS a; intro w hS a hk) | (refine wx5 ?_; clear hk hS a; intro w v hS a hk) | fail) | refine wx0 ?_ | (refine s_end hk ?_; clear hk a; intro a hk) | fail))
  replace hS := hS.nilT 71 PrI
  replace hk := Kn.kp [0, 1, 5, 6] hk
  refine wp_for n (fun i v => [(5, v), (6, .int .i64 (i : Int))]) (fun i v => [OwT 71 (few04 l i) v]) (fun i _ => i ≤ l.length) (.slice none 0 0) hk (by repeat (first | exact trivial | refine ⟨rfl, ?_⟩)) hS (by omega) ?_
  clear hk hS a
  rintro i vo a w hi hk hS hF
  have hm : l.length ≤ maxLen := hv.len_le
  simp only [maxLen] at hm
  have hlen := few04_len l i
  by_cases hll : i < l.length
  · by_cases hlt : i < n
    · obtain ⟨⟨k, x⟩, hx⟩ : ∃ x, l[i]? = some x := ⟨_, List.getElem?_eq_getElem hll⟩
      have hst := few04_snoc hx
      (repeat' (first | (show wpListIn _ _ _ _ _ (_ :: _) _ _; first | (refine wx1 ?_; clear hk a; intro a hk) | (refine wx2 ?_ ?_ <;> (intro hp; clear hk a; intro a hk)) | (refine wx3 ?_; clear hk hS a; intro w b hS a hk) | (refine wx4 ?_; clear hk hS a; intro w hS a hk) | (refine wx5 ?_; clear hk hS a; intro w v hS a hk) | fail) | refine wx0 ?_ | (refine s_end hk ?_; clear hk a; intro a hk) | fail))
      refine wp_drawn 14 mixed (by kernel_rfl) hk hS ?_; clear hk hS a
      (repeat' (first | (show ObxE _ _ _ _ _ _ _ _ _ (_ :: _) _ _ _; first | refine ox1 ?_ | (refine ox2 ?_ ?_ <;> intro hp) | fail) | fail))
      refine' obe_val (fun us a w hk hd hS => ?_) ?_; rotate_left; focus (have hk := Kn.vw hk (by repeat (first | exact VW.nil | apply VW.val rfl | apply VW.base rfl rfl | apply VW.res rfl | apply VW.upd rfl | apply VW.cpy rfl | apply VW.dep rfl | apply VW.fn rfl | apply VW.lnd rfl | apply VW.tak rfl)); exact g_callO hk (hf := by kernel_rfl) (hc := cut_any _ 20 _) (h := fun _ _ h => h))
      (repeat' (first | (show ObxE _ _ _ _ _ _ _ _ _ (_ :: _) _ _ _; first | refine ox1 ?_ | (refine ox2 ?_ ?_ <;> intro hp) | fail) | fail))
      refine' obe_res (fun us a w hk hd hS => ?_) ?_; rotate_left; focus (have hk := Kn.vw hk (by repeat (first | exact VW.nil | apply VW.val rfl | apply VW.base rfl rfl | apply VW.res rfl | apply VW.upd rfl | apply VW.cpy rfl | apply VW.dep rfl | apply VW.fn rfl | apply VW.lnd rfl | apply VW.tak rfl)); exact v_bsT (xs := [((cutF k 20, x) : PrI)]) (m := 0) hk (hT := eT rfl) (hE := zT rfl) (hz := oT rfl))
      refine obe_nil ⟨rfl, ?_⟩; intro us a w hk hS
      simp only [resE] at hS
      (repeat' (first | (show wpListIn _ _ _ _ _ (_ :: _) _ _; first | (refine wx1 ?_; clear hk a; intro a hk) | (refine wx2 ?_ ?_ <;> (intro hp; clear hk a; intro a hk)) | (refine wx3 ?_; clear hk hS a; intro w b hS a hk) | (refine wx4 ?_; clear hk hS a; intro w hS a hk) | (refine wx5 ?_; clear hk hS a; intro w v hS a hk) | fail) | refine wx0 ?_ | (refine s_end hk ?_; clear hk a; intro a hk) | fail))
      rw [← hst] at hS
      exact ⟨hlt, _, hk.sd, hS.sb, by omega⟩
    · have hin : i = n := by omega
      subst hin
      (repeat' (first | (show wpListIn _ _ _ _ _ (_ :: _) _ _; first | (refine wx1 ?_; clear hk a; intro a hk) | (refine wx2 ?_ ?_ <;> (intro hp; clear hk a; intro a hk)) | (refine wx3 ?_; clear hk hS a; intro w b hS a hk) | (refine wx4 ?_; clear hk hS a; intro w hS a hk) | (refine wx5 ?_; clear hk hS a; intro w v hS a hk) | fail) | refine wx0 ?_ | (refine s_end hk ?_; clear hk a; intro a hk) | fail))
      exact done1 hk (h := hS)
  · have e : few04 l i = few04 l n := by simp only [few04]; rw [List.take_of_length_le (by omega), List.take_of_length_le (by omega)]
    rw [e] at hS
    (repeat' (first | (show wpListIn _ _ _ _ _ (_ :: _) _ _; first | (refine wx1 ?_; clear hk a; intro a hk) | (refine wx2 ?_ ?_ <;> (intro hp; clear hk a; intro a hk)) | (refine wx3 ?_; clear hk hS a; intro w b hS a hk) | (refine wx4 ?_; clear hk hS a; intro w hS a hk) | (refine wx5 ?_; clear hk hS a; intro w v hS a hk) | fail) | refine wx0 ?_ | (refine s_end hk ?_; clear hk a; intro a hk) | fail))
    exact done1 hk (h := hS)

set_option maxHeartbeats 1000000 in
theorem own04_any (l : List PrI) (v : Value) (w0 : World) (hv : SlT l v w0) (hl : l.length ≤ 1000) : Calls Try.prog 30 #[v] w0
    (Ret fun v w => St w0 [OwT 72 l v] w) := by
  refine enter Try.func30 rfl Try.ntmps30 rfl (fun a hk => ?_); have hS := St.refl w0
  (repeat' (first | (show wpListIn _ _ _ _ _ (_ :: _) _ _; first | (refine wx1 ?_; clear hk a; intro a hk) | (refine wx2 ?_ ?_ <;> (intro hp; clear hk a; intro a hk)) | (refine wx3 ?_; clear hk hS a; intro w b hS a hk) | (refine wx4 ?_; clear hk hS a; intro w hS a hk) | (refine wx5 ?_; clear hk hS a; intro w v hS a hk) | fail) | refine wx0 ?_ | (refine s_end hk ?_; clear hk a; intro a hk) | fail))
  replace hS := hS.nilT 72 PrI
  replace hk := Kn.kp [3, 6, 7, 8] hk
  refine wp_for l.length (fun i v => [(3, v), (8, .int .i64 (i : Int))]) (fun i v => [OwT 72 (l.take i) v]) (fun _ _ => True) (.slice none 0 0) hk (by repeat (first | exact trivial | refine ⟨rfl, ?_⟩)) hS.sb trivial ?_
  clear hk hS a
  rintro i vo a w hi hk hS -
  have htl : (l.take i).length ≤ i := by rw [List.length_take]; omega
  by_cases hil : i < l.length
  · obtain ⟨⟨k, x⟩, hx⟩ : ∃ x, l[i]? = some x := ⟨_, List.getElem?_eq_getElem hil⟩
    have hst : l.take (i + 1) = l.take i ++ [(k, x)] := take_snoc hx
    (repeat' (first | (show wpListIn _ _ _ _ _ (_ :: _) _ _; first | (refine wx1 ?_; clear hk a; intro a hk) | (refine wx2 ?_ ?_ <;> (intro hp; clear hk a; intro a hk)) | (refine wx3 ?_; clear hk hS a; intro w b hS a hk) | (refine wx4 ?_; clear hk hS a; intro w hS a hk) | (refine wx5 ?_; clear hk hS a; intro w v hS a hk) | fail) | refine wx0 ?_ | (refine s_end hk ?_; clear hk a; intro a hk) | fail))
    refine sg hk (g_bsT (xs := [((k, x) : PrI)]) (m := 0) hk hS ?_ (hT := eT rfl) (hE := zT rfl) (hz := oT rfl)); clear hk hS a; intro w ve hS a hk
    (repeat' (first | (show wpListIn _ _ _ _ _ (_ :: _) _ _; first | (refine wx1 ?_; clear hk a; intro a hk) | (refine wx2 ?_ ?_ <;> (intro hp; clear hk a; intro a hk)) | (refine wx3 ?_; clear hk hS a; intro w b hS a hk) | (refine wx4 ?_; clear hk hS a; intro w hS a hk) | (refine wx5 ?_; clear hk hS a; intro w v hS a hk) | fail) | refine wx0 ?_ | (refine s_end hk ?_; clear hk a; intro a hk) | fail))
    rw [← hst] at hS
    exact ⟨hil, _, hk.sd, hS.sb, trivial⟩
  · have : i = l.length := by omega
    subst this
    rw [List.take_length] at hS
    (repeat' (first | (show wpListIn _ _ _ _ _ (_ :: _) _ _; first | (refine wx1 ?_; clear hk a; intro a hk) | (refine wx2 ?_ ?_ <;> (intro hp; clear hk a; intro a hk)) | (refine wx3 ?_; clear hk hS a; intro w b hS a hk) | (refine wx4 ?_; clear hk hS a; intro w hS a hk) | (refine wx5 ?_; clear hk hS a; intro w v hS a hk) | fail) | refine wx0 ?_ | (refine s_end hk ?_; clear hk a; intro a hk) | fail))
    exact done1 hk (h := hS.sb)

end Go.Proofs.Ytkcjkbnbblpomaa
namespace Go.Proofs.Ytkcjkbnbblpomaa
variable {df : List Deferred} {rr : Option Nat}
open Go.RowKit

def obj (b : Nat) (o : Obj) : HP where
  holds F w := F b ∧ (∀ c, F c → c = b) ∧ w.heap[b]? = some o
  stable := fun F w w' ⟨h1, h2, h3⟩ h => ⟨h1, h2, by rw [h b h1]; exact h3⟩
  dom := fun F w c ⟨h1, h2, h3⟩ hc => by
    rw [h2 c hc]
    rcases Nat.lt_or_ge b w.heap.size with h' | h'
    · exact h'
    · rw [Array.getElem?_eq_none h'] at h3; cases h3

def lrec (fn : FuncId) (tmps : Array Value) (ps : Array Tmp) (assign body : Code) (D : Nat) (s : LoopState) (pe : Option Code) : Obj :=
  .loop { state := s, pending := pe, fn, tmps, params := ps, assign, body, defers := D }

def BegK (P : Program) (b : Nat) (body : Code) (R : Ending → World → Prop) (a : Act) (w : World) : Prop :=
  ∃ w₂, (Instr.beginRound b).run P w = .ok () w₂ ∧ body.wpIn (FR (some b)) 0 P (roundPost P b R) a w₂

section
variable {P : Program} {Q : Exit → Act → World → Prop} {a : Act} {w w' : World} {w0 : Bs} {n : Nat} {l l0 : List (Nat × Value)} {L L' : List HP}
  {dst : Option Nat} {R : Value → World → Prop} {ty : TypeId} {pos : String} {af : Array Edge} {g : Option (Nat × Bool)}
  {fn : FuncId} {tmps : Array Value} {ps : Array Tmp} {assign body : Code} {D b : Nat}

def mk_ (D : Nat) : List Deferred := [{ target := .collected D, args := #[] }]

def DoneM (P : Program) (fn : Func) (R : Value → World → Prop) : Exit → Act → World → Prop := bodyPostM Fence.wide 0 P fn (Ret R)

theorem g_eqN {x : Operand} {t t' E m c n' c' : Nat} {ao : Option Addr} (hk : Kn df n a l) (h : R (.bool ao.isNone) w) (hx : ev l x = some (.slice ao m c) := by rfl) (hT : elOf P t = some E) :
    Gives P ⟨dst, .binOp .eql t x (.const (.slice none n' c')) t', ty, pos, af, g⟩ a w R :=
  givesv (v := .bool ao.isNone) (by
    have h1 := Lib.run_eql_slice_nil (P := P) w t E ao m c n' c' (elOf_und hT)
    have h2 : a.eval (.const (.slice none n' c')) = .slice none n' c' := rfl
    simp [execOp, hk.eval hx, h2, eqGuard, Sem.run_bind, h1]) h
end
end Go.Proofs.Ytkcjkbnbblpomaa
namespace Go.Proofs.Ytkcjkbnbblpomaa
open Go.RowKit

theorem Sep.split {w : World} : ∀ {L1 L2 : List HP} {F : Nat → Prop}, Sep (L1 ++ L2) F w → ∃ F1 F2 : Nat → Prop, (∀ b, F1 b → F b) ∧ (∀ b, F2 b → F b) ∧ (∀ b, F1 b → F2 b → False) ∧ Sep L1 F1 w ∧ Sep L2 F2 w
  | [], _, F, h => ⟨fun _ => False, F, fun _ h => h.elim, fun _ h => h, fun _ h _ => h, trivial, h⟩
  | A :: L1, L2, F, ⟨G1, G2, h1, h2, h3, h4, h5⟩ => by
    obtain ⟨F1, F2, k1, k2, k3, k4, k5⟩ := Sep.split (L1 := L1) h5
    exact ⟨fun b => G1 b ∨ F1 b, F2, fun b h => h.elim (h1 b) (fun h => h2 b (k1 b h)), fun b h => h2 b (k2 b h), fun b h1 hF => h1.elim (fun hG => h3 b hG (k2 b hF)) (fun hG => k3 b hG hF),
      ⟨G1, F1, fun b h => .inl h, fun b h => .inr h, fun b hG hF => h3 b hG (k1 b hF), h4, k4⟩, k5⟩

def bagH {α : Type} (A : α → List HP) (p : α → Prop) : HP where
  holds F w := (∀ b, F b → b < w.heap.size) ∧ ∃ x, p x ∧ Sep (A x) F w
  stable F w w' h hF := by
    obtain ⟨h1, x, hp, hs⟩ := h
    refine ⟨fun b hb => ?_, x, hp, hs.stable hF⟩
    have h2 := hF b hb
    rcases Nat.lt_or_ge b w'.heap.size with h | h
    · exact h
    · rw [Array.getElem?_eq_none h, Array.getElem?_eq_getElem (h1 b hb)] at h2; cases h2
  dom F w b h hb := h.1 b hb

theorem bagH.of {α : Type} {A : α → List HP} {p : α → Prop} {B : Bs} {w : World} {L : List HP} {x : α} (h : St B (A x ++ L) w) (hp : p x) : St B (bagH A p :: L) w := by
  obtain ⟨F, hF, hs⟩ := h.own
  obtain ⟨F1, F2, h1, h2, h3, h4, h5⟩ := hs.split
  exact ⟨h.below, h.frz, F, hF, F1, F2, h1, h2, h3, ⟨fun b hb => (hF b (h1 b hb)).2, x, hp, h4⟩, h5⟩

theorem St.bag {α : Type} {A : α → List HP} {p : α → Prop} {B : Bs} {w : World} {L L' : List HP} (h : St B L w) (hat : At (bagH A p) L L') : ∃ x, p x ∧ St B (A x ++ L') w := by
  obtain ⟨F, hF, hs⟩ := h.own
  obtain ⟨F1, F2, h1, h2, h3, ⟨_, x, hp, h4⟩, h5⟩ := hs.pull hat
  exact ⟨x, hp, h.below, h.frz, F, hF, (h4.append h5 h3).mono (fun b hb => hb.elim (h1 b) (h2 b))⟩

theorem bagH.rd {α : Type} {A : α → List HP} {p : α → Prop} {w : World} (h : (bagH A p).rd w) : ∃ x, p x ∧ ∃ F, Sep (A x) F w :=
  let ⟨F, _, x, hp, hs⟩ := h
  ⟨x, hp, F, hs⟩

noncomputable def only (F : Nat → Prop) (w : World) : World :=
  { w with heap := w.heap.mapIdx fun i o => @ite _ (F i) (Classical.propDecidable _) o dead }

theorem only_in {F : Nat → Prop} {w : World} {b : Nat} (h : F b) : (only F w).heap[b]? = w.heap[b]? := by
  classical
  simp only [only, Array.getElem?_mapIdx]
  cases hw : w.heap[b]? with
  | none => rfl
  | some o => simp [h]
theorem only_live {F : Nat → Prop} {w : World} {b : Nat} (h : live (only F w) b) : F b := by
  classical
  obtain ⟨o, h1, h2⟩ := h
  simp only [only, Array.getElem?_mapIdx] at h1
  cases hw : w.heap[b]? with
  | none => rw [hw] at h1; cases h1
  | some o' =>
    rw [hw] at h1
    simp only [Option.map_some, Option.some.injEq] at h1
    by_cases hf : F b
    · exact hf
    · rw [if_neg hf] at h1; exact absurd h1.symm h2
theorem only_frz (F : Nat → Prop) (w : World) : Frz (only F w) w := fun b o h1 h2 => by
  have hf := only_live ⟨o, h1, h2⟩
  rw [only_in hf] at h1
  exact h1

def rdH (R : World → Prop) : HP where
  holds F w := (∀ b, F b → b < w.heap.size) ∧ ∃ g : World, (∀ b, live g b → F b) ∧ Frz g w ∧ R g
  stable F w w' h hF := by
    obtain ⟨h1, g, hl, hz, hr⟩ := h
    refine ⟨fun b hb => ?_, g, hl, fun b o ho hd => ?_, hr⟩
    · have h2 := hF b hb
      rcases Nat.lt_or_ge b w'.heap.size with h | h
      · exact h
      · rw [Array.getElem?_eq_none h, Array.getElem?_eq_getElem (h1 b hb)] at h2; cases h2
    · rw [hF b (hl b ⟨o, ho, hd⟩)]; exact hz b o ho hd
  dom F w b h hb := h.1 b hb

def Stays (R : World → Prop) : Prop := ∀ g w, Frz g w → R g → R w

theorem rdH.rd {R : World → Prop} (hm : Stays R) {w : World} (h : (rdH R).rd w) : R w :=
  let ⟨_, _, g, _, hz, hr⟩ := h
  hm g w hz hr

theorem Sep.all {w : World} : ∀ {L : List HP} {F : Nat → Prop}, Sep L F w → ∀ A ∈ L, ∃ F', (∀ b, F' b → F b) ∧ A.holds F' w
  | A :: L, F, ⟨F1, F2, h1, h2, _, h4, h5⟩, B, hB => by
    rcases List.mem_cons.1 hB with rfl | hB
    · exact ⟨F1, h1, h4⟩
    · obtain ⟨F', k1, k2⟩ := Sep.all h5 B hB
      exact ⟨F', fun b hb => h2 b (k1 b hb), k2⟩

theorem rdH.of {R : World → Prop} {B : Bs} {w : World} {L1 L : List HP} (h : St B (L1 ++ L) w) (hr : ∀ g, (∀ A ∈ L1, A.rd g) → R g) : St B (rdH R :: L) w := by
  obtain ⟨F, hF, hs⟩ := h.own
  obtain ⟨F1, F2, h1, h2, h3, h4, h5⟩ := hs.split
  refine ⟨h.below, h.frz, F, hF, F1, F2, h1, h2, h3, ⟨fun b hb => (hF b (h1 b hb)).2, only F1 w, fun b => only_live, only_frz F1 w, hr _ fun A hA => ?_⟩, h5⟩
  obtain ⟨F', k1, k2⟩ := h4.all A hA
  exact ⟨F', A.stable _ _ _ k2 fun b hb => only_in (k1 b hb)⟩
end Go.Proofs.Ytkcjkbnbblpomaa
namespace Go.Proofs.Ytkcjkbnbblpomaa
open Go.RowKit

abbrev Opt := Int × Int × Int × Int × Bool × Bool
inductive Tree where
  | mk (k : Int) (tag key text : ByteArray) (cl : List ByteArray) (at_ : List (ByteArray × ByteArray)) (st : List (ByteArray × Int)) (o : Opt) (kids : List Tree)

abbrev NdH := Int × ByteArray × ByteArray × ByteArray × Hd × Hd × Hd × Opt × Hd
abbrev ndV (h : NdH) : Value := .agg (Enc.f h).toArray

inductive TrR (w : World) : Tree → NdH → Prop
  | mk {k : Int} {tag key text : ByteArray} {cl : List ByteArray} {at_ : List (ByteArray × ByteArray)} {st : List (ByteArray × Int)} {o : Opt} {kids : List Tree} {hc ha hs hk : Hd} {H : List NdH}
    (h1 : SlT cl hc.v w) (h2 : SlT at_ ha.v w) (h3 : SlT st hs.v w) (h4 : SlT H hk.v w) (hl : H.length = kids.length)
    (hr : ∀ (i : Nat) (t : Tree) (h : NdH), kids[i]? = some t → H[i]? = some h → TrR w t h) : TrR w (.mk k tag key text cl at_ st o kids) (k, tag, key, text, hc, ha, hs, o, hk)

theorem TrR.frz {w w' : World} {t : Tree} {h : NdH} (hr : TrR w t h) (hf : Frz w w') : TrR w' t h := by
  induction hr with
  | mk h1 h2 h3 h4 hl _ ih => exact .mk (h1.frz hf) (h2.frz hf) (h3.frz hf) (h4.frz hf) hl ih
theorem TrR.stays (t : Tree) (h : NdH) : Stays (fun w => TrR w t h) := fun _ _ hf hr => hr.frz hf

def FoR (w : World) (ts : List Tree) (H : List NdH) : Prop := H.length = ts.length ∧ ∀ (i : Nat) (t : Tree) (h : NdH), ts[i]? = some t → H[i]? = some h → TrR w t h
theorem FoR.frz {w w' : World} {ts : List Tree} {H : List NdH} (hr : FoR w ts H) (hf : Frz w w') : FoR w' ts H := ⟨hr.1, fun i t h h1 h2 => (hr.2 i t h h1 h2).frz hf⟩
theorem FoR.stays (ts : List Tree) (H : List NdH) : Stays (fun w => FoR w ts H) := fun _ _ hf hr => hr.frz hf
theorem FoR.nil (w : World) : FoR w [] [] := ⟨rfl, fun i t h h1 _ => by simp at h1⟩
theorem FoR.snoc {w : World} {ts : List Tree} {H : List NdH} {t : Tree} {h : NdH} (hF : FoR w ts H) (hT : TrR w t h) : FoR w (ts ++ [t]) (H ++ [h]) := by
  refine ⟨by simp [hF.1], fun i t' h' h1 h2 => ?_⟩
  rcases Nat.lt_or_ge i ts.length with hi | hi
  · rw [List.getElem?_append_left hi] at h1
    rw [List.getElem?_append_left (by rw [hF.1]; exact hi)] at h2
    exact hF.2 i t' h' h1 h2
  · rw [List.getElem?_append_right hi] at h1
    rw [List.getElem?_append_right (by rw [hF.1]; exact hi), hF.1] at h2
    cases hj : i - ts.length with
    | zero =>
      rw [hj] at h1 h2
      simp at h1 h2
      subst h1 h2
      exact hT
    | succ j => rw [hj] at h1; simp at h1

theorem FoR.init {w : World} {ts : List Tree} {H : List NdH} {t : Tree} {h : NdH} (hF : FoR w (ts ++ [t]) (H ++ [h])) : FoR w ts H ∧ TrR w t h := by
  obtain ⟨h1, h2⟩ := hF
  have hl : H.length = ts.length := by simpa using h1
  refine ⟨⟨hl, fun i t' h' a b => h2 i t' h' ?_ ?_⟩, h2 ts.length t h (by simp) (by rw [← hl]; simp)⟩
  · rw [List.getElem?_append_left (lt_of_get a)]; exact a
  · rw [List.getElem?_append_left (lt_of_get b)]; exact b

def appH {α : Type} [Enc α] (E : TypeId) (ys : List α) : Value → HP := match ys with
  | [] => emp0
  | y :: r => OwT E (y :: r)
theorem appH.rd {α : Type} [Enc α] {E : TypeId} {ys : List α} {v : Value} {w : World} (h : (appH E ys v).rd w) : SlT ys v w := by
  cases ys with
  | cons y r => exact OwT.rd h
  | nil =>
    obtain ⟨ao, rfl⟩ := emp0.get h
    refine ⟨by simp [enc], by simp [maxLen], ?_⟩
    cases ao with
    | none => exact .inl ⟨rfl, rfl⟩
    | some a => exact .inr ⟨a, 0, rfl, by simp, by simp [maxLen], fun j u hj => by simp [enc] at hj⟩

section
variable {df : List Deferred} {P : Program} {a : Act} {w : World} {n : Nat} {l : List (Nat × Value)} {dst : Option Nat} {ty : TypeId} {pos : String} {af : Array Edge} {g : Option (Nat × Bool)} {α : Type} [Enc α]
theorem v_appR {x y : Operand} {t tx : TypeId} {E E' : Nat} {v y0 z : Value} {ys : List α} (hk : Kn df n a l) (hv : (emp0 v).rd w)
    (hT : elOf P t = some E) (hTx : elOf P tx = some E') (hE : szOf P E = some (Enc.k α + 1)) (hz : zeroOf P E = some z) (hzs : z.cells.size = Enc.k α + 1) (hs : SlT ys y0 w) {by_ : Nat} (hby : ((P.info? E).map (·.bytes)).getD 0 = by_) (hbytes : ys.length * by_ ≤ 140737488355328) (h63 : ys.length ≤ maxLen)
    (hx : ev l x = some v := by rfl) (hy : ev l y = some y0 := by rfl) :
    Gives P ⟨dst, .call { callee := .builtin .append, args := #[x, y], argTypes := #[t, tx] }, ty, pos, af, g⟩ a w (fun v' w' => St w [appH E ys v'] w') := by
  cases ys with
  | cons u r => exact v_app0 (ys := u :: r) hk hv (by simp) hT hTx hE hz hzs hs hby hbytes h63 hx hy
  | nil =>
    have hv' : SlT ([] : List α) v w := appH.rd (E := E) hv
    refine (v_appN (α := α) hk hv' hT hTx hE hz hs hx hy).mono ?_
    rintro v' w' ⟨rfl, hS⟩
    obtain ⟨ao, rfl⟩ := emp0.get hv
    obtain ⟨F, hF, _⟩ := hS.own
    exact ⟨hS.below, hS.frz, F, hF, fun _ => False, F, fun _ h => h.elim, fun _ h => h, fun _ h _ => h, ⟨fun _ h => h, ao, rfl⟩, trivial⟩
end

abbrev treeR (t : Tree) (h : NdH) : HP := rdH (fun w => TrR w t h)
abbrev forR (ts : List Tree) (H : List NdH) : HP := rdH (fun w => FoR w ts H)
def treeH (t : Tree) (v : Value) : HP := bagH (fun h : NdH => [treeR t h]) (fun h => v = ndV h)

section
variable {B : Bs} {w : World} {L L' : List HP}
theorem treeR.of {k : Int} {tag key text : ByteArray} {cl : List ByteArray} {at_ : List (ByteArray × ByteArray)} {st : List (ByteArray × Int)} {o : Opt} {kids : List Tree} {hc ha hs hk : Hd} {H : List NdH} {A1 A2 A3 A4 : HP}
    (h : St B (A1 :: A2 :: A3 :: A4 :: forR kids H :: L) w) (h1 : ∀ g, A1.rd g → SlT cl hc.v g := by exact fun g h => by first | exact OwT.rd h | exact appH.rd h) (h2 : ∀ g, A2.rd g → SlT at_ ha.v g := by exact fun g h => OwT.rd h)
    (h3 : ∀ g, A3.rd g → SlT st hs.v g := by exact fun g h => OwT.rd h) (h4 : ∀ g, A4.rd g → SlT H hk.v g := by exact fun g h => OwT.rd h) : St B (treeR (.mk k tag key text cl at_ st o kids) (k, tag, key, text, hc, ha, hs, o, hk) :: L) w := by
  refine rdH.of (L1 := [A1, A2, A3, A4, forR kids H]) h fun g hg => ?_
  have hF : FoR g kids H := rdH.rd (FoR.stays kids H) (hg _ (by simp))
  exact .mk (h1 g (hg A1 (by simp))) (h2 g (hg A2 (by simp))) (h3 g (hg A3 (by simp))) (h4 g (hg A4 (by simp))) hF.1 hF.2
theorem treeR.kids {k : Int} {tag key text : ByteArray} {cl : List ByteArray} {at_ : List (ByteArray × ByteArray)} {st : List (ByteArray × Int)} {o : Opt} {kids0 kids : List Tree} {hc ha hs hk0 hk : Hd} {H : List NdH} {E : TypeId}
    (h : St B (treeR (.mk k tag key text cl at_ st o kids0) (k, tag, key, text, hc, ha, hs, o, hk0) :: OwT E H hk.v :: forR kids H :: L) w) : St B (treeR (.mk k tag key text cl at_ st o kids) (k, tag, key, text, hc, ha, hs, o, hk) :: L) w := by
  refine rdH.of (L1 := [treeR (.mk k tag key text cl at_ st o kids0) (k, tag, key, text, hc, ha, hs, o, hk0), OwT E H hk.v, forR kids H]) h fun g hg => ?_
  have hF : FoR g kids H := rdH.rd (FoR.stays kids H) (hg _ (by simp))
  have hT : TrR g (.mk k tag key text cl at_ st o kids0) (k, tag, key, text, hc, ha, hs, o, hk0) := rdH.rd (TrR.stays _ _) (hg _ (by simp))
  cases hT with
  | mk h1 h2 h3 _ _ _ => exact .mk h1 h2 h3 (OwT.rd (hg (OwT E H hk.v) (by simp))) hF.1 hF.2
theorem treeH.of {t : Tree} {h : NdH} (hS : St B (treeR t h :: L) w) : St B (treeH t (ndV h) :: L) w := bagH.of (A := fun h : NdH => [treeR t h]) (x := h) hS rfl
theorem St.tree {t : Tree} {v : Value} (hS : St B L w) (hat : At (treeH t v) L L') : ∃ h, v = ndV h ∧ St B (treeR t h :: L') w := St.bag hS hat
theorem St.trR {t : Tree} {h : NdH} (hS : St B L w) (hat : At (treeR t h) L L') : TrR w t h := rdH.rd (TrR.stays t h) (hS.rd hat)
theorem St.foR {ts : List Tree} {H : List NdH} (hS : St B L w) (hat : At (forR ts H) L L') : FoR w ts H := rdH.rd (FoR.stays ts H) (hS.rd hat)
theorem forR.nil (hS : St B L w) : St B (forR [] [] :: L) w := rdH.of (L1 := []) hS fun g _ => FoR.nil g
theorem forR.snoc {ts : List Tree} {H : List NdH} {t : Tree} {h : NdH} (hS : St B (treeR t h :: forR ts H :: L) w) : St B (forR (ts ++ [t]) (H ++ [h]) :: L) w :=
  rdH.of (L1 := [treeR t h, forR ts H]) hS fun g hg => (rdH.rd (FoR.stays ts H) (hg _ (by simp))).snoc (rdH.rd (TrR.stays t h) (hg _ (by simp)))
theorem FoR.plus {g : World} {k : Int} {tag key text x : ByteArray} {cl : List ByteArray} {at_ : List (ByteArray × ByteArray)} {st : List (ByteArray × Int)} {o : Opt} {kids ts : List Tree} {hc ha hs hk : Hd} {H : List NdH}
    (h : FoR g (ts ++ [.mk k tag key text cl at_ st o kids]) (H ++ [(k, tag, key, text, hc, ha, hs, o, hk)])) : FoR g (ts ++ [.mk k tag key (text ++ x) cl at_ st o kids]) (H ++ [(k, tag, key, text ++ x, hc, ha, hs, o, hk)]) := by
  obtain ⟨h1, h2⟩ := h.init
  cases h2 with
  | mk a1 a2 a3 a4 a5 a6 => exact h1.snoc (.mk a1 a2 a3 a4 a5 a6)
theorem rdH.imp {R R' : World → Prop} (h : St B (rdH R :: L) w) (hm : Stays R) (hr : ∀ g, R g → R' g) : St B (rdH R' :: L) w := rdH.of (L1 := [rdH R]) h fun g hg => hr g (rdH.rd hm (hg _ (by simp)))
abbrev forR2 (ts us : List Tree) (H K : List NdH) : HP := rdH (fun w => FoR w ts H ∧ FoR w us K)
theorem FoR.stays2 (ts us : List Tree) (H K : List NdH) : Stays (fun w => FoR w ts H ∧ FoR w us K) := fun _ _ hf hr => ⟨hr.1.frz hf, hr.2.frz hf⟩
theorem St.foR2 {ts us : List Tree} {H K : List NdH} (hS : St B L w) (hat : At (forR2 ts us H K) L L') : FoR w ts H ∧ FoR w us K := rdH.rd (FoR.stays2 ts us H K) (hS.rd hat)
theorem St.rdTr {t : Tree} {h : NdH} (hS : St B L w) (hr : TrR B.g t h) : TrR w t h := hr.frz hS.frz
theorem St.rdFo {ts : List Tree} {H : List NdH} (hS : St B L w) (hr : FoR B.g ts H) : FoR w ts H := hr.frz hS.frz
theorem treeH.rd {t : Tree} {v : Value} (h : (treeH t v).rd w) : ∃ h, v = ndV h ∧ TrR w t h := by
  obtain ⟨x, hp, F, F1, _, _, _, _, h4, _⟩ := bagH.rd h
  exact ⟨x, hp, rdH.rd (TrR.stays t x) ⟨F1, h4⟩⟩
end

instance : Inhabited Hd := ⟨⟨none, 0, 0⟩⟩
open Classical in
noncomputable def ndOf (v : Value) : NdH := if h : ∃ x, v = ndV x then Classical.choose h else default
theorem hdv_inj {a b : Hd} (h : a.v = b.v) : a = b := by
  cases a; cases b
  simp only [Hd.v, Value.slice.injEq] at h
  obtain ⟨rfl, rfl, rfl⟩ := h
  rfl
theorem SlT.hd {α : Type} [Enc α] {xs : List α} {h : Hd} {w : World} (hs : SlT xs h.v w) : ∃ a m, h = ⟨a, xs.length, m⟩ := by
  obtain ⟨a, m, e, _⟩ := hs.shape
  exact ⟨a, m, hdv_inj e⟩
theorem TrR.split {w : World} {t : Tree} {h : NdH} (hr : TrR w t h) : ∃ k tag key text cl al sl e lv m d p q kids a1 m1 a2 m2 a3 m3 a4 m4, ∃ H : List NdH, t = .mk k tag key text cl al sl (e, lv, m, d, p, q) kids ∧
    h = (k, tag, key, text, ⟨a1, cl.length, m1⟩, ⟨a2, al.length, m2⟩, ⟨a3, sl.length, m3⟩, (e, lv, m, d, p, q), ⟨a4, H.length, m4⟩) ∧
    SlT cl (.slice a1 cl.length m1) w ∧ SlT al (.slice a2 al.length m2) w ∧ SlT sl (.slice a3 sl.length m3) w ∧ SlT H (.slice a4 H.length m4) w ∧ FoR w kids H := by
  obtain ⟨c1, c2, c3, c4, hl, hkr⟩ := hr
  rename_i k tag key text cl al sl o kids hc ha hs hk0 H
  obtain ⟨e, lv, m, d, p, q⟩ := o
  obtain ⟨a1, m1, rfl⟩ := c1.hd
  obtain ⟨a2, m2, rfl⟩ := c2.hd
  obtain ⟨a3, m3, rfl⟩ := c3.hd
  obtain ⟨a4, m4, rfl⟩ := c4.hd
  exact ⟨k, tag, key, text, cl, al, sl, e, lv, m, d, p, q, kids, a1, m1, a2, m2, a3, m3, a4, m4, H, rfl, rfl, c1, c2, c3, c4, hl, hkr⟩
theorem ndV_inj {x y : NdH} (h : ndV x = ndV y) : x = y := by
  obtain ⟨k, tag, key, text, hc, ha, hs, ⟨e, l, m, d, p, q⟩, hk⟩ := x
  obtain ⟨k', tag', key', text', hc', ha', hs', ⟨e', l', m', d', p', q'⟩, hk'⟩ := y
  have h2 : ([.int .i64 k, .string tag, .string key, .string text, hc.v, ha.v, hs.v, .int .i64 e, .int .i64 l, .int .i64 m, .int .i64 d, .bool p, .bool q, hk.v] : List Value)
    = [.int .i64 k', .string tag', .string key', .string text', hc'.v, ha'.v, hs'.v, .int .i64 e', .int .i64 l', .int .i64 m', .int .i64 d', .bool p', .bool q', hk'.v] := by
    have := congrArg Value.cells h
    exact congrArg Array.toList this
  simp only [List.cons.injEq, Value.int.injEq, Value.string.injEq, Value.bool.injEq, true_and, and_true] at h2
  obtain ⟨rfl, rfl, rfl, rfl, h5, h6, h7, rfl, rfl, rfl, rfl, rfl, rfl, h8⟩ := h2
  rw [hdv_inj h5, hdv_inj h6, hdv_inj h7, hdv_inj h8]
theorem ndOf_ndV (x : NdH) : ndOf (ndV x) = x := by
  unfold ndOf
  rw [dif_pos ⟨x, rfl⟩]
  exact (ndV_inj (Classical.choose_spec (p := fun y => ndV x = ndV y) ⟨x, rfl⟩)).symm

def Tree.kids : Tree → List Tree
  | .mk _ _ _ _ _ _ _ _ ks => ks
theorem kid_lt {k : Int} {tag key text : ByteArray} {cl : List ByteArray} {at_ : List (ByteArray × ByteArray)} {st : List (ByteArray × Int)} {o : Opt} {kids : List Tree} {t : Tree} (h : t ∈ kids) : SizeOf.sizeOf t < SizeOf.sizeOf (Tree.mk k tag key text cl at_ st o kids) := by
  have := List.sizeOf_lt_of_mem h
  simp only [Tree.mk.sizeOf_spec]
  omega
inductive Fits : Tree → Prop
  | mk {k : Int} {tag key text : ByteArray} {cl : List ByteArray} {at_ : List (ByteArray × ByteArray)} {st : List (ByteArray × Int)} {o : Opt} {kids : List Tree}
    (h1 : cl.length ≤ 100) (h2 : at_.length ≤ 100) (h3 : st.length ≤ 100) (h4 : kids.length ≤ 1000) (h5 : ∀ t ∈ kids, Fits t) : Fits (.mk k tag key text cl at_ st o kids)
end Go.Proofs.Ytkcjkbnbblpomaa
