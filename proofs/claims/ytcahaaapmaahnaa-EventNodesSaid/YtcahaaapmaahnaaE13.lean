/- Layer 33: the law: the program. Layer 33: the law EventNodes, from its arguments' reading. -/
import Derived.Test.YtcahaaapmaahnaaE12
import Derived.Test.YtcahaaapmaahnaaE07
set_option linter.all false
namespace Go.Proofs.Ytcahaaapmaahnaa
open Go.RowKit
set_option maxRecDepth 100000
attribute [local irreducible] Go.Code.wpIn Go.wpListIn Go.Calls Gives Go.Exit.then Go.Exit.inBlock Done ObxE

set_option maxHeartbeats 16000000 in
theorem eventNodes_any (l : List (Int × Int)) (vl : Value) (w0 : World) (hv : SlT l vl w0) : Calls Try.prog 3 #[vl] w0 (Ret fun v w => v = .bool true ∧ St w0 [] w) := by
  obtain ⟨la, lc, rfl, _⟩ := hv.shape
  have hmx := hv.len_le
  simp only [maxLen] at hmx
  refine enter Try.func3 rfl Try.ntmps3 rfl (fun a hk => ?_); have hS := St.refl w0
  (repeat' (first | (show wpListIn _ _ _ _ _ (_ :: _) _ _; first | (refine wx1 ?_; clear hk a; intro a hk) | (refine wx2 ?_ ?_ <;> (intro hp; clear hk a; intro a hk)) | (refine wx3 ?_; clear hk hS a; intro w b hS a hk) | (refine wx4 ?_; clear hk hS a; intro w hS a hk) | (refine wx5 ?_; clear hk hS a; intro w v hS a hk) | fail) | refine wx0 ?_ | (refine s_end hk ?_; clear hk a; intro a hk) | fail))
  refine sg hk (g_callO hk (hf := by kernel_rfl) (hc := awake33 _) (h := ?_)); clear hk a; rintro _ w ⟨rfl, hS1⟩ a hk; replace hS := hS.call0 hS1; clear hS1
  have hvw := hv.frz hS.frz
  (repeat' (first | (show wpListIn _ _ _ _ _ (_ :: _) _ _; first | (refine wx1 ?_; clear hk a; intro a hk) | (refine wx2 ?_ ?_ <;> (intro hp; clear hk a; intro a hk)) | (refine wx3 ?_; clear hk hS a; intro w b hS a hk) | (refine wx4 ?_; clear hk hS a; intro w hS a hk) | (refine wx5 ?_; clear hk hS a; intro w v hS a hk) | fail) | refine wx0 ?_ | (refine s_end hk ?_; clear hk a; intro a hk) | fail))
  rw [show min ((l.length : Nat) : Int) 20 = ((min l.length 20 : Nat) : Int) by omega] at hk
  refine sg hk (g_partT (j := (min l.length 20)) hk ?_ (ht := eT rfl) (hs := (by first | exact St.rdT hS (by assumption) | exact OwT.rd (hS.rd (A := OwT _ _ _) (by (repeat (first | exact At.here | apply At.there)))) | assumption)) (hE := zT rfl) (hj := by omega)); clear hk a; intro vp hvp a hk
  have hll : (l.take (min l.length 20)).length ≤ 20 := by rw [List.length_take]; omega
  replace hvp := hvp w0 hv
  obtain ⟨pa, pc, rfl, _⟩ := hvp.shape
  generalize l.take (min l.length 20) = l1 at *
  (repeat' (first | (show wpListIn _ _ _ _ _ (_ :: _) _ _; first | (refine wx1 ?_; clear hk a; intro a hk) | (refine wx2 ?_ ?_ <;> (intro hp; clear hk a; intro a hk)) | (refine wx3 ?_; clear hk hS a; intro w b hS a hk) | (refine wx4 ?_; clear hk hS a; intro w hS a hk) | (refine wx5 ?_; clear hk hS a; intro w v hS a hk) | fail) | refine wx0 ?_ | (refine s_end hk ?_; clear hk a; intro a hk) | fail))
  replace hS := hS.nilT 3 Int
  replace hk := Kn.kp [0, 3, 16, 17, 18] hk
  refine wp_for l1.length (fun i v => [(3, .slice v.1 (nodesF (l1.take i)).length v.2), (18, .int .i64 (i : Int))]) (fun i v => [OwT 3 (nodesF (l1.take i)) (.slice v.1 (nodesF (l1.take i)).length v.2)]) (fun _ _ => True) ((none, 0) : Option Addr × Nat) hk (by repeat (first | exact trivial | refine ⟨rfl, ?_⟩)) hS trivial ?_
  clear hk hS a hvw
  rintro i ⟨ao, c⟩ a w hi hk hS -
  simp only at hS hk
  by_cases hil : i < l1.length
  · obtain ⟨⟨c1, c2⟩, hx⟩ : ∃ x, l1[i]? = some x := ⟨_, List.getElem?_eq_getElem hil⟩
    have hst : nodesF (l1.take (i + 1)) = if c2 ∈ nodesF (l1.take i) then nodesF (l1.take i) else nodesF (l1.take i) ++ [c2] := by rw [take_snoc hx, nodes_snoc]
    have hnl : (nodesF (l1.take i)).length ≤ 20 := Nat.le_trans (nodes_len _) (by rw [List.length_take]; omega)
    generalize nodesF (l1.take (i + 1)) = N1 at *
    generalize nodesF (l1.take i) = N0 at *
    (repeat' (first | (show wpListIn _ _ _ _ _ (_ :: _) _ _; first | (refine wx1 ?_; clear hk a; intro a hk) | (refine wx2 ?_ ?_ <;> (intro hp; clear hk a; intro a hk)) | (refine wx3 ?_; clear hk hS a; intro w b hS a hk) | (refine wx4 ?_; clear hk hS a; intro w hS a hk) | (refine wx5 ?_; clear hk hS a; intro w v hS a hk) | fail) | refine wx0 ?_ | (refine s_end hk ?_; clear hk a; intro a hk) | fail))
    rename Nat => b5
    replace hk := Kn.kp [0, 3, 5, 6, 16, 17, 18, 22, 23, 24] hk
    refine wp_for N0.length (fun j v => [(6, .bool v), (24, .int .i64 (j : Int))]) (fun _ _ => [OwT 3 N0 (.slice ao N0.length c), pts b5 [.int .i64 c1, .int .i64 c2] 26]) (fun j v => v = decide (c2 ∈ N0.take j)) (false : Bool) hk (by repeat (first | exact trivial | refine ⟨rfl, ?_⟩)) (hS.sub (by (repeat (first | exact Sub.nil | exact Sub.refl | refine Sub.cons (by (repeat (first | exact At.here | apply At.there))) ?_)))) rfl ?_
    clear hk hS a
    rintro j v a w hj hk hS hF
    by_cases hjl : j < N0.length
    · obtain ⟨n, hn⟩ : ∃ x, N0[j]? = some x := ⟨_, List.getElem?_eq_getElem hjl⟩
      have hst2 : c2 ∈ N0.take (j + 1) ↔ c2 ∈ N0.take j ∨ c2 = n := by rw [take_snoc hn]; simp
      by_cases hin : c2 ∈ N0.take j
      · rw [decide_eq_true hin] at hF
        subst hF
        (repeat' (first | (show wpListIn _ _ _ _ _ (_ :: _) _ _; first | (refine wx1 ?_; clear hk a; intro a hk) | (refine wx2 ?_ ?_ <;> (intro hp; clear hk a; intro a hk)) | (refine wx3 ?_; clear hk hS a; intro w b hS a hk) | (refine wx4 ?_; clear hk hS a; intro w hS a hk) | (refine wx5 ?_; clear hk hS a; intro w v hS a hk) | fail) | refine wx0 ?_ | (refine s_end hk ?_; clear hk a; intro a hk) | fail))
        exact ⟨hjl, true, hk.sd, hS.sb, (decide_eq_true (hst2.2 (.inl hin))).symm⟩
      · rw [decide_eq_false hin] at hF
        subst hF
        by_cases hnc : n = c2
        · (repeat' (first | (show wpListIn _ _ _ _ _ (_ :: _) _ _; first | (refine wx1 ?_; clear hk a; intro a hk) | (refine wx2 ?_ ?_ <;> (intro hp; clear hk a; intro a hk)) | (refine wx3 ?_; clear hk hS a; intro w b hS a hk) | (refine wx4 ?_; clear hk hS a; intro w hS a hk) | (refine wx5 ?_; clear hk hS a; intro w v hS a hk) | fail) | refine wx0 ?_ | (refine s_end hk ?_; clear hk a; intro a hk) | fail))
          exact ⟨hjl, true, hk.sd, hS.sb, (decide_eq_true (hst2.2 (.inr hnc.symm))).symm⟩
        · (repeat' (first | (show wpListIn _ _ _ _ _ (_ :: _) _ _; first | (refine wx1 ?_; clear hk a; intro a hk) | (refine wx2 ?_ ?_ <;> (intro hp; clear hk a; intro a hk)) | (refine wx3 ?_; clear hk hS a; intro w b hS a hk) | (refine wx4 ?_; clear hk hS a; intro w hS a hk) | (refine wx5 ?_; clear hk hS a; intro w v hS a hk) | fail) | refine wx0 ?_ | (refine s_end hk ?_; clear hk a; intro a hk) | fail))
          exact ⟨hjl, false, hk.sd, hS.sb, (decide_eq_false (fun h => (hst2.1 h).elim hin (fun h => hnc h.symm))).symm⟩
    · have hjj : j = N0.length := by omega
      subst hjj
      rw [List.take_length] at hF
      by_cases hin : c2 ∈ N0
      · rw [if_pos hin] at hst
        rw [decide_eq_true hin] at hF
        subst hst hF
        (repeat' (first | (show wpListIn _ _ _ _ _ (_ :: _) _ _; first | (refine wx1 ?_; clear hk a; intro a hk) | (refine wx2 ?_ ?_ <;> (intro hp; clear hk a; intro a hk)) | (refine wx3 ?_; clear hk hS a; intro w b hS a hk) | (refine wx4 ?_; clear hk hS a; intro w hS a hk) | (refine wx5 ?_; clear hk hS a; intro w v hS a hk) | fail) | refine wx0 ?_ | (refine s_end hk ?_; clear hk a; intro a hk) | fail))
        exact ⟨hil, (ao, c), hk.sd, hS.sb, trivial⟩
      · rw [if_neg hin] at hst
        rw [decide_eq_false hin] at hF
        subst hF
        (repeat' (first | (show wpListIn _ _ _ _ _ (_ :: _) _ _; first | (refine wx1 ?_; clear hk a; intro a hk) | (refine wx2 ?_ ?_ <;> (intro hp; clear hk a; intro a hk)) | (refine wx3 ?_; clear hk hS a; intro w b hS a hk) | (refine wx4 ?_; clear hk hS a; intro w hS a hk) | (refine wx5 ?_; clear hk hS a; intro w v hS a hk) | fail) | refine wx0 ?_ | (refine s_end hk ?_; clear hk a; intro a hk) | fail))
        rw [← hst] at hS
        rename Value => vn
        obtain ⟨aovn, cvn, hshp, _⟩ := (OwT.rd (hS.rd (A := OwT 3 _ vn) (by (repeat (first | exact At.here | apply At.there))))).shape; subst hshp
        (repeat' (first | (show wpListIn _ _ _ _ _ (_ :: _) _ _; first | (refine wx1 ?_; clear hk a; intro a hk) | (refine wx2 ?_ ?_ <;> (intro hp; clear hk a; intro a hk)) | (refine wx3 ?_; clear hk hS a; intro w b hS a hk) | (refine wx4 ?_; clear hk hS a; intro w hS a hk) | (refine wx5 ?_; clear hk hS a; intro w v hS a hk) | fail) | refine wx0 ?_ | (refine s_end hk ?_; clear hk a; intro a hk) | fail))
        exact ⟨hil, (aovn, cvn), hk.sd, hS.sb, trivial⟩
  · have hii : i = l1.length := by omega
    subst hii
    rw [List.take_length] at hS hk
    have hvw := hvp.frz hS.frz
    (repeat' (first | (show wpListIn _ _ _ _ _ (_ :: _) _ _; first | (refine wx1 ?_; clear hk a; intro a hk) | (refine wx2 ?_ ?_ <;> (intro hp; clear hk a; intro a hk)) | (refine wx3 ?_; clear hk hS a; intro w b hS a hk) | (refine wx4 ?_; clear hk hS a; intro w hS a hk) | (refine wx5 ?_; clear hk hS a; intro w v hS a hk) | fail) | refine wx0 ?_ | (refine s_end hk ?_; clear hk a; intro a hk) | fail))
    refine sg hk (g_callO hk (hf := by kernel_rfl) (hc := nodes33 l1 (.slice pa l1.length pc) _ hvw (by omega)) (h := ?_)); clear hk a; rintro vn w hS1 a hk; replace hS := hS.call hS1; clear hS1
    rw [List.cons_append, List.nil_append] at hS
    (repeat' (first | (show wpListIn _ _ _ _ _ (_ :: _) _ _; first | (refine wx1 ?_; clear hk a; intro a hk) | (refine wx2 ?_ ?_ <;> (intro hp; clear hk a; intro a hk)) | (refine wx3 ?_; clear hk hS a; intro w b hS a hk) | (refine wx4 ?_; clear hk hS a; intro w hS a hk) | (refine wx5 ?_; clear hk hS a; intro w v hS a hk) | fail) | refine wx0 ?_ | (refine s_end hk ?_; clear hk a; intro a hk) | fail))
    refine sg hk (g_callO hk (hf := by kernel_rfl) (hc := numbers_any (nodesF l1) (nodesF l1) _ _ _ (by first | exact St.rdT hS (by assumption) | exact OwT.rd (hS.rd (A := OwT _ _ _) (by (repeat (first | exact At.here | apply At.there)))) | assumption) (by first | exact St.rdT hS (by assumption) | exact OwT.rd (hS.rd (A := OwT _ _ _) (by (repeat (first | exact At.here | apply At.there)))) | assumption)) (h := ?_)); clear hk a; rintro _ w ⟨rfl, hS1⟩ a hk; replace hS := hS.call0 hS1; clear hS1
    rw [decide_eq_true (rfl : nodesF l1 = nodesF l1)] at hk
    (repeat' (first | (show wpListIn _ _ _ _ _ (_ :: _) _ _; first | (refine wx1 ?_; clear hk a; intro a hk) | (refine wx2 ?_ ?_ <;> (intro hp; clear hk a; intro a hk)) | (refine wx3 ?_; clear hk hS a; intro w b hS a hk) | (refine wx4 ?_; clear hk hS a; intro w hS a hk) | (refine wx5 ?_; clear hk hS a; intro w v hS a hk) | fail) | refine wx0 ?_ | (refine s_end hk ?_; clear hk a; intro a hk) | fail))
    exact done1 hk (h := ⟨rfl, hS.nil⟩)
end Go.Proofs.Ytcahaaapmaahnaa
namespace Go.Proofs.Ytcahaaapmaahnaa
open Go.RowKit
set_option maxRecDepth 100000
attribute [local irreducible] Go.Code.wpIn Go.wpListIn Go.Calls Gives Go.Exit.then Go.Exit.inBlock Done ObxE

theorem walk_EventNodes (W : World) (vs : List Value) (h : Args Try.prog W [22] vs) : Calls Try.prog 3 vs.toArray W (Ret fun v w => v = .bool true ∧ St W [] w) := by
  obtain ⟨v1, rfl, ha⟩ := args1 h
  obtain ⟨l, hl⟩ := ha.sl (α := Int × Int) (eT rfl) (aT rfl) (zT rfl) (kT rfl)
  exact eventNodes_any l _ W hl
end Go.Proofs.Ytcahaaapmaahnaa
