/- Layer 7: how great, how deep a view is, its longest duration: the program and the reference. Layer 8: brackets within one another: the law. -/
import Derived.Test.YtipdgobplfkipaaDoorD15
import Derived.Test.YtipdgobplfkipaaDoorRows
import Derived.Lay
import Derived.SevenTiedAt
set_option linter.all false
namespace Go.Proofs.YtipdgobplfkipaaDoor
open Go.RowKit
set_option maxRecDepth 100000
attribute [local irreducible] Go.Code.wpIn Go.wpListIn Go.Calls Gives Go.Exit.then Go.Exit.inBlock Done ObxE

def P7 (t : Tree) : Prop := Fits t ∧ cnt t ≤ 1000
theorem P7.kids (t : Tree) (h : P7 t) : Fits t ∧ ∀ u ∈ t.kids, P7 u := by
  obtain ⟨h1, h2⟩ := h
  refine ⟨h1, fun u hu => ?_⟩
  cases h1 with
  | mk _ _ _ _ h5 =>
    refine ⟨h5 u hu, ?_⟩
    have := cntL_mem hu
    simp only [Tree.kids] at this
    simp only [cnt] at h2
    omega
theorem max0_any (xs : List Int) (h : (0 : Int) ∈ xs) (v : Value) (w0 : World) (hv : SlT xs v w0) (hl : xs.length ≤ 10000) : Calls Tryd.prog 15 #[v] w0 (Ret fun v w => v = .int .i64 (mxI xs) ∧ St w0 [] w) := by
  cases xs with
  | nil => cases h
  | cons x l =>
    rw [← mx_zero h]
    exact max_any x l v w0 hv (by simp only [List.length_cons] at hl; omega)
theorem depth1_any (t : Tree) (h : NdH) (v : Value) (B : Bs) (L : List HP) (w : World) (hp : P7 t) (hr : TrR w t h) (hS : St B (OwT 3 (t.kids.map (fun t => (dep t : Int))) v :: L) w) :
    Calls Tryd.prog 14 #[ndV h, v] w (Ret fun r w' => r = .int .i64 (dep t : Int) ∧ St B L w') := by
  obtain ⟨k, tag, key, text, cl, al, sl, e, lv, m, d, p, q, kids, a1, m1, a2, m2, a3, m3, a4, m4, H, rfl, rfl, -⟩ := hr.split
  have hf := hp.1
  obtain ⟨-, -, -, l4, -⟩ := hf
  have hd := dep_le (.mk k tag key text cl al sl (e, lv, m, d, p, q) kids)
  have hc := hp.2
  have hdp : dep (.mk k tag key text cl al sl (e, lv, m, d, p, q) kids) = depL kids + 1 := by simp only [dep]
  rw [hdp] at hd ⊢
  rw [show Tree.kids (.mk k tag key text cl al sl (e, lv, m, d, p, q) kids) = kids from rfl] at hS
  have hmx := depL_mx kids
  have hml : (kids.map (fun t => (dep t : Int))).length = kids.length := List.length_map ..
  generalize kids.map (fun t => (dep t : Int)) = X at *
  have hm0 : mxI (X ++ [0]) = (depL kids : Int) := by rw [mx_app, hmx]; simp [mxI]
  show Calls Tryd.prog 14 #[.agg #[.int .i64 k, .string tag, .string key, .string text, .slice a1 cl.length m1, .slice a2 al.length m2, .slice a3 sl.length m3, .int .i64 e, .int .i64 lv, .int .i64 m, .int .i64 d, .bool p, .bool q, .slice a4 H.length m4], v] w _
  refine enter Tryd.func14 rfl Tryd.ntmps14 rfl (fun a hk => ?_)
  (repeat' (first | (show wpListIn _ _ _ _ _ (_ :: _) _ _; first | (refine wx1 ?_; clear hk a; intro a hk) | (refine wx2 ?_ ?_ <;> (intro hp; clear hk a; intro a hk)) | (refine wx3 ?_; clear hk hS a; intro w b hS a hk) | (refine wx4 ?_; clear hk hS a; intro w hS a hk) | (refine wx5 ?_; clear hk hS a; intro w v hS a hk) | fail) | refine wx0 ?_ | (refine s_end hk ?_; clear hk a; intro a hk) | fail))
  rename Value => vx
  refine sg hk (g_callO hk (hf := by kernel_rfl) (hc := max0_any (X ++ [0]) (by simp) vx _ (OwT.rd (hS.rd (A := OwT 3 (X ++ [0]) vx) (by (repeat (first | exact At.here | apply At.there))))) (by rw [List.length_append]; simp; omega)) (h := ?_)); clear hk a; rintro _ w ⟨rfl, hS1⟩ a hk; replace hS := hS.call0 hS1; clear hS1
  rw [hm0] at hk
  (repeat' (first | (show wpListIn _ _ _ _ _ (_ :: _) _ _; first | (refine wx1 ?_; clear hk a; intro a hk) | (refine wx2 ?_ ?_ <;> (intro hp; clear hk a; intro a hk)) | (refine wx3 ?_; clear hk hS a; intro w b hS a hk) | (refine wx4 ?_; clear hk hS a; intro w hS a hk) | (refine wx5 ?_; clear hk hS a; intro w v hS a hk) | fail) | refine wx0 ?_ | (refine s_end hk ?_; clear hk a; intro a hk) | fail))
  exact done1 hk (h := ⟨by rw [show (1 : Int) + (depL kids : Int) = ((depL kids + 1 : Nat) : Int) by omega], hS.sub (Sub.under (Sub.under .refl))⟩)
theorem depth_any (t : Tree) (h : NdH) (w0 : World) (hp : P7 t) (hr : TrR w0 t h) : Calls Tryd.prog 6 #[ndV h] w0 (Ret fun v w => v = .int .i64 (dep t : Int) ∧ St w0 [] w) := by
  have hr0 := hr
  obtain ⟨k, tag, key, text, cl, al, sl, e, lv, m, d, p, q, kids, a1, m1, a2, m2, a3, m3, a4, m4, H, rfl, rfl, -⟩ := hr.split
  show Calls Tryd.prog 6 #[.agg #[.int .i64 k, .string tag, .string key, .string text, .slice a1 cl.length m1, .slice a2 al.length m2, .slice a3 sl.length m3, .int .i64 e, .int .i64 lv, .int .i64 m, .int .i64 d, .bool p, .bool q, .slice a4 H.length m4]] w0 _
  refine enter Tryd.func6 rfl Tryd.ntmps6 rfl (fun a hk => ?_); have hS := St.refl w0
  (repeat' (first | (show wpListIn _ _ _ _ _ (_ :: _) _ _; first | (refine wx1 ?_; clear hk a; intro a hk) | (refine wx2 ?_ ?_ <;> (intro hp; clear hk a; intro a hk)) | (refine wx3 ?_; clear hk hS a; intro w b hS a hk) | (refine wx4 ?_; clear hk hS a; intro w hS a hk) | (refine wx5 ?_; clear hk hS a; intro w v hS a hk) | fail) | refine wx0 ?_ | (refine s_end hk ?_; clear hk a; intro a hk) | fail))
  refine sg hk (g_callO hk (hf := by kernel_rfl) (hc := fold_any 14 (by kernel_rfl) (fun t => (dep t : Int)) P7 P7.kids depth1_any _ _ (k, tag, key, text, ⟨a1, cl.length, m1⟩, ⟨a2, al.length, m2⟩, ⟨a3, sl.length, m3⟩, (e, lv, m, d, p, q), ⟨a4, H.length, m4⟩) _ (Nat.lt_succ_self _) hp (hS.rdTr hr0)) (h := ?_)); clear hk a; rintro _ w ⟨rfl, hS1⟩ a hk; replace hS := hS.call0 hS1; clear hS1
  (repeat' (first | (show wpListIn _ _ _ _ _ (_ :: _) _ _; first | (refine wx1 ?_; clear hk a; intro a hk) | (refine wx2 ?_ ?_ <;> (intro hp; clear hk a; intro a hk)) | (refine wx3 ?_; clear hk hS a; intro w b hS a hk) | (refine wx4 ?_; clear hk hS a; intro w hS a hk) | (refine wx5 ?_; clear hk hS a; intro w v hS a hk) | fail) | refine wx0 ?_ | (refine s_end hk ?_; clear hk a; intro a hk) | fail))
  exact done1 hk (h := ⟨rfl, hS.nil⟩)
end Go.Proofs.YtipdgobplfkipaaDoor
namespace Go.Proofs.YtipdgobplfkipaaDoor
open Go.RowKit
set_option maxRecDepth 100000
attribute [local irreducible] Go.Code.wpIn Go.wpListIn Go.Calls Gives Go.Exit.then Go.Exit.inBlock Done ObxE

theorem and_bd (p : Int) (m : Nat) (hm : m < 4611686018427387904) : 0 ≤ bits .and .i64 p (m : Int) ∧ bits .and .i64 p (m : Int) ≤ (m : Int) := by
  have h1 : (BitVec.ofInt 64 p &&& BitVec.ofInt 64 (m : Int)).toNat ≤ m := by
    rw [BitVec.toNat_and]
    refine Nat.le_trans Nat.and_le_right ?_
    rw [BitVec.ofInt_natCast, BitVec.toNat_ofNat, Nat.mod_eq_of_lt (by omega)]
    exact Nat.le_refl m
  have h2 : bits .and .i64 p (m : Int) = ((BitVec.ofInt 64 p &&& BitVec.ofInt 64 (m : Int)).toNat : Int) := by
    show IntKind.i64.wrap ((BitVec.ofInt 64 p &&& BitVec.ofInt 64 (m : Int)).toNat : Int) = _
    exact IntWalk.i64_in _ ⟨by omega, by omega⟩
  rw [h2]
  omega
theorem snap_chn (wide : Bool) : ∀ n, snapT (chnT wide n) = chnT wide n
  | 0 => rfl
  | n + 1 => by
    have ih := snap_chn wide n
    rw [chnT, snapT]
    by_cases h : n = 0 ∧ wide = false
    · rw [if_pos h]; rfl
    · rw [if_neg h, snapTs, snapTs, ih]; rfl
theorem dep_chn (wide : Bool) : ∀ n, 1 ≤ n → dep (chnT wide n) = n + (if wide then 1 else 0)
  | 0, h => absurd h (by omega)
  | n + 1, _ => by
    rw [chnT, dep]
    by_cases h : n = 0 ∧ wide = false
    · rw [if_pos h, depL]; obtain ⟨rfl, rfl⟩ := h; rfl
    · rw [if_neg h, depL, depL]
      by_cases hn : n = 0
      · subst hn
        cases wide with
        | false => exact absurd ⟨rfl, rfl⟩ h
        | true => rfl
      · have ih := dep_chn wide n (by omega)
        rw [ih]; cases wide <;> simp
theorem fits_chn (wide : Bool) : ∀ n, Fits (chnT wide n)
  | 0 => .mk (by decide) (by decide) (by decide) (by decide) (by simp)
  | n + 1 => by
    have ih := fits_chn wide n
    rw [chnT]
    by_cases h : n = 0 ∧ wide = false
    · rw [if_pos h]; exact .mk (by decide) (by decide) (by decide) (by decide) (by simp)
    · rw [if_neg h]
      refine .mk (by decide) (by decide) (by decide) (by show (1 : Nat) ≤ 1000; decide) ?_
      intro t ht
      rw [List.mem_singleton] at ht
      subst ht; exact ih
theorem cnt_chn (wide : Bool) : ∀ n, cnt (chnT wide n) ≤ n + 1
  | 0 => by simp [chnT, cnt, cntL]
  | n + 1 => by
    have ih := cnt_chn wide n
    rw [chnT, cnt]
    by_cases h : n = 0 ∧ wide = false
    · rw [if_pos h, cntL]; omega
    · rw [if_neg h, cntL, cntL]; omega
theorem rep_len (x : List UInt8) : ∀ n, (repB x n).length = n * x.length
  | 0 => by simp [repB]
  | n + 1 => by rw [repB, List.length_append, rep_len x n, Nat.succ_mul]
theorem ba_size (l : List UInt8) : (⟨l.toArray⟩ : ByteArray).size = l.length := by simp [ByteArray.size]
theorem ba_cat (a b : List UInt8) : (⟨a.toArray⟩ : ByteArray) ++ ⟨b.toArray⟩ = ⟨(a ++ b).toArray⟩ := by
  apply ByteArray.ext
  simp [ByteArray.data_append]

theorem wdepth_any (wide : Bool) (w0 : World) : Calls Tryd.prog 7 #[.bool wide] w0 (Ret fun v w => v = .int .i64 (((if wide then 1 else 0 : Nat)) : Int) ∧ St w0 [] w) := by
  refine enter Tryd.func7 rfl Tryd.ntmps7 rfl (fun a hk => ?_); have hS := St.refl w0
  cases wide with
  | false =>
    (repeat' (first | (show wpListIn _ _ _ _ _ (_ :: _) _ _; first | (refine wx1 ?_; clear hk a; intro a hk) | (refine wx2 ?_ ?_ <;> (intro hp; clear hk a; intro a hk)) | (refine wx3 ?_; clear hk hS a; intro w b hS a hk) | (refine wx4 ?_; clear hk hS a; intro w hS a hk) | (refine wx5 ?_; clear hk hS a; intro w v hS a hk) | fail) | refine wx0 ?_ | (refine s_end hk ?_; clear hk a; intro a hk) | fail))
    exact done1 hk (h := ⟨rfl, hS.nil⟩)
  | true =>
    (repeat' (first | (show wpListIn _ _ _ _ _ (_ :: _) _ _; first | (refine wx1 ?_; clear hk a; intro a hk) | (refine wx2 ?_ ?_ <;> (intro hp; clear hk a; intro a hk)) | (refine wx3 ?_; clear hk hS a; intro w b hS a hk) | (refine wx4 ?_; clear hk hS a; intro w hS a hk) | (refine wx5 ?_; clear hk hS a; intro w v hS a hk) | fail) | refine wx0 ?_ | (refine s_end hk ?_; clear hk a; intro a hk) | fail))
    exact done1 hk (h := ⟨rfl, hS.nil⟩)

set_option maxHeartbeats 4000000 in
theorem deepl_any (n : Int) (wide : Bool) (w0 : World) (ht : TabW w0) : Calls Tryd.prog 3 #[.int .i64 n, .bool wide] w0 (Ret fun v w => v = .bool true ∧ St w0 [] w) := by
  refine enter Tryd.func3 rfl Tryd.ntmps3 rfl (fun a hk => ?_); have hS := St.refl w0
  (repeat' (first | (show wpListIn _ _ _ _ _ (_ :: _) _ _; first | (refine wx1 ?_; clear hk a; intro a hk) | (refine wx2 ?_ ?_ <;> (intro hp; clear hk a; intro a hk)) | (refine wx3 ?_; clear hk hS a; intro w b hS a hk) | (refine wx4 ?_; clear hk hS a; intro w hS a hk) | (refine wx5 ?_; clear hk hS a; intro w v hS a hk) | fail) | refine wx0 ?_ | (refine s_end hk ?_; clear hk a; intro a hk) | fail))
  refine sg hk (g_callO hk (hf := by kernel_rfl) (hc := awake_any _ (ht.mono hS.below)) (h := ?_)); clear hk a; rintro _ w ⟨rfl, hS1⟩ a hk; replace hS := hS.call0 hS1; clear hS1
  (repeat' (first | (show wpListIn _ _ _ _ _ (_ :: _) _ _; first | (refine wx1 ?_; clear hk a; intro a hk) | (refine wx2 ?_ ?_ <;> (intro hp; clear hk a; intro a hk)) | (refine wx3 ?_; clear hk hS a; intro w b hS a hk) | (refine wx4 ?_; clear hk hS a; intro w hS a hk) | (refine wx5 ?_; clear hk hS a; intro w v hS a hk) | fail) | refine wx0 ?_ | (refine s_end hk ?_; clear hk a; intro a hk) | fail))
  refine sg hk (g_and (p := n) (q := ((15 : Nat) : Int)) hk ?_ (hb := rfl)); clear hk a; intro a hk
  have hq := and_bd n 15 (by omega)
  generalize bits .and .i64 n ((15 : Nat) : Int) = q at *
  obtain ⟨k, rfl⟩ : ∃ k : Nat, q = k := ⟨q.toNat, by omega⟩
  (repeat' (first | (show wpListIn _ _ _ _ _ (_ :: _) _ _; first | (refine wx1 ?_; clear hk a; intro a hk) | (refine wx2 ?_ ?_ <;> (intro hp; clear hk a; intro a hk)) | (refine wx3 ?_; clear hk hS a; intro w b hS a hk) | (refine wx4 ?_; clear hk hS a; intro w hS a hk) | (refine wx5 ?_; clear hk hS a; intro w v hS a hk) | fail) | refine wx0 ?_ | (refine s_end hk ?_; clear hk a; intro a hk) | fail))
  rw [show (35 : Int) + (k : Int) = ((35 + k : Nat) : Int) by omega] at hk
  replace hk := Kn.kp [0, 1, 5, 14, 15] hk
  refine wp_for (35 + k) (fun i _ => [(5, .string ⟨(repB [40, 112, 32] i).toArray⟩), (15, .int .i64 (i : Int))]) (fun _ _ => []) (fun _ _ => True) () hk (by repeat (first | exact trivial | refine ⟨rfl, ?_⟩)) hS.sb trivial ?_
  clear hk hS a
  rintro i - a w hi hk hS -
  have hz := rep_len [40, 112, 32] i
  have hz2 := ba_size (repB [40, 112, 32] i)
  rw [List.length_cons, List.length_cons, List.length_cons, List.length_nil] at hz
  by_cases hil : i < 35 + k
  · (repeat' (first | (show wpListIn _ _ _ _ _ (_ :: _) _ _; first | (refine wx1 ?_; clear hk a; intro a hk) | (refine wx2 ?_ ?_ <;> (intro hp; clear hk a; intro a hk)) | (refine wx3 ?_; clear hk hS a; intro w b hS a hk) | (refine wx4 ?_; clear hk hS a; intro w hS a hk) | (refine wx5 ?_; clear hk hS a; intro w v hS a hk) | fail) | refine wx0 ?_ | (refine s_end hk ?_; clear hk a; intro a hk) | fail))
    refine sg hk (g_cat (s := ⟨(repB [40, 112, 32] i).toArray⟩) (r := ⟨[40, 112, 32].toArray⟩) hk ?_ (hl := by rw [ba_size, ba_size]; simp only [List.length_cons, List.length_nil, maxLen]; omega)); clear hk a; intro a hk
    rw [ba_cat] at hk
    (repeat' (first | (show wpListIn _ _ _ _ _ (_ :: _) _ _; first | (refine wx1 ?_; clear hk a; intro a hk) | (refine wx2 ?_ ?_ <;> (intro hp; clear hk a; intro a hk)) | (refine wx3 ?_; clear hk hS a; intro w b hS a hk) | (refine wx4 ?_; clear hk hS a; intro w hS a hk) | (refine wx5 ?_; clear hk hS a; intro w v hS a hk) | fail) | refine wx0 ?_ | (refine s_end hk ?_; clear hk a; intro a hk) | fail))
    exact ⟨hil, (), hk.sd, hS.sb, trivial⟩
  · have hie : i = 35 + k := by omega
    subst hie
    obtain ⟨wd, hwd⟩ : ∃ wd, wd = wide := ⟨_, rfl⟩
    obtain ⟨pre, hpre⟩ : ∃ pre, repB [40, 112, 32] (35 + k) ++ (if wd then [39, 120, 39] else []) = pre := ⟨_, rfl⟩
    have hpl : pre.length ≤ 160 := by rw [← hpre, List.length_append]; split <;> simp only [List.length_cons, List.length_nil] <;> omega
    cases wide
    focus
      have hp2 : repB [40, 112, 32] (35 + k) = pre := by rw [← hpre, hwd]; simp
      rw [hp2] at hk
      (repeat' (first | (show wpListIn _ _ _ _ _ (_ :: _) _ _; first | (refine wx1 ?_; clear hk a; intro a hk) | (refine wx2 ?_ ?_ <;> (intro hp; clear hk a; intro a hk)) | (refine wx3 ?_; clear hk hS a; intro w b hS a hk) | (refine wx4 ?_; clear hk hS a; intro w hS a hk) | (refine wx5 ?_; clear hk hS a; intro w v hS a hk) | fail) | refine wx0 ?_ | (refine s_end hk ?_; clear hk a; intro a hk) | fail))
    rotate_left
    focus
      (repeat' (first | (show wpListIn _ _ _ _ _ (_ :: _) _ _; first | (refine wx1 ?_; clear hk a; intro a hk) | (refine wx2 ?_ ?_ <;> (intro hp; clear hk a; intro a hk)) | (refine wx3 ?_; clear hk hS a; intro w b hS a hk) | (refine wx4 ?_; clear hk hS a; intro w hS a hk) | (refine wx5 ?_; clear hk hS a; intro w v hS a hk) | fail) | refine wx0 ?_ | (refine s_end hk ?_; clear hk a; intro a hk) | fail))
      refine sg hk (g_cat (s := ⟨(repB [40, 112, 32] (35 + k)).toArray⟩) (r := ⟨[39, 120, 39].toArray⟩) hk ?_ (hl := by rw [ba_size, ba_size]; simp only [List.length_cons, List.length_nil, maxLen]; omega)); clear hk a; intro a hk
      have hp2 : repB [40, 112, 32] (35 + k) ++ [39, 120, 39] = pre := by rw [← hpre, hwd]; rfl
      rw [ba_cat, hp2] at hk
      (repeat' (first | (show wpListIn _ _ _ _ _ (_ :: _) _ _; first | (refine wx1 ?_; clear hk a; intro a hk) | (refine wx2 ?_ ?_ <;> (intro hp; clear hk a; intro a hk)) | (refine wx3 ?_; clear hk hS a; intro w b hS a hk) | (refine wx4 ?_; clear hk hS a; intro w hS a hk) | (refine wx5 ?_; clear hk hS a; intro w v hS a hk) | fail) | refine wx0 ?_ | (refine s_end hk ?_; clear hk a; intro a hk) | fail))
    all_goals
      have h00 : (⟨pre.toArray⟩ : ByteArray) = ⟨(pre ++ repB [41] 0).toArray⟩ := by simp [repB]
      rw [h00] at hk
      replace hk := Kn.kp [0, 1, 5, 23, 24] hk
      refine wp_for (35 + k) (fun i _ => [(5, .string ⟨(pre ++ repB [41] i).toArray⟩), (24, .int .i64 (i : Int))]) (fun _ _ => []) (fun _ _ => True) () hk (by repeat (first | exact trivial | refine ⟨rfl, ?_⟩)) hS.sb trivial ?_
      clear hk hS a
      rintro i - a w hi hk hS -
      have hz3 := rep_len [41] i
      rw [List.length_cons, List.length_nil] at hz3
      by_cases hil : i < 35 + k
      · (repeat' (first | (show wpListIn _ _ _ _ _ (_ :: _) _ _; first | (refine wx1 ?_; clear hk a; intro a hk) | (refine wx2 ?_ ?_ <;> (intro hp; clear hk a; intro a hk)) | (refine wx3 ?_; clear hk hS a; intro w b hS a hk) | (refine wx4 ?_; clear hk hS a; intro w hS a hk) | (refine wx5 ?_; clear hk hS a; intro w v hS a hk) | fail) | refine wx0 ?_ | (refine s_end hk ?_; clear hk a; intro a hk) | fail))
        refine sg hk (g_cat (s := ⟨(pre ++ repB [41] i).toArray⟩) (r := ⟨[41].toArray⟩) hk ?_ (hl := by rw [ba_size, ba_size, List.length_append]; simp only [List.length_cons, List.length_nil, maxLen]; omega)); clear hk a; intro a hk
        rw [ba_cat, List.append_assoc] at hk
        (repeat' (first | (show wpListIn _ _ _ _ _ (_ :: _) _ _; first | (refine wx1 ?_; clear hk a; intro a hk) | (refine wx2 ?_ ?_ <;> (intro hp; clear hk a; intro a hk)) | (refine wx3 ?_; clear hk hS a; intro w b hS a hk) | (refine wx4 ?_; clear hk hS a; intro w hS a hk) | (refine wx5 ?_; clear hk hS a; intro w v hS a hk) | fail) | refine wx0 ?_ | (refine s_end hk ?_; clear hk a; intro a hk) | fail))
        exact ⟨hil, (), hk.sd, hS.sb, trivial⟩
      · have hie : i = 35 + k := by omega
        subst hie
        have hd : (⟨(pre ++ repB [41] (35 + k)).toArray⟩ : ByteArray) = deepS (35 + k) wd := by unfold deepS; rw [← hpre]
        have hds : (deepS (35 + k) wd).size ≤ 300 := by rw [← hd, ba_size, List.length_append]; omega
        rw [hd] at hk
        (repeat' (first | (show wpListIn _ _ _ _ _ (_ :: _) _ _; first | (refine wx1 ?_; clear hk a; intro a hk) | (refine wx2 ?_ ?_ <;> (intro hp; clear hk a; intro a hk)) | (refine wx3 ?_; clear hk hS a; intro w b hS a hk) | (refine wx4 ?_; clear hk hS a; intro w hS a hk) | (refine wx5 ?_; clear hk hS a; intro w v hS a hk) | fail) | refine wx0 ?_ | (refine s_end hk ?_; clear hk a; intro a hk) | fail))
        refine sg hk (g_callO hk (hf := by kernel_rfl) (hc := parseL_any (deepS (35 + k) wd) (by omega) hS) (h := ?_)); clear hk hS a; intro vr w hS a hk
        by_cases hk6 : k < 6
        · rw [deep_is k wd hk6] at hS
          obtain ⟨u, rfl, hS⟩ := hS
          rw [snap_chn] at hS
          obtain ⟨⟨k2, tag2, key2, text2, ⟨x12, x22, x32⟩, ⟨y12, y22, y32⟩, ⟨z12, z22, z32⟩, ⟨e2, lv2, m2, d2, p2, q2⟩, ⟨u12, u22, u32⟩⟩, rfl, hS1⟩ := St.tree hS .here
          clear hS
          have hS := hS1
          clear hS1
          (repeat' (first | (show wpListIn _ _ _ _ _ (_ :: _) _ _; first | (refine wx1 ?_; clear hk a; intro a hk) | (refine wx2 ?_ ?_ <;> (intro hp; clear hk a; intro a hk)) | (refine wx3 ?_; clear hk hS a; intro w b hS a hk) | (refine wx4 ?_; clear hk hS a; intro w hS a hk) | (refine wx5 ?_; clear hk hS a; intro w v hS a hk) | fail) | refine wx0 ?_ | (refine s_end hk ?_; clear hk a; intro a hk) | fail))
          refine sg hk (g_callO hk (hf := by kernel_rfl) (hc := depth_any (chnT wd (35 + k)) (k2, tag2, key2, text2, ⟨x12, x22, x32⟩, ⟨y12, y22, y32⟩, ⟨z12, z22, z32⟩, (e2, lv2, m2, d2, p2, q2), ⟨u12, u22, u32⟩) _ ⟨fits_chn wd _, by have := cnt_chn wd (35 + k); omega⟩ (hS.trR (by (repeat (first | exact At.here | apply At.there))))) (h := ?_)); clear hk a; rintro _ w ⟨rfl, hS1⟩ a hk; replace hS := hS.call0 hS1; clear hS1
          rw [dep_chn wd (35 + k) (by omega), hwd] at hk
          (repeat' (first | (show wpListIn _ _ _ _ _ (_ :: _) _ _; first | (refine wx1 ?_; clear hk a; intro a hk) | (refine wx2 ?_ ?_ <;> (intro hp; clear hk a; intro a hk)) | (refine wx3 ?_; clear hk hS a; intro w b hS a hk) | (refine wx4 ?_; clear hk hS a; intro w hS a hk) | (refine wx5 ?_; clear hk hS a; intro w v hS a hk) | fail) | refine wx0 ?_ | (refine s_end hk ?_; clear hk a; intro a hk) | fail))
          refine sg hk (g_callO hk (hf := by kernel_rfl) (hc := wdepth_any _ _) (h := ?_)); clear hk a; rintro _ w ⟨rfl, hS1⟩ a hk; replace hS := hS.call0 hS1; clear hS1
          simp only [if_true, if_false, Bool.false_eq_true] at hk
          (repeat' (first | (show wpListIn _ _ _ _ _ (_ :: _) _ _; first | (refine wx1 ?_; clear hk a; intro a hk) | (refine wx2 ?_ ?_ <;> (intro hp; clear hk a; intro a hk)) | (refine wx3 ?_; clear hk hS a; intro w b hS a hk) | (refine wx4 ?_; clear hk hS a; intro w hS a hk) | (refine wx5 ?_; clear hk hS a; intro w v hS a hk) | fail) | refine wx0 ?_ | (refine s_end hk ?_; clear hk a; intro a hk) | fail))
          all_goals first
            | exact done1 hk (h := ⟨rfl, hS.nil⟩)
            | (exfalso; omega)
        · obtain ⟨j, rfl⟩ : ∃ j, k = 6 + j := ⟨k - 6, by omega⟩
          rw [show 35 + (6 + j) = 41 + j by omega] at hS hk
          rw [deep_no j wd (by omega)] at hS
          obtain ⟨rfl, hS⟩ := hS
          (repeat' (first | (show wpListIn _ _ _ _ _ (_ :: _) _ _; first | (refine wx1 ?_; clear hk a; intro a hk) | (refine wx2 ?_ ?_ <;> (intro hp; clear hk a; intro a hk)) | (refine wx3 ?_; clear hk hS a; intro w b hS a hk) | (refine wx4 ?_; clear hk hS a; intro w hS a hk) | (refine wx5 ?_; clear hk hS a; intro w v hS a hk) | fail) | refine wx0 ?_ | (refine s_end hk ?_; clear hk a; intro a hk) | fail))
          all_goals first
            | exact done1 hk (h := ⟨rfl, hS.nil⟩)
            | (exfalso; omega)
theorem laid_NotationDeep {W : World} (hL : laidMetH Tryd.prog Rows.notationDeepRow.laid W) : TabW W := by
  rw [MakeChecks.laidMetH_plain _ _ _ (by kernel_rfl)] at hL
  have h2 := laid_tail (laid_tail hL)
  exact Lib.tabIs_of_head (g := 1) (t := 125) (by kernel_rfl) (by kernel_rfl) Tryd.underlying125 Tryd.underlying114 (by kernel_rfl) (by kernel_rfl) h2
theorem walk_NotationDeep (W : World) (vs : List Value) (hL : laidMetH Tryd.prog Rows.notationDeepRow.laid W) (h : Args Tryd.prog W [3, 4] vs) : Calls Tryd.prog 3 vs.toArray W (Ret fun v w => v = .bool true ∧ St W [] w) := by
  obtain ⟨v1, v2, rfl, ha, hb⟩ := args2 h
  obtain ⟨x, rfl, _⟩ := ha.int (iT rfl) (aT rfl)
  obtain ⟨d, rfl⟩ := hb.bool Tryd.underlying4 (aT rfl)
  exact deepl_any x d W (laid_NotationDeep hL)
end Go.Proofs.YtipdgobplfkipaaDoor
