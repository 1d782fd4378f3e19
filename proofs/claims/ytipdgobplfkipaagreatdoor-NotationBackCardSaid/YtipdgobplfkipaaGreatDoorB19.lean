/- Layer 7: nodes told flat, each with how deep it stands. Layer 7: views of flat nodes. Layer 7: views as they are shown, in plain words. Layer 7: which views may be, in plain words. Layer 8, plain: a view that may be, as it is written: short, and read again. -/
import Derived.Test.YtipdgobplfkipaaGreatDoorB18
import Derived.Test.YtipdgobplfkipaaGreatDoorB07
import Derived.Test.YtipdgobplfkipaaGreatDoorB17
import Derived.Test.YtipdgobplfkipaaGreatDoorB15
set_option linter.all false
namespace Go.Proofs.YtipdgobplfkipaaGreatDoor
open Go.RowKit
set_option maxRecDepth 100000
attribute [local irreducible] Go.Code.wpIn Go.wpListIn Go.Calls Gives Go.Exit.then Go.Exit.inBlock Done ObxE

abbrev FlH := Int × Int × ByteArray × ByteArray × ByteArray × Hd × Hd × Hd × Opt
abbrev flV (h : FlH) : Value := .agg (Enc.f h).toArray
def fewA (l : List (ByteArray × ByteArray)) (n : Nat) : List (ByteArray × ByteArray) := (l.take n).map (fun p => (cutF p.1 20, cutF p.2 40))
theorem fewA_len (l : List (ByteArray × ByteArray)) (n : Nat) : (fewA l n).length = min n l.length := by simp [fewA]
theorem fewA_snoc {l : List (ByteArray × ByteArray)} {i : Nat} {x : ByteArray × ByteArray} (h : l[i]? = some x) : fewA l (i + 1) = fewA l i ++ [(cutF x.1 20, cutF x.2 40)] := by simp [fewA, take_snoc h]
theorem cutF_len (s : ByteArray) (n : Nat) : (cutF s n).size ≤ n := by
  unfold cutF
  split
  · simp; omega
  · omega

def nodeF (k : Int) (tag key text : ByteArray) (cl : List ByteArray) (al : List (ByteArray × ByteArray)) (sl : List (ByteArray × Int)) (o : Opt) : Tree :=
  .mk k (cutF tag 20) (cutF key 20) (cutF text 70) (few03 cl 4) (fewA al 4) (few04 sl 4) o []

set_option maxHeartbeats 4000000 in
theorem node07_any (dp k : Int) (tag key text : ByteArray) (cl : List ByteArray) (al : List (ByteArray × ByteArray)) (sl : List (ByteArray × Int)) (e lv m d : Int) (p q : Bool) (a1 a2 a3 : Option Addr) (m1 m2 m3 : Nat) (w0 : World)
    (c1 : SlT cl (.slice a1 cl.length m1) w0) (c2 : SlT al (.slice a2 al.length m2) w0) (c3 : SlT sl (.slice a3 sl.length m3) w0) :
    Calls Tryz.prog 34 #[.agg #[.int .i64 dp, .int .i64 k, .string tag, .string key, .string text, .slice a1 cl.length m1, .slice a2 al.length m2, .slice a3 sl.length m3, .int .i64 e, .int .i64 lv, .int .i64 m, .int .i64 d, .bool p, .bool q]] w0
      (Ret fun v w => St w0 [treeH (nodeF k tag key text cl al sl (e, lv, m, d, p, q)) v] w) := by
  have ll := few03_len cl 4
  have hs4 := few04_len sl 4
  have hm2 : al.length ≤ maxLen := c2.len_le
  simp only [maxLen] at hm2
  refine enter Tryz.func34 rfl Tryz.ntmps34 rfl (fun a hk => ?_); have hS := St.refl w0
  (repeat' (first | (show wpListIn _ _ _ _ _ (_ :: _) _ _; first | (refine wx1 ?_; clear hk a; intro a hk) | (refine wx2 ?_ ?_ <;> (intro hp; clear hk a; intro a hk)) | (refine wx3 ?_; clear hk hS a; intro w b hS a hk) | (refine wx4 ?_; clear hk hS a; intro w hS a hk) | (refine wx5 ?_; clear hk hS a; intro w v hS a hk) | fail) | refine wx0 ?_ | (refine s_end hk ?_; clear hk a; intro a hk) | fail))
  rename_i b1
  rename Nat => b2
  refine wp_drawn 21 mixed (by kernel_rfl) hk hS ?_; clear hk hS a
  (repeat' (first | (show ObxE _ _ _ _ _ _ _ _ _ (_ :: _) _ _ _; first | refine ox1 ?_ | (refine ox2 ?_ ?_ <;> intro hp) | fail) | fail))
  refine' obe_val (fun us a w hk hd hS => ?_) ?_; rotate_left; focus (have hk := Kn.vw hk (by repeat (first | exact VW.nil | apply VW.val rfl | apply VW.base rfl rfl | apply VW.res rfl | apply VW.upd rfl | apply VW.cpy rfl | apply VW.dep rfl | apply VW.fn rfl | apply VW.lnd rfl | apply VW.tak rfl)); exact g_callO hk (hf := by kernel_rfl) (hc := cut_any _ 20 _) (h := fun _ _ h => h))
  (repeat' (first | (show ObxE _ _ _ _ _ _ _ _ _ (_ :: _) _ _ _; first | refine ox1 ?_ | (refine ox2 ?_ ?_ <;> intro hp) | fail) | fail))
  refine' obe_val (fun us a w hk hd hS => ?_) ?_; rotate_left; focus (have hk := Kn.vw hk (by repeat (first | exact VW.nil | apply VW.val rfl | apply VW.base rfl rfl | apply VW.res rfl | apply VW.upd rfl | apply VW.cpy rfl | apply VW.dep rfl | apply VW.fn rfl | apply VW.lnd rfl | apply VW.tak rfl)); exact g_callO hk (hf := by kernel_rfl) (hc := cut_any _ 20 _) (h := fun _ _ h => h))
  (repeat' (first | (show ObxE _ _ _ _ _ _ _ _ _ (_ :: _) _ _ _; first | refine ox1 ?_ | (refine ox2 ?_ ?_ <;> intro hp) | fail) | fail))
  refine' obe_val (fun us a w hk hd hS => ?_) ?_; rotate_left; focus (have hk := Kn.vw hk (by repeat (first | exact VW.nil | apply VW.val rfl | apply VW.base rfl rfl | apply VW.res rfl | apply VW.upd rfl | apply VW.cpy rfl | apply VW.dep rfl | apply VW.fn rfl | apply VW.lnd rfl | apply VW.tak rfl)); exact g_callO hk (hf := by kernel_rfl) (hc := cut_any _ 70 _) (h := fun _ _ h => h))
  (repeat' (first | (show ObxE _ _ _ _ _ _ _ _ _ (_ :: _) _ _ _; first | refine ox1 ?_ | (refine ox2 ?_ ?_ <;> intro hp) | fail) | fail))
  refine' obe_res (fun us a w hk hd hS => ?_) ?_; rotate_left; focus (have hk := Kn.vw hk (by repeat (first | exact VW.nil | apply VW.val rfl | apply VW.base rfl rfl | apply VW.res rfl | apply VW.upd rfl | apply VW.cpy rfl | apply VW.dep rfl | apply VW.fn rfl | apply VW.lnd rfl | apply VW.tak rfl)); exact g_callO hk (hf := by kernel_rfl) (hc := few03_any cl 4 (by omega) _ _ (hS.rdT c1)) (h := fun _ _ h => h))
  (repeat' (first | (show ObxE _ _ _ _ _ _ _ _ _ (_ :: _) _ _ _; first | refine ox1 ?_ | (refine ox2 ?_ ?_ <;> intro hp) | fail) | fail))
  refine' obe_res (fun us a w hk hd hS => ?_) ?_; rotate_left; focus (have hk := Kn.vw hk (by repeat (first | exact VW.nil | apply VW.val rfl | apply VW.base rfl rfl | apply VW.res rfl | apply VW.upd rfl | apply VW.cpy rfl | apply VW.dep rfl | apply VW.fn rfl | apply VW.lnd rfl | apply VW.tak rfl)); exact g_callO hk (hf := by kernel_rfl) (hc := few04_any sl 4 (by omega) _ _ (hS.rdT c3)) (h := fun _ _ h => h))
  (repeat' (first | (show ObxE _ _ _ _ _ _ _ _ _ (_ :: _) _ _ _; first | refine ox1 ?_ | (refine ox2 ?_ ?_ <;> intro hp) | fail) | fail))
  refine' obe_fn [13, 16] (fun l => .agg #[.int .i64 k, .string (cutF tag 20), .string (cutF key 20), .string (cutF text 70), l.getD 0 undef, .slice none 0 0, l.getD 1 undef, .int .i64 e, .int .i64 lv, .int .i64 m, .int .i64 d, .bool p, .bool q, .slice none 0 0]) (fun us a w hk hd hS => ?_) ?_ (by intro k e; simp only [List.mem_cons, List.not_mem_nil, or_false] at e; rcases e with rfl | rfl; exact ⟨18, _, rfl, rfl⟩; exact ⟨21, _, rfl, rfl⟩)
  · have hk := Kn.vw hk (by repeat (first | exact VW.nil | apply VW.val rfl | apply VW.base rfl rfl | apply VW.res rfl | apply VW.upd rfl | apply VW.cpy rfl | apply VW.dep rfl | apply VW.fn rfl | apply VW.lnd rfl | apply VW.tak rfl))
    have h1 : (OwT 9 (few03 cl 4) (us 13)).rd w := hd.2.2.2.2.1
    have h2 : (OwT 75 (few04 sl 4) (us 16)).rd w := hd.2.2.2.2.2.1
    obtain ⟨_, _, e1, _⟩ := (OwT.rd h1).shape
    obtain ⟨_, _, e2, _⟩ := (OwT.rd h2).shape
    simp only [Nat.zero_add, Nat.reduceAdd] at hk
    simp only [List.map, List.getD_cons_zero, List.getD_cons_succ]
    rw [e1, e2] at hk ⊢
    exact g_build hk ⟨rfl, St.refl w⟩ (fsT rfl) (oT rfl)
  refine' obe_res (fun us a w hk hd hS => ?_) ?_; rotate_left; focus (have hk := Kn.vw hk (by repeat (first | exact VW.nil | apply VW.val rfl | apply VW.base rfl rfl | apply VW.res rfl | apply VW.upd rfl | apply VW.cpy rfl | apply VW.dep rfl | apply VW.fn rfl | apply VW.lnd rfl | apply VW.tak rfl)); exact v_alloc hk (oT rfl))
  refine obe_nil ⟨rfl, ?_⟩; intro us a w hk hS
  simp only [resE, List.cons_append, List.nil_append, Nat.zero_add, Nat.reduceAdd] at hS
  obtain ⟨b3, hb3, hS1⟩ := hS.ptv (by (repeat (first | exact At.here | apply At.there))); replace hS := hS1; clear hS1
  replace hk := Kn.kp [1, 2, 3, 24] hk
  simp only [HV.of, List.map, List.getD_cons_zero, List.getD_cons_succ, Nat.zero_add, Nat.reduceAdd] at hk
  generalize us 13 = v18 at hS hk
  generalize us 16 = v21 at hS hk
  rw [hb3] at hk
  obtain ⟨aov18, cv18, hshp, _⟩ := (OwT.rd (hS.rd (A := OwT 9 _ v18) (by (repeat (first | exact At.here | apply At.there))))).shape; subst hshp
  obtain ⟨aov21, cv21, hshp, _⟩ := (OwT.rd (hS.rd (A := OwT 75 _ v21) (by (repeat (first | exact At.here | apply At.there))))).shape; subst hshp
  (repeat' (first | (show wpListIn _ _ _ _ _ (_ :: _) _ _; first | (refine wx1 ?_; clear hk a; intro a hk) | (refine wx2 ?_ ?_ <;> (intro hp; clear hk a; intro a hk)) | (refine wx3 ?_; clear hk hS a; intro w b hS a hk) | (refine wx4 ?_; clear hk hS a; intro w hS a hk) | (refine wx5 ?_; clear hk hS a; intro w v hS a hk) | fail) | refine wx0 ?_ | (refine s_end hk ?_; clear hk a; intro a hk) | fail))
  replace hS := hS.nilT 73 PrS
  replace hk := Kn.kp [1, 2, 3, 4] hk
  refine wp_for 4 (fun i _ => [(4, .int .i64 (i : Int))]) (fun i v => [OwT 73 (fewA al i) (.slice v.1 i v.2), pts b3 [.int .i64 k, .string (cutF tag 20), .string (cutF key 20), .string (cutF text 70), .slice aov18 (few03 cl 4).length cv18, .slice v.1 i v.2, .slice aov21 (few04 sl 4).length cv21, .int .i64 e, .int .i64 lv, .int .i64 m, .int .i64 d, .bool p, .bool q, .slice none 0 0] 42, OwT 75 (few04 sl 4) (.slice aov21 (few04 sl 4).length cv21), OwT 9 (few03 cl 4) (.slice aov18 (few03 cl 4).length cv18), pts b2 [.int .i64 0, .string ⟨#[]⟩, .string ⟨#[]⟩, .string ⟨#[]⟩, .slice none 0 0, .slice none 0 0, .slice none 0 0, .int .i64 0, .int .i64 0, .int .i64 0, .int .i64 0, .bool false, .bool false, .slice none 0 0] 42, pts b1 [.int .i64 dp, .int .i64 k, .string tag, .string key, .string text, .slice a1 cl.length m1, .slice a2 al.length m2, .slice a3 sl.length m3, .int .i64 e, .int .i64 lv, .int .i64 m, .int .i64 d, .bool p, .bool q] 84]) (fun i _ => i ≤ al.length) ((none, 0) : Option Addr × Nat) hk (by repeat (first | exact trivial | refine ⟨rfl, ?_⟩)) hS.sb (by omega) ?_
  clear hk hS a
  rintro i ⟨ao, c⟩ a w hi hk hS hF
  have hlen := fewA_len al i
  have hv1 := hS.rdT c2
  simp only at hS hk
  by_cases hll : i < al.length
  · by_cases hlt : i < 4
    · obtain ⟨⟨nm, val⟩, hx⟩ : ∃ x, al[i]? = some x := ⟨_, List.getElem?_eq_getElem hll⟩
      have hst := fewA_snoc hx
      have hl1 : (fewA al (i + 1)).length = i + 1 := by rw [fewA_len]; omega
      (repeat' (first | (show wpListIn _ _ _ _ _ (_ :: _) _ _; first | (refine wx1 ?_; clear hk a; intro a hk) | (refine wx2 ?_ ?_ <;> (intro hp; clear hk a; intro a hk)) | (refine wx3 ?_; clear hk hS a; intro w b hS a hk) | (refine wx4 ?_; clear hk hS a; intro w hS a hk) | (refine wx5 ?_; clear hk hS a; intro w v hS a hk) | fail) | refine wx0 ?_ | (refine s_end hk ?_; clear hk a; intro a hk) | fail))
      refine wp_drawn 18 mixed (by kernel_rfl) hk hS ?_; clear hk hS a
      (repeat' (first | (show ObxE _ _ _ _ _ _ _ _ _ (_ :: _) _ _ _; first | refine ox1 ?_ | (refine ox2 ?_ ?_ <;> intro hp) | fail) | fail))
      refine' obe_val (fun us a w hk hd hS => ?_) ?_; rotate_left; focus (have hk := Kn.vw hk (by repeat (first | exact VW.nil | apply VW.val rfl | apply VW.base rfl rfl | apply VW.res rfl | apply VW.upd rfl | apply VW.cpy rfl | apply VW.dep rfl | apply VW.fn rfl | apply VW.lnd rfl | apply VW.tak rfl)); exact g_callO hk (hf := by kernel_rfl) (hc := cut_any _ 20 _) (h := fun _ _ h => h))
      (repeat' (first | (show ObxE _ _ _ _ _ _ _ _ _ (_ :: _) _ _ _; first | refine ox1 ?_ | (refine ox2 ?_ ?_ <;> intro hp) | fail) | fail))
      refine' obe_val (fun us a w hk hd hS => ?_) ?_; rotate_left; focus (have hk := Kn.vw hk (by repeat (first | exact VW.nil | apply VW.val rfl | apply VW.base rfl rfl | apply VW.res rfl | apply VW.upd rfl | apply VW.cpy rfl | apply VW.dep rfl | apply VW.fn rfl | apply VW.lnd rfl | apply VW.tak rfl)); exact g_callO hk (hf := by kernel_rfl) (hc := cut_any _ 40 _) (h := fun _ _ h => h))
      (repeat' (first | (show ObxE _ _ _ _ _ _ _ _ _ (_ :: _) _ _ _; first | refine ox1 ?_ | (refine ox2 ?_ ?_ <;> intro hp) | fail) | fail))
      refine' obe_res (fun us a w hk hd hS => ?_) ?_; rotate_left; focus (have hk := Kn.vw hk (by repeat (first | exact VW.nil | apply VW.val rfl | apply VW.base rfl rfl | apply VW.res rfl | apply VW.upd rfl | apply VW.cpy rfl | apply VW.dep rfl | apply VW.fn rfl | apply VW.lnd rfl | apply VW.tak rfl)); exact v_bsT (xs := [((cutF nm 20, cutF val 40) : PrS)]) (m := 0) hk (hT := eT rfl) (hE := zT rfl) (hz := oT rfl))
      refine obe_nil ⟨rfl, ?_⟩; intro us a w hk hS
      simp only [resE] at hS
      (repeat' (first | (show wpListIn _ _ _ _ _ (_ :: _) _ _; first | (refine wx1 ?_; clear hk a; intro a hk) | (refine wx2 ?_ ?_ <;> (intro hp; clear hk a; intro a hk)) | (refine wx3 ?_; clear hk hS a; intro w b hS a hk) | (refine wx4 ?_; clear hk hS a; intro w hS a hk) | (refine wx5 ?_; clear hk hS a; intro w v hS a hk) | fail) | refine wx0 ?_ | (refine s_end hk ?_; clear hk a; intro a hk) | fail))
      rw [← hst] at hS
      rename Value => vn
      obtain ⟨aovn, cvn, hshp, _⟩ := (OwT.rd (hS.rd (A := OwT 73 _ vn) (by (repeat (first | exact At.here | apply At.there))))).shape; subst hshp
      rw [hl1] at hS hk
      replace hk := Kn.kp [1, 2, 3, 4, 54, 55] hk
      (repeat' (first | (show wpListIn _ _ _ _ _ (_ :: _) _ _; first | (refine wx1 ?_; clear hk a; intro a hk) | (refine wx2 ?_ ?_ <;> (intro hp; clear hk a; intro a hk)) | (refine wx3 ?_; clear hk hS a; intro w b hS a hk) | (refine wx4 ?_; clear hk hS a; intro w hS a hk) | (refine wx5 ?_; clear hk hS a; intro w v hS a hk) | fail) | refine wx0 ?_ | (refine s_end hk ?_; clear hk a; intro a hk) | fail))
      exact ⟨hlt, (aovn, cvn), hk.sd, hS.sb, by omega⟩
    · have hin : i = 4 := by omega
      subst hin
      have e4 : True := trivial
      (repeat' (first | (show wpListIn _ _ _ _ _ (_ :: _) _ _; first | (refine wx1 ?_; clear hk a; intro a hk) | (refine wx2 ?_ ?_ <;> (intro hp; clear hk a; intro a hk)) | (refine wx3 ?_; clear hk hS a; intro w b hS a hk) | (refine wx4 ?_; clear hk hS a; intro w hS a hk) | (refine wx5 ?_; clear hk hS a; intro w v hS a hk) | fail) | refine wx0 ?_ | (refine s_end hk ?_; clear hk a; intro a hk) | fail))
      refine done1R hk rfl (.str hS (hT := aT rfl) (hs := zT rfl)) (h := ?_)
      exact treeH.of (h := (k, cutF tag 20, cutF key 20, cutF text 70, ⟨aov18, (few03 cl 4).length, cv18⟩, ⟨ao, 4, c⟩, ⟨aov21, (few04 sl 4).length, cv21⟩, (e, lv, m, d, p, q), ⟨none, 0, 0⟩)) (treeR.of (A1 := OwT 9 (few03 cl 4) (.slice aov18 (few03 cl 4).length cv18)) (A2 := OwT 73 (fewA al 4) (.slice ao 4 c)) (A3 := OwT 75 (few04 sl 4) (.slice aov21 (few04 sl 4).length cv21)) (A4 := OwT 42 ([] : List NdH) (.slice none 0 0)) (H := []) (kids := []) ((forR.nil (hS.nilT 42 NdH)).sub (by (repeat (first | exact Sub.nil | exact Sub.refl | refine Sub.cons (by (repeat (first | exact At.here | apply At.there))) ?_)))))
  · have e4 : fewA al i = fewA al 4 := by simp only [fewA]; rw [List.take_of_length_le (by omega), List.take_of_length_le (by omega)]
    rw [e4] at hS
    (repeat' (first | (show wpListIn _ _ _ _ _ (_ :: _) _ _; first | (refine wx1 ?_; clear hk a; intro a hk) | (refine wx2 ?_ ?_ <;> (intro hp; clear hk a; intro a hk)) | (refine wx3 ?_; clear hk hS a; intro w b hS a hk) | (refine wx4 ?_; clear hk hS a; intro w hS a hk) | (refine wx5 ?_; clear hk hS a; intro w v hS a hk) | fail) | refine wx0 ?_ | (refine s_end hk ?_; clear hk a; intro a hk) | fail))
    refine done1R hk rfl (.str hS (hT := aT rfl) (hs := zT rfl)) (h := ?_)
    exact treeH.of (h := (k, cutF tag 20, cutF key 20, cutF text 70, ⟨aov18, (few03 cl 4).length, cv18⟩, ⟨ao, i, c⟩, ⟨aov21, (few04 sl 4).length, cv21⟩, (e, lv, m, d, p, q), ⟨none, 0, 0⟩)) (treeR.of (A1 := OwT 9 (few03 cl 4) (.slice aov18 (few03 cl 4).length cv18)) (A2 := OwT 73 (fewA al 4) (.slice ao i c)) (A3 := OwT 75 (few04 sl 4) (.slice aov21 (few04 sl 4).length cv21)) (A4 := OwT 42 ([] : List NdH) (.slice none 0 0)) (H := []) (kids := []) ((forR.nil (hS.nilT 42 NdH)).sub (by (repeat (first | exact Sub.nil | exact Sub.refl | refine Sub.cons (by (repeat (first | exact At.here | apply At.there))) ?_)))))
end Go.Proofs.YtipdgobplfkipaaGreatDoor
namespace Go.Proofs.YtipdgobplfkipaaGreatDoor
open Go.RowKit
set_option maxRecDepth 100000
attribute [local irreducible] Go.Code.wpIn Go.wpListIn Go.Calls Gives Go.Exit.then Go.Exit.inBlock Done ObxE

def in64 (x : Int) : Prop := -9223372036854775808 ≤ x ∧ x ≤ 9223372036854775807
def FlR (w : World) (h : FlH) : Prop := ∃ (dp k : Int) (tag key text : ByteArray) (cl : List ByteArray) (al : List (ByteArray × ByteArray)) (sl : List (ByteArray × Int)) (e lv m d : Int) (p q : Bool) (a1 a2 a3 : Option Addr) (m1 m2 m3 : Nat),
  h = (dp, k, tag, key, text, ⟨a1, cl.length, m1⟩, ⟨a2, al.length, m2⟩, ⟨a3, sl.length, m3⟩, (e, lv, m, d, p, q)) ∧ SlT cl (.slice a1 cl.length m1) w ∧ SlT al (.slice a2 al.length m2) w ∧ SlT sl (.slice a3 sl.length m3) w ∧
  in64 dp ∧ in64 k ∧ in64 e ∧ in64 lv ∧ in64 m ∧ in64 d ∧ ∀ x ∈ sl, in64 x.2

def okN (k : Int) (tag key text : ByteArray) (cl : List ByteArray) (al : List (ByteArray × ByteArray)) (sl : List (ByteArray × Int)) (o : Opt) : Prop :=
  in64 k ∧ tag.size ≤ 20 ∧ key.size ≤ 20 ∧ text.size ≤ 70 ∧ cl.length ≤ 4 ∧ (∀ c ∈ cl, c.size ≤ 20) ∧ al.length ≤ 4 ∧ (∀ x ∈ al, x.1.size ≤ 20 ∧ x.2.size ≤ 40) ∧ sl.length ≤ 4 ∧ (∀ x ∈ sl, x.1.size ≤ 20 ∧ in64 x.2) ∧
  in64 o.1 ∧ in64 o.2.1 ∧ in64 o.2.2.1 ∧ in64 o.2.2.2.1
inductive Small : Tree → Prop where
  | mk {k : Int} {tag key text : ByteArray} {cl : List ByteArray} {al : List (ByteArray × ByteArray)} {sl : List (ByteArray × Int)} {o : Opt} {kids : List Tree} (h : okN k tag key text cl al sl o) (hk : ∀ t ∈ kids, Small t) : Small (.mk k tag key text cl al sl o kids)
mutual
def cnt : Tree → Nat
  | .mk _ _ _ _ _ _ _ _ kids => cntL kids + 1
def cntL : List Tree → Nat
  | [] => 0
  | t :: ts => cnt t + cntL ts
end
theorem cntL_app : ∀ (ts us : List Tree), cntL (ts ++ us) = cntL ts + cntL us
  | [], us => by simp [cntL]
  | t :: ts, us => by simp only [List.cons_append, cntL, cntL_app ts us]; omega
theorem cnt_pos (t : Tree) : 1 ≤ cnt t := by cases t; simp only [cnt]; omega
theorem cntL_len : ∀ ts : List Tree, ts.length ≤ cntL ts
  | [] => by simp
  | t :: ts => by have := cntL_len ts; have := cnt_pos t; simp only [List.length_cons, cntL]; omega
theorem cntL_mem : ∀ {ts : List Tree} {t : Tree}, t ∈ ts → cnt t ≤ cntL ts
  | t :: ts, u, h => by
    rcases List.mem_cons.1 h with rfl | h
    · simp only [cntL]; omega
    · have := cntL_mem h; simp only [cntL]; omega

theorem okN_node {k : Int} {tag key text : ByteArray} {cl : List ByteArray} {al : List (ByteArray × ByteArray)} {sl : List (ByteArray × Int)} {e lv m d : Int} {p q : Bool} (hk : in64 k) (he : in64 e) (hl : in64 lv) (hm : in64 m) (hd : in64 d) (hs : ∀ x ∈ sl, in64 x.2) :
    okN k (cutF tag 20) (cutF key 20) (cutF text 70) (few03 cl 4) (fewA al 4) (few04 sl 4) (e, lv, m, d, p, q) := by
  refine ⟨hk, cutF_len _ _, cutF_len _ _, cutF_len _ _, by rw [few03_len]; omega, fun c hc => ?_, by rw [fewA_len]; omega, fun x hx => ?_, by rw [few04_len]; omega, fun x hx => ?_, he, hl, hm, hd⟩
  · obtain ⟨y, _, rfl⟩ := List.mem_map.1 hc; exact cutF_len _ _
  · obtain ⟨y, _, rfl⟩ := List.mem_map.1 hx; exact ⟨cutF_len _ _, cutF_len _ _⟩
  · obtain ⟨y, hy, rfl⟩ := List.mem_map.1 hx; exact ⟨cutF_len _ _, hs y (List.mem_of_mem_take hy)⟩

theorem FlR.frz {w w' : World} {h : FlH} (hr : FlR w h) (hf : Frz w w') : FlR w' h := by
  obtain ⟨dp, k, tag, key, text, cl, al, sl, e, lv, m, d, p, q, a1, a2, a3, m1, m2, m3, e0, c1, c2, c3, hr⟩ := hr
  exact ⟨dp, k, tag, key, text, cl, al, sl, e, lv, m, d, p, q, a1, a2, a3, m1, m2, m3, e0, c1.frz hf, c2.frz hf, c3.frz hf, hr⟩
structure KS where
  at_ : Nat
  ts : List Tree
  H : List NdH
  a : Option Addr
  c : Nat

set_option maxHeartbeats 4000000 in
theorem kids07_any (F : List FlH) (v : Value) (hFl : F.length ≤ 1000) : ∀ (n at_ : Nat) (deep : Int) (w0 : World), F.length - at_ < n → at_ ≤ F.length → SlT F v w0 → (∀ h ∈ F, FlR w0 h) →
    Calls Tryz.prog 35 #[v, .int .i64 (at_ : Int), .int .i64 deep] w0 (Ret fun u w => ∃ (ts : List Tree) (H : List NdH) (at' : Nat) (ak : Option Addr) (ck : Nat), u = .tuple #[.slice ak H.length ck, .int .i64 (at' : Int)] ∧ at_ ≤ at' ∧ at' ≤ F.length ∧ at_ + cntL ts ≤ at' ∧ (∀ t ∈ ts, Small t) ∧
      St w0 [forR ts H, OwT 42 H (.slice ak H.length ck)] w)
  | 0, _, _, _, hn, _, _, _ => by omega
  | n + 1, at_, deep, w0, hn, hat, hv, hR => by
    have ih := kids07_any F v hFl n
    refine enter Tryz.func35 rfl Tryz.ntmps35 rfl (fun a hk => ?_); have hS := St.refl w0
    (repeat' (first | (show wpListIn _ _ _ _ _ (_ :: _) _ _; first | (refine wx1 ?_; clear hk a; intro a hk) | (refine wx2 ?_ ?_ <;> (intro hp; clear hk a; intro a hk)) | (refine wx3 ?_; clear hk hS a; intro w b hS a hk) | (refine wx4 ?_; clear hk hS a; intro w hS a hk) | (refine wx5 ?_; clear hk hS a; intro w v hS a hk) | fail) | refine wx0 ?_ | (refine s_end hk ?_; clear hk a; intro a hk) | fail))
    replace hS := forR.nil (hS.nilT 42 NdH)
    replace hk := Kn.kp [0, 1, 2, 8] hk
    refine wp_while (fun x : KS => [(1, .int .i64 (x.at_ : Int)), (8, .slice x.a x.H.length x.c)]) (fun x => [forR x.ts x.H, OwT 42 x.H (.slice x.a x.H.length x.c)])
      (fun x => at_ ≤ x.at_ ∧ x.at_ ≤ F.length ∧ at_ + cntL x.ts ≤ x.at_ ∧ ∀ t ∈ x.ts, Small t) (fun x => F.length - x.at_) ⟨at_, [], [], none, 0⟩ hk (by repeat (first | exact trivial | refine ⟨rfl, ?_⟩)) hS.sb ⟨Nat.le_refl _, hat, by simp [cntL], fun t h => by cases h⟩ ?_
    clear hk hS a
    rintro ⟨at1, ts, H, ak, ck⟩ a w hk hS ⟨g1, g2, g3, g4⟩
    simp only at hk hS g1 g2 g3 g4
    have hv1 := hS.rdT hv
    have hFH := hS.foR .here
    have hHl : H.length = ts.length := hFH.1
    have htl := cntL_len ts
    by_cases hlt : at1 < F.length
    · obtain ⟨x, hx⟩ : ∃ x, F[at1]? = some x := ⟨_, List.getElem?_eq_getElem hlt⟩
      obtain ⟨dp, k, tag, key, text, cl, al, sl, e, lv, m, d, p, q, a1, a2, a3, m1, m2, m3, rfl, c1, c2, c3, b1, b2, b3, b4, b5, b6, b7⟩ := hR x (List.mem_of_getElem? hx)
      by_cases hdp : deep < dp
      · (repeat' (first | (show wpListIn _ _ _ _ _ (_ :: _) _ _; first | (refine wx1 ?_; clear hk a; intro a hk) | (refine wx2 ?_ ?_ <;> (intro hp; clear hk a; intro a hk)) | (refine wx3 ?_; clear hk hS a; intro w b hS a hk) | (refine wx4 ?_; clear hk hS a; intro w hS a hk) | (refine wx5 ?_; clear hk hS a; intro w v hS a hk) | fail) | refine wx0 ?_ | (refine s_end hk ?_; clear hk a; intro a hk) | fail))
        refine sg hk (g_callO hk (hf := by kernel_rfl) (hc := node07_any dp k tag key text cl al sl e lv m d p q a1 a2 a3 m1 m2 m3 _ (hS.rdT c1) (hS.rdT c2) (hS.rdT c3)) (h := ?_)); clear hk a; rintro vn w hS1 a hk; replace hS := hS.call hS1; clear hS1
        rw [List.cons_append, List.nil_append] at hS
        obtain ⟨hd1, rfl, hS1⟩ := St.tree hS .here
        clear hS
        have hS := hS1
        clear hS1
        obtain ⟨k0, tag0, key0, text0, cl0, al0, sl0, e0, lv0, m0, d0, p0, q0, kids0, A1, M1, A2, M2, A3, M3, A4, M4, H0, he, rfl, _⟩ := (hS.trR .here).split
        have hok := okN_node (tag := tag) (key := key) (text := text) (cl := cl) (al := al) (p := p) (q := q) b2 b3 b4 b5 b6 b7
        unfold nodeF at he hS
        injection he with q1 q2 q3 q4 q5 q6 q7 q8 q9
        rw [q1, q2, q3, q4, q5, q6, q7, q8, q9] at hS
        rw [q1, q2, q3, q4, q5, q6, q7, q8] at hok
        clear q1 q2 q3 q4 q5 q6 q7 q8 q9
        (repeat' (first | (show wpListIn _ _ _ _ _ (_ :: _) _ _; first | (refine wx1 ?_; clear hk a; intro a hk) | (refine wx2 ?_ ?_ <;> (intro hp; clear hk a; intro a hk)) | (refine wx3 ?_; clear hk hS a; intro w b hS a hk) | (refine wx4 ?_; clear hk hS a; intro w hS a hk) | (refine wx5 ?_; clear hk hS a; intro w v hS a hk) | fail) | refine wx0 ?_ | (refine s_end hk ?_; clear hk a; intro a hk) | fail))
        refine sg hk (g_callO hk (hf := by kernel_rfl) (hc := ih (at1 + 1) dp _ (by omega) (by omega) (hS.rdT hv) (fun h hh => (hR h hh).frz hS.frz)) (h := ?_)); clear hk a; rintro vr w ⟨ts2, H2, at2, ak2, ck2, rfl, r1, r2, r3, r4, hS1⟩ a hk; replace hS := hS.call hS1; clear hS1
        rw [List.cons_append, List.cons_append, List.nil_append] at hS
        (repeat' (first | (show wpListIn _ _ _ _ _ (_ :: _) _ _; first | (refine wx1 ?_; clear hk a; intro a hk) | (refine wx2 ?_ ?_ <;> (intro hp; clear hk a; intro a hk)) | (refine wx3 ?_; clear hk hS a; intro w b hS a hk) | (refine wx4 ?_; clear hk hS a; intro w hS a hk) | (refine wx5 ?_; clear hk hS a; intro w v hS a hk) | fail) | refine wx0 ?_ | (refine s_end hk ?_; clear hk a; intro a hk) | fail))
        refine sg hk (g_bsT (xs := [((k0, tag0, key0, text0, ⟨A1, cl0.length, M1⟩, ⟨A2, al0.length, M2⟩, ⟨A3, sl0.length, M3⟩, (e0, lv0, m0, d0, p0, q0), ⟨ak2, H2.length, ck2⟩) : NdH)]) (m := 0) hk hS ?_ (hT := eT rfl) (hE := zT rfl) (hz := oT rfl)); clear hk hS a; intro w ve hS a hk
        (repeat' (first | (show wpListIn _ _ _ _ _ (_ :: _) _ _; first | (refine wx1 ?_; clear hk a; intro a hk) | (refine wx2 ?_ ?_ <;> (intro hp; clear hk a; intro a hk)) | (refine wx3 ?_; clear hk hS a; intro w b hS a hk) | (refine wx4 ?_; clear hk hS a; intro w hS a hk) | (refine wx5 ?_; clear hk hS a; intro w v hS a hk) | fail) | refine wx0 ?_ | (refine s_end hk ?_; clear hk a; intro a hk) | fail))
        rename Value => vn
        obtain ⟨aovn, cvn, hshp, _⟩ := (OwT.rd (hS.rd (A := OwT 42 _ vn) (by (repeat (first | exact At.here | apply At.there))))).shape; subst hshp
        have hS1 := treeR.kids (k := k0) (tag := tag0) (key := key0) (text := text0) (cl := cl0) (at_ := al0) (st := sl0) (o := (e0, lv0, m0, d0, p0, q0)) (hc := ⟨A1, cl0.length, M1⟩) (ha := ⟨A2, al0.length, M2⟩) (hs := ⟨A3, sl0.length, M3⟩) (hk0 := ⟨A4, H0.length, M4⟩) (kids := ts2) (kids0 := kids0) (E := 42) (hk := ⟨ak2, H2.length, ck2⟩) (H := H2)
          (L := [forR ts H, OwT 42 (H ++ [((k0, tag0, key0, text0, ⟨A1, cl0.length, M1⟩, ⟨A2, al0.length, M2⟩, ⟨A3, sl0.length, M3⟩, (e0, lv0, m0, d0, p0, q0), ⟨ak2, H2.length, ck2⟩) : NdH)]) (.slice aovn (H ++ [((k0, tag0, key0, text0, ⟨A1, cl0.length, M1⟩, ⟨A2, al0.length, M2⟩, ⟨A3, sl0.length, M3⟩, (e0, lv0, m0, d0, p0, q0), ⟨ak2, H2.length, ck2⟩) : NdH)]).length cvn)]) (hS.sub (by (repeat (first | exact Sub.nil | exact Sub.refl | refine Sub.cons (by (repeat (first | exact At.here | apply At.there))) ?_))))
        have hS2 := forR.snoc hS1
        refine ⟨⟨at2, ts ++ [.mk k0 tag0 key0 text0 cl0 al0 sl0 (e0, lv0, m0, d0, p0, q0) ts2], H ++ [((k0, tag0, key0, text0, ⟨A1, cl0.length, M1⟩, ⟨A2, al0.length, M2⟩, ⟨A3, sl0.length, M3⟩, (e0, lv0, m0, d0, p0, q0), ⟨ak2, H2.length, ck2⟩) : NdH)], aovn, cvn⟩, by show F.length - at2 < F.length - at1; omega, hk.sd, hS2, by show at_ ≤ at2; omega, r2, ?_, fun t ht => ?_⟩
        · show at_ + cntL (ts ++ [_]) ≤ at2
          rw [cntL_app]
          simp only [cntL, cnt]
          omega
        · rcases List.mem_append.1 ht with h | h
          · exact g4 t h
          · rw [List.mem_singleton] at h
            subst h
            exact .mk hok r4
      · (repeat' (first | (show wpListIn _ _ _ _ _ (_ :: _) _ _; first | (refine wx1 ?_; clear hk a; intro a hk) | (refine wx2 ?_ ?_ <;> (intro hp; clear hk a; intro a hk)) | (refine wx3 ?_; clear hk hS a; intro w b hS a hk) | (refine wx4 ?_; clear hk hS a; intro w hS a hk) | (refine wx5 ?_; clear hk hS a; intro w v hS a hk) | fail) | refine wx0 ?_ | (refine s_end hk ?_; clear hk a; intro a hk) | fail))
        exact done2 hk (h := ⟨ts, H, at1, ak, ck, rfl, g1, g2, g3, g4, hS⟩)
    · (repeat' (first | (show wpListIn _ _ _ _ _ (_ :: _) _ _; first | (refine wx1 ?_; clear hk a; intro a hk) | (refine wx2 ?_ ?_ <;> (intro hp; clear hk a; intro a hk)) | (refine wx3 ?_; clear hk hS a; intro w b hS a hk) | (refine wx4 ?_; clear hk hS a; intro w hS a hk) | (refine wx5 ?_; clear hk hS a; intro w v hS a hk) | fail) | refine wx0 ?_ | (refine s_end hk ?_; clear hk a; intro a hk) | fail))
      exact done2 hk (h := ⟨ts, H, at1, ak, ck, rfl, g1, g2, g3, g4, hS⟩)
end Go.Proofs.YtipdgobplfkipaaGreatDoor
namespace Go.Proofs.YtipdgobplfkipaaGreatDoor
open Go.RowKit

def Tree.kind : Tree → Int
  | .mk k _ _ _ _ _ _ _ _ => k
def Tree.text : Tree → ByteArray
  | .mk _ _ _ x _ _ _ _ _ => x
def Tree.plus : Tree → ByteArray → Tree
  | .mk k tag key text cl al sl o ks, x => .mk k tag key (text ++ x) cl al sl o ks
def Tree.void (t : Tree) : Prop := t.kind = 1 ∧ t.text = ⟨#[]⟩
instance (t : Tree) : Decidable t.void := by unfold Tree.void; exact inferInstance

def mrgS (out : List Tree) (t : Tree) : List Tree :=
  match out.getLast? with
  | some u => if t.kind = 1 ∧ u.kind = 1 then out.dropLast ++ [u.plus t.text] else out ++ [t]
  | none => out ++ [t]
def mrg (l : List Tree) : List Tree := l.foldl mrgS []
theorem mrg_snoc (l : List Tree) (t : Tree) : mrg (l ++ [t]) = mrgS (mrg l) t := by simp [mrg]

noncomputable section
mutual
def nrm : Tree → Tree
  | .mk k tag key text cl al sl o kids => .mk k tag key text (clnC cl) (snapF nmS al) (snapF nmI sl) o (mrg (nrmL kids))
def nrmL : List Tree → List Tree
  | [] => []
  | t :: ts => if t.void then nrmL ts else nrm t :: nrmL ts
end
end
theorem nrmL_app : ∀ (ts us : List Tree), nrmL (ts ++ us) = nrmL ts ++ nrmL us
  | [], us => by simp [nrmL]
  | t :: ts, us => by
    rw [List.cons_append, nrmL, nrmL, nrmL_app ts us]
    split
    · rfl
    · rfl
theorem nrmL_snoc (ts : List Tree) (t : Tree) : nrmL (ts ++ [t]) = if t.void then nrmL ts else nrmL ts ++ [nrm t] := by
  rw [nrmL_app]
  by_cases h : t.void
  · simp [nrmL, h]
  · simp [nrmL, h]
theorem nrm_kind (t : Tree) : (nrm t).kind = t.kind := by cases t; simp [nrm, Tree.kind]
theorem nrm_text (t : Tree) : (nrm t).text = t.text := by cases t; simp [nrm, Tree.text]
theorem plus_kind (t : Tree) (x : ByteArray) : (t.plus x).kind = t.kind := by cases t; rfl
theorem plus_text (t : Tree) (x : ByteArray) : (t.plus x).text = t.text ++ x := by cases t; rfl
theorem nrmL_len (ts : List Tree) : (nrmL ts).length ≤ ts.length := by
  induction ts with
  | nil => simp [nrmL]
  | cons t ts ih =>
    rw [nrmL]
    split
    · simp; omega
    · simp; omega
def txtL (l : List Tree) : Nat := l.foldl (fun n t => n + t.text.size) 0
theorem txtL_snoc (l : List Tree) (t : Tree) : txtL (l ++ [t]) = txtL l + t.text.size := by simp [txtL]
theorem txtL_mem : ∀ {l : List Tree} {t : Tree}, t ∈ l → t.text.size ≤ txtL l := by
  intro l t h
  have : ∀ r : List Tree, t ∈ r.reverse → t.text.size ≤ txtL r.reverse := by
    intro r
    induction r with
    | nil => intro h; simp at h
    | cons u r ih =>
      intro h
      rw [List.reverse_cons] at h ⊢
      rw [txtL_snoc]
      rcases List.mem_append.1 h with h | h
      · have := ih h; omega
      · rw [List.mem_singleton] at h; subst h; omega
  have h2 := this l.reverse (by simpa using h)
  simpa using h2
theorem mrgS_txt (out : List Tree) (t : Tree) : txtL (mrgS out t) = txtL out + t.text.size := by
  unfold mrgS
  split
  · rename_i u hu
    split
    · rw [txtL_snoc, plus_text, ByteArray.size_append]
      have e : out = out.dropLast ++ [u] := by
        have := List.dropLast_concat_getLast (l := out) (by intro e; subst e; simp at hu)
        rw [List.getLast?_eq_some_getLast (by intro e; subst e; simp at hu)] at hu
        rw [Option.some.inj hu] at this
        exact this.symm
      have e2 : txtL out = txtL out.dropLast + u.text.size := by
        conv => lhs; rw [e]
        rw [txtL_snoc]
      omega
    · rw [txtL_snoc]
  · rw [txtL_snoc]
theorem mrg_txt (l : List Tree) : txtL (mrg l) = txtL l := by
  have : ∀ r : List Tree, txtL (mrg r.reverse) = txtL r.reverse := by
    intro r
    induction r with
    | nil => rfl
    | cons u r ih => rw [List.reverse_cons, mrg_snoc, mrgS_txt, ih, txtL_snoc]
  have := this l.reverse
  simpa using this
theorem mrgS_len (out : List Tree) (t : Tree) : (mrgS out t).length ≤ out.length + 1 := by
  unfold mrgS
  split
  · split
    · simp
    · simp
  · simp
theorem mrg_last {l : List Tree} {j : Nat} {t : Tree} (h : l[j]? = some t) : ∃ M u, mrg (l.take (j + 1)) = M ++ [u] ∧ u.kind = t.kind := by
  rw [take_snoc h, mrg_snoc]
  unfold mrgS
  split
  · rename_i u hu
    split
    · rename_i hc
      exact ⟨_, _, rfl, by rw [plus_kind, hc.1, hc.2]⟩
    · exact ⟨_, _, rfl, rfl⟩
  · exact ⟨_, _, rfl, rfl⟩
theorem mrgS_app {M : List Tree} {u t : Tree} : mrgS (M ++ [u]) t = if t.kind = 1 ∧ u.kind = 1 then M ++ [u.plus t.text] else M ++ [u] ++ [t] := by
  simp [mrgS]
theorem txtL_take (l : List Tree) (i : Nat) : txtL (l.take i) ≤ txtL l := by
  have : ∀ (r : List Tree) (l : List Tree), txtL l ≤ txtL (l ++ r) := by
    intro r
    induction r with
    | nil => intro l; simp
    | cons u r ih =>
      intro l
      have := ih (l ++ [u])
      rw [txtL_snoc, List.append_assoc, List.singleton_append] at this
      omega
  have := this (l.drop i) (l.take i)
  rwa [List.take_append_drop] at this
theorem mrg_len (l : List Tree) : (mrg l).length ≤ l.length := by
  have : ∀ r : List Tree, (mrg r.reverse).length ≤ r.length := by
    intro r
    induction r with
    | nil => simp [mrg]
    | cons u r ih =>
      rw [List.reverse_cons, mrg_snoc, List.length_cons]
      have := mrgS_len (mrg r.reverse) u
      omega
  have := this l.reverse
  simpa using this

inductive Fit (X : Nat) : Tree → Prop
  | mk {k : Int} {tag key text : ByteArray} {cl : List ByteArray} {at_ : List (ByteArray × ByteArray)} {st : List (ByteArray × Int)} {o : Opt} {kids : List Tree}
    (h1 : cl.length ≤ 100) (h2 : at_.length ≤ 100) (h3 : st.length ≤ 100) (h4 : kids.length ≤ 1000) (h5 : text.size ≤ X) (h6 : ∀ t ∈ kids, Fit X t) : Fit X (.mk k tag key text cl at_ st o kids)
theorem Fit.fits {X : Nat} {t : Tree} (h : Fit X t) : Fits t := by
  induction h with
  | mk h1 h2 h3 h4 _ _ ih => exact .mk h1 h2 h3 h4 ih
theorem Fit.text {X : Nat} {t : Tree} (h : Fit X t) : t.text.size ≤ X := by cases h with | mk h1 h2 h3 h4 h5 _ => exact h5
theorem Fit.plus {X : Nat} {t : Tree} {x : ByteArray} (h : Fit X t) (hx : (t.plus x).text.size ≤ X) : Fit X (t.plus x) := by
  cases h with
  | mk h1 h2 h3 h4 h5 h6 => exact .mk h1 h2 h3 h4 hx h6
theorem last_split {α : Type} {l : List α} {u : α} (h : l.getLast? = some u) : l = l.dropLast ++ [u] := by
  have hne : l ≠ [] := by intro e; subst e; simp at h
  have := List.dropLast_concat_getLast hne
  rw [List.getLast?_eq_some_getLast hne] at h
  rw [Option.some.inj h] at this
  exact this.symm
theorem mrg_fit {X : Nat} (l : List Tree) (hl : ∀ t ∈ l, Fit X t) (hx : txtL l ≤ X) : ∀ u ∈ mrg l, Fit X u := by
  have : ∀ r : List Tree, (∀ t ∈ r, Fit X t) → txtL r.reverse ≤ X → ∀ u ∈ mrg r.reverse, Fit X u := by
    intro r
    induction r with
    | nil => intro _ _ u hu; simp [mrg] at hu
    | cons t r ih =>
      intro hr hx u hu
      have hs := mrgS_txt (mrg r.reverse) t
      have hT := mrg_txt r.reverse
      rw [List.reverse_cons, txtL_snoc] at hx
      have ih := ih (fun t ht => hr t (by simp [ht])) (by omega)
      have ht := hr t (by simp)
      rw [List.reverse_cons, mrg_snoc] at hu
      have hm := txtL_mem hu
      unfold mrgS at hu hs hm
      split at hu
      · rename_i u0 hu0
        have hu1 : u0 ∈ mrg r.reverse := by rw [last_split hu0]; simp
        split at hu
        · rename_i hc
          rcases List.mem_append.1 hu with h | h
          · exact ih u (by rw [last_split hu0]; simp [h])
          · rw [List.mem_singleton] at h
            subst h
            simp only [hu0, if_pos hc] at hm hs
            exact (ih u0 hu1).plus (by omega)
        · rcases List.mem_append.1 hu with h | h
          · exact ih u h
          · rw [List.mem_singleton] at h; subst h; exact ht
      · rcases List.mem_append.1 hu with h | h
        · exact ih u h
        · rw [List.mem_singleton] at h; subst h; exact ht
  have h := this l.reverse (by simpa using hl) (by simpa using hx)
  simpa using h
theorem nrmL_txt {X : Nat} : ∀ (ts : List Tree), (∀ t ∈ ts, Fit X t) → txtL (nrmL ts) ≤ X * ts.length
  | [], _ => by simp [nrmL, txtL]
  | t :: ts, h => by
    have ih := nrmL_txt ts (fun t ht => h t (by simp [ht]))
    have h1 := (h t (by simp)).text
    have e : ∀ (u : Tree) (l : List Tree), txtL (u :: l) = u.text.size + txtL l := by
      intro u l
      have : ∀ (l : List Tree) (n : Nat), l.foldl (fun n t => n + t.text.size) n = n + txtL l := by
        intro l
        induction l with
        | nil => intro n; simp [txtL]
        | cons x l ih =>
          intro n
          simp only [txtL, List.foldl_cons]
          rw [ih, ih (0 + x.text.size)]
          omega
      simp only [txtL, List.foldl_cons]
      rw [this l (0 + u.text.size)]
      simp only [txtL]
      omega
    rw [nrmL, List.length_cons, Nat.mul_add, Nat.mul_one]
    split
    · omega
    · rw [e, nrm_text]; omega
theorem nrmL_mem : ∀ {ts : List Tree} {u : Tree}, u ∈ nrmL ts → ∃ t ∈ ts, u = nrm t
  | t :: ts, u, h => by
    rw [nrmL] at h
    split at h
    · obtain ⟨x, hx, e⟩ := nrmL_mem h
      exact ⟨x, by simp [hx], e⟩
    · rcases List.mem_cons.1 h with h | h
      · exact ⟨t, by simp, h⟩
      · obtain ⟨x, hx, e⟩ := nrmL_mem h
        exact ⟨x, by simp [hx], e⟩
theorem clnC_le (l : List ByteArray) : (clnC l).length ≤ l.length := by have := clnC_len l l.length; rwa [List.take_length] at this
theorem Fit.nrm {X : Nat} {t : Tree} (h : Fit X t) : Fit (1001 * X) (nrm t) := by
  induction h with
  | @mk k tag key text cl al sl o kids h1 h2 h3 h4 h5 h6 ih =>
    have hc := clnC_le cl
    have hn1 := snap_len nmS al
    have hn2 := snap_len nmI sl
    have hl1 := mrg_len (nrmL kids)
    have hl2 := nrmL_len kids
    have ht := nrmL_txt kids h6
    have hm : X * kids.length ≤ X * 1000 := Nat.mul_le_mul_left X h4
    rw [Proofs.YtipdgobplfkipaaGreatDoor.nrm]
    refine .mk (by omega) (by omega) (by omega) (by omega) (by omega) (mrg_fit _ (fun u hu => ?_) (by omega))
    obtain ⟨t, ht, rfl⟩ := nrmL_mem hu
    exact ih t ht
theorem nrmL_fit {X : Nat} {ts : List Tree} (h : ∀ t ∈ ts, Fit X t) : ∀ t ∈ nrmL ts, Fit (1001 * X) t := fun u hu => by
  obtain ⟨t, ht, rfl⟩ := nrmL_mem hu
  exact (h t ht).nrm
theorem Small.fit {t : Tree} (h : Small t) (hc : cnt t ≤ 1000) : Fit 70 t := by
  induction h with
  | mk h hk ih =>
    obtain ⟨_, _, _, h4, h5, _, h6, _, h7, _⟩ := h
    rw [cnt] at hc
    refine .mk (by omega) (by omega) (by omega) ?_ h4 (fun t ht => ih t ht ?_)
    · have := cntL_len ‹List Tree›; omega
    · have := cntL_mem ht; omega
end Go.Proofs.YtipdgobplfkipaaGreatDoor
namespace Go.Proofs.YtipdgobplfkipaaGreatDoor
open Go.RowKit

def namesL (cl : List ByteArray) (al : List PrS) (sl : List PrI) : List ByteArray := cl ++ al.map (·.1) ++ sl.map (·.1)
def lasts (n : Int) : Bool := decide (0 ≤ n ∧ n ≤ 1000)
def optsB (o : Opt) (k : Int) : Bool :=
  if k = 3 then lasts o.1 && lasts o.2.1 && lasts o.2.2.1 && decide (o.2.2.2.1 = 0)
  else if k = 4 then lasts o.1 && lasts o.2.1 && decide (o.2.2.1 = 0) && !o.2.2.2.2.2 && decide (0 ≤ o.2.2.2.1 ∧ o.2.2.2.1 ≤ 2)
  else decide (o = (0, 0, 0, 0, false, false))
def bareB (tag key : ByteArray) (cl : List ByteArray) (al : List PrS) (sl : List PrI) (o : Opt) (kids : List Tree) : Bool :=
  decide (tag = ⟨#[]⟩ ∧ key = ⟨#[]⟩ ∧ cl.length + al.length + sl.length + kids.length = 0 ∧ o = (0, 0, 0, 0, false, false))
def valB (al : List PrS) (sl : List PrI) : Bool := al.all (fun x => valS x.2) && sl.all (fun x => decide (-2147483648 ≤ x.2 ∧ x.2 ≤ 2147483647))
def Tree.key : Tree → ByteArray
  | .mk _ _ y _ _ _ _ _ _ => y
def kidB (t : Tree) : Bool := decide (t.kind = 2 ∧ t.key ≠ ⟨#[]⟩)
def keptB (k : Int) (kids : List Tree) : Bool := decide (k = 2) || (kids.all kidB && (decide (k = 3) || decide (kids.length ≤ 1)))
def mayB (k : Int) (tag key text : ByteArray) (cl : List ByteArray) (al : List PrS) (sl : List PrI) (o : Opt) (kids : List Tree) : Bool :=
  if k = 1 then bareB tag key cl al sl o kids && txtS text
  else if k = 2 ∨ k = 3 ∨ k = 4 then decide (text = ⟨#[]⟩) && nameS tag && (namesL cl al sl).all nameS && (decide (key = ⟨#[]⟩) || keyS key) && valB al sl && optsB o k && keptB k kids
  else false
def cntK (c : ByteArray) (ks : List ByteArray) : Nat := ks.countP (fun x => decide (x = c))
def twcB (ks : List ByteArray) : Bool := ks.any (fun c => decide (c ≠ ⟨#[]⟩ ∧ 1 < cntK c ks))

mutual
def chkT : Tree → Int → Int → Int → Int × Int
  | .mk k tag key text cl al sl o kids, deep, depth, left =>
    if depth < deep then (7, left - 1)
    else if left - 1 < 0 then (8, left - 1)
    else if mayB k tag key text cl al sl o kids = false then (4, left - 1)
    else if (namesL cl al sl).any rsvS = true then (6, left - 1)
    else if twcB (kids.map Tree.key) = true then (5, left - 1)
    else chkL kids (deep + 1) depth (left - 1)
def chkL : List Tree → Int → Int → Int → Int × Int
  | [], _, _, left => (0, left)
  | t :: ts, deep, depth, left => if (chkT t deep depth left).1 = 0 then chkL ts deep depth (chkT t deep depth left).2 else chkT t deep depth left
end
theorem chkL_app : ∀ (ts us : List Tree) (deep depth left : Int), chkL (ts ++ us) deep depth left = if (chkL ts deep depth left).1 = 0 then chkL us deep depth (chkL ts deep depth left).2 else chkL ts deep depth left
  | [], us, deep, depth, left => by simp [chkL]
  | t :: ts, us, deep, depth, left => by
    rw [List.cons_append, chkL, chkL, chkL_app ts us]
    by_cases h : (chkT t deep depth left).1 = 0
    · rw [if_pos h, if_pos h]
    · rw [if_neg h, if_neg h, if_neg h]
theorem chkL_snoc (ts : List Tree) (t : Tree) (deep depth left : Int) (h : (chkL ts deep depth left).1 = 0) : chkL (ts ++ [t]) deep depth left = chkT t deep depth (chkL ts deep depth left).2 := by
  rw [chkL_app, if_pos h, chkL, chkL]
  split
  · rename_i h2
    exact Prod.ext h2.symm rfl
  · rfl
inductive Siz (X : Nat) : Tree → Prop
  | mk {k : Int} {tag key text : ByteArray} {cl : List ByteArray} {al : List (ByteArray × ByteArray)} {sl : List (ByteArray × Int)} {o : Opt} {kids : List Tree}
    (h1 : tag.size ≤ X) (h2 : key.size ≤ X) (h3 : text.size ≤ X) (h4 : ∀ c ∈ cl, c.size ≤ X) (h5 : ∀ x ∈ al, x.1.size ≤ X ∧ x.2.size ≤ X) (h6 : ∀ x ∈ sl, x.1.size ≤ X) (h7 : ∀ t ∈ kids, Siz X t) : Siz X (.mk k tag key text cl al sl o kids)
theorem Siz.names {X : Nat} {cl : List ByteArray} {al : List PrS} {sl : List PrI} (h4 : ∀ c ∈ cl, c.size ≤ X) (h5 : ∀ x ∈ al, x.1.size ≤ X ∧ x.2.size ≤ X) (h6 : ∀ x ∈ sl, x.1.size ≤ X) : ∀ c ∈ namesL cl al sl, c.size ≤ X := by
  intro c hc
  unfold namesL at hc
  rcases List.mem_append.1 hc with h | h
  · rcases List.mem_append.1 h with h | h
    · exact h4 c h
    · obtain ⟨x, hx, rfl⟩ := List.mem_map.1 h; exact (h5 x hx).1
  · obtain ⟨x, hx, rfl⟩ := List.mem_map.1 h; exact h6 x hx
theorem Small.siz {t : Tree} (h : Small t) : Siz 70 t := by
  induction h with
  | mk h hk ih =>
    obtain ⟨_, h2, h3, h4, _, h5, _, h6, _, h7, _⟩ := h
    exact .mk (by omega) (by omega) h4 (fun c hc => by have := h5 c hc; omega) (fun x hx => by have := h6 x hx; omega) (fun x hx => by have := (h7 x hx).1; omega) ih
end Go.Proofs.YtipdgobplfkipaaGreatDoor
namespace Go.Proofs.YtipdgobplfkipaaGreatDoor
open Go.RowKit

theorem itm_same (k : Int) (key : ByteArray) (cl : List ByteArray) (al : List (ByteArray × ByteArray)) (sl : List (ByteArray × Int)) (o : Opt) : itmW k key cl al sl o = itmB k key cl al sl o := by
  unfold itmW itmB optW keyW keyB kindW kndW durW durB modeW mdB apB mvB
  simp only [List.append_assoc]
  rfl
theorem foldW_bytes (x : ByteArray) : ∀ l : List ByteArray, (l.foldl addW x).data.toList = x.data.toList ++ wdL l := by
  intro l
  induction l generalizing x with
  | nil => simp [wdL]
  | cons y l ih =>
    rw [List.foldl_cons, ih]
    simp [wdL, addW, ByteArray.data_append]
theorem wdL_app (a b : List ByteArray) : wdL (a ++ b) = wdL a ++ wdL b := by simp [wdL]
theorem prn_bytes : ∀ (n : Nat) (t : Tree), SizeOf.sizeOf t < n → (prnT t).data.toList = prB t
  | 0, t, h => absurd h (by omega)
  | n + 1, .mk k tag key text cl al sl o kids, h => by
    rw [prnT, prB]
    by_cases hk : k = 1
    · rw [if_pos hk, if_pos hk]; simp [ByteArray.data_append]
    · rw [if_neg hk, if_neg hk]
      have hK : ∀ ts : List Tree, (∀ t ∈ ts, SizeOf.sizeOf t < n) → wdL (prnL ts) = prBL ts := by
        intro ts
        induction ts with
        | nil => exact fun _ => rfl
        | cons t ts ih =>
          intro hts
          have e := ih (fun x hx => hts x (.tail _ hx))
          have e2 := prn_bytes n t (hts t (.head _))
          rw [prnL, prBL, ← e2, ← e]
          rfl
      have c1 := hK kids (fun t ht => by
        have := List.sizeOf_lt_of_mem ht
        simp only [Tree.mk.sizeOf_spec] at h
        omega)
      have c2 := foldW_bytes tag (itmW k key cl al sl o ++ prnL kids)
      rw [wdL_app, c1, itm_same] at c2
      rw [itm_same, ByteArray.data_append, ByteArray.data_append]
      simp only [Array.toList_append]
      rw [c2]
      simp
theorem snapT_idem : ∀ (n : Nat) (t : Tree), SizeOf.sizeOf t < n → snapT (snapT t) = snapT t
  | 0, t, h => absurd h (by omega)
  | n + 1, .mk k tag key text cl al sl o kids, h => by
    rw [snapT, snapT, snap_snap, snap_snap]
    have hK : ∀ ts : List Tree, (∀ t ∈ ts, SizeOf.sizeOf t < n) → snapTs (snapTs ts) = snapTs ts := by
      intro ts
      induction ts with
      | nil => exact fun _ => rfl
      | cons t ts ih =>
        intro hts
        rw [snapTs, snapTs, ih (fun x hx => hts x (.tail _ hx)), snapT_idem n t (hts t (.head _))]
    rw [hK kids (fun t ht => by
      have := List.sizeOf_lt_of_mem ht
      simp only [Tree.mk.sizeOf_spec] at h
      omega)]
theorem snap_idem (t : Tree) : snapT (snapT t) = snapT t := snapT_idem _ t (Nat.lt_succ_self _)
theorem rises_nodup {κ α : Type} [Lin κ] (key : α → κ) {s : List α} (h : Rises key s) : (s.map key).Nodup := by
  rw [List.Nodup, List.pairwise_map]
  exact h.imp fun h => Lin.ne h
theorem not_out {x : Int} (h : -2147483648 ≤ x ∧ x ≤ 2147483647) : ¬ outR x := by
  unfold outR; omega
theorem may_itv {k : Int} {tag key text : ByteArray} {cl : List ByteArray} {al : List PrS} {sl : List PrI} {o : Opt} {kids : List Tree} (hk : k ≠ 1) (h : mayB k tag key text cl al sl o kids = true) :
    ItV k key cl (snapF nmS al) (snapF nmI sl) o ∧ nameS tag = true ∧ text = ⟨#[]⟩ := by
  unfold mayB at h
  rw [if_neg hk] at h
  by_cases h3 : k = 2 ∨ k = 3 ∨ k = 4
  · rw [if_pos h3] at h
    simp only [Bool.and_eq_true, Bool.or_eq_true, decide_eq_true_eq] at h
    obtain ⟨⟨⟨⟨⟨⟨h1, h2⟩, h4⟩, h5⟩, h6⟩, h7⟩, -⟩ := h
    have hnm : ∀ c ∈ namesL cl al sl, nameS c = true := fun c hc => List.all_eq_true.1 h4 c hc
    unfold valB at h6
    rw [Bool.and_eq_true] at h6
    have hav : ∀ x ∈ al, valS x.2 = true := fun x hx => List.all_eq_true.1 h6.1 x hx
    have hsv : ∀ x ∈ sl, -2147483648 ≤ x.2 ∧ x.2 ≤ 2147483647 := fun x hx => by simpa using List.all_eq_true.1 h6.2 x hx
    have hop : ¬ outR o.1 ∧ ¬ outR o.2.1 ∧ ¬ outR o.2.2.1 ∧ (o.2.2.2.1 = 0 ∨ o.2.2.2.1 = 1 ∨ o.2.2.2.1 = 2) := by
      unfold optsB lasts at h7
      unfold outR
      by_cases k3 : k = 3
      · rw [if_pos k3] at h7
        simp only [Bool.and_eq_true, decide_eq_true_eq] at h7
        omega
      · rw [if_neg k3] at h7
        by_cases k4 : k = 4
        · rw [if_pos k4] at h7
          simp only [Bool.and_eq_true, decide_eq_true_eq] at h7
          omega
        · rw [if_neg k4] at h7
          rw [decide_eq_true_eq] at h7
          subst h7
          simp
    refine ⟨⟨h3, h5, fun c hc => hnm c (by unfold namesL; simp [hc]), fun x hx => ?_, fun x hx => ?_, hop.1, hop.2.1, hop.2.2.1, hop.2.2.2⟩, h2, h1⟩
    · have hx' := snap_mem nmS hx
      exact ⟨hnm x.1 (by unfold namesL; simp only [List.mem_append, List.mem_map]; exact .inl (.inr ⟨x, hx', rfl⟩)), hav x hx'⟩
    · have hx' := snap_mem nmI hx
      exact ⟨hnm x.1 (by unfold namesL; simp only [List.mem_append, List.mem_map]; exact .inr ⟨x, hx', rfl⟩), not_out (hsv x hx')⟩
  · rw [if_neg h3] at h; cases h
theorem may_txt {tag key text : ByteArray} {cl : List ByteArray} {al : List PrS} {sl : List PrI} {o : Opt} {kids : List Tree} (h : mayB 1 tag key text cl al sl o kids = true) :
    tag = ⟨#[]⟩ ∧ key = ⟨#[]⟩ ∧ cl = [] ∧ al = [] ∧ sl = [] ∧ kids = [] ∧ o = o0 ∧ text.data.toList.all priB = true := by
  unfold mayB at h
  rw [if_pos rfl] at h
  unfold bareB txtS at h
  simp only [Bool.and_eq_true, decide_eq_true_eq] at h
  obtain ⟨⟨h1, h2, h3, h4⟩, -, h5⟩ := h
  exact ⟨h1, h2, List.length_eq_zero_iff.1 (by omega), List.length_eq_zero_iff.1 (by omega), List.length_eq_zero_iff.1 (by omega), List.length_eq_zero_iff.1 (by omega), h4, h5⟩
theorem chk_prv (depth : Int) : ∀ (n : Nat) (t : Tree) (deep left : Int), SizeOf.sizeOf t < n → (chkT t deep depth left).1 = 0 → PrV (depth - deep + 1).toNat (snapT t)
  | 0, t, _, _, h, _ => absurd h (by omega)
  | n + 1, .mk k tag key text cl al sl o kids, deep, left, h, hc => by
    rw [chkT] at hc
    by_cases h1 : depth < deep
    · rw [if_pos h1] at hc; cases hc
    · rw [if_neg h1] at hc
      by_cases h2 : left - 1 < 0
      · rw [if_pos h2] at hc; cases hc
      · rw [if_neg h2] at hc
        by_cases h3 : mayB k tag key text cl al sl o kids = false
        · rw [if_pos h3] at hc; cases hc
        · rw [if_neg h3] at hc
          have hm : mayB k tag key text cl al sl o kids = true := by simpa using h3
          by_cases h4 : (namesL cl al sl).any rsvS = true
          · rw [if_pos h4] at hc; cases hc
          · rw [if_neg h4] at hc
            by_cases h5 : twcB (kids.map Tree.key) = true
            · rw [if_pos h5] at hc; cases hc
            · rw [if_neg h5] at hc
              have hd : (depth - deep + 1).toNat = (depth - (deep + 1) + 1).toNat + 1 := by omega
              have hK : ∀ (ts : List Tree) (left : Int), (∀ t ∈ ts, SizeOf.sizeOf t < n) → (chkL ts (deep + 1) depth left).1 = 0 → ∀ t ∈ snapTs ts, PrV (depth - (deep + 1) + 1).toNat t := by
                intro ts
                induction ts with
                | nil => intro left _ _ t ht; cases ht
                | cons u us ih =>
                  intro left hts hc t ht
                  rw [chkL] at hc
                  by_cases h0 : (chkT u (deep + 1) depth left).1 = 0
                  · rw [if_pos h0] at hc
                    rw [snapTs] at ht
                    rcases List.mem_cons.1 ht with rfl | ht
                    · exact chk_prv depth n u (deep + 1) left (hts u (.head _)) h0
                    · exact ih _ (fun x hx => hts x (.tail _ hx)) hc t ht
                  · rw [if_neg h0] at hc; exact absurd hc h0
              rw [hd, snapT]
              by_cases hk : k = 1
              · subst hk
                obtain ⟨rfl, rfl, rfl, rfl, rfl, rfl, rfl, ht⟩ := may_txt hm
                exact .txt ht
              · obtain ⟨hv, ht, rfl⟩ := may_itv hk hm
                exact .elm hv ht (rises_nodup nmS (snap_rises nmS al)) (rises_nodup nmI (snap_rises nmI sl)) (hK kids (left - 1) (fun t ht => by
                  have := List.sizeOf_lt_of_mem ht
                  simp only [Tree.mk.sizeOf_spec] at h
                  omega) hc)
theorem wdL_len (l : List ByteArray) (X : Nat) (h : ∀ w ∈ l, w.size + 1 ≤ X) : (wdL l).length ≤ X * l.length := by
  induction l with
  | nil => simp [wdL]
  | cons w l ih =>
    have h1 := h w (.head _)
    have h2 := ih (fun x hx => h x (.tail _ hx))
    have e : (wdL (w :: l)).length = w.size + 1 + (wdL l).length := by
      simp [wdL]; omega
    rw [e, List.length_cons, Nat.mul_succ]
    omega
theorem wd_opt {l : List ByteArray} {X : Nat} (h1 : l.length ≤ 1) (h : ∀ w ∈ l, w.size + 1 ≤ X) : (wdL l).length ≤ X :=
  Nat.le_trans (wdL_len l X h) (by have := Nat.mul_le_mul_left X h1; omega)
theorem itB_le {n : Int} (h : in64 n) : (itB n).size ≤ 21 := itoR_size h
theorem itm_len {k : Int} {tag key text : ByteArray} {cl : List ByteArray} {al : List (ByteArray × ByteArray)} {sl : List (ByteArray × Int)} {o : Opt} (h : okN k tag key text cl al sl o) : (wdL (itmB k key cl (snapF nmS al) (snapF nmI sl) o)).length ≤ 660 := by
  obtain ⟨-, -, k2, -, c1, c2, a1, a2, s1, s2, o1, o2, o3, -⟩ := h
  have hA := snap_len nmS al
  have hS := snap_len nmI sl
  have e35 : ByteArray.size ⟨#[35]⟩ = 1 := rfl
  have e46 : ByteArray.size ⟨#[46]⟩ = 1 := rfl
  have e61 : ByteArray.size ⟨#[61]⟩ = 1 := rfl
  have e64 : ByteArray.size ⟨#[64]⟩ = 1 := rfl
  have p1 : (wdL (keyB key)).length ≤ 22 := by
    refine wd_opt (by unfold keyB; split <;> simp) (fun w hw => ?_)
    unfold keyB at hw
    split at hw
    · cases hw
    · rw [List.mem_singleton.1 hw, ByteArray.size_append]; omega
  have p2 : (wdL (cl.map (fun c => ⟨#[46]⟩ ++ c))).length ≤ 22 * 4 := by
    refine Nat.le_trans (wdL_len _ 22 (fun w hw => ?_)) (by rw [List.length_map]; omega)
    obtain ⟨c, hc, rfl⟩ := List.mem_map.1 hw
    have := c2 c hc
    rw [ByteArray.size_append]; omega
  have p3 : (wdL (List.map (α := ByteArray × ByteArray) (fun x => ⟨#[64]⟩ ++ x.1 ++ ⟨#[61]⟩ ++ x.2) (snapF nmS al))).length ≤ 63 * 4 := by
    refine Nat.le_trans (wdL_len _ 63 (fun w hw => ?_)) (by rw [List.length_map]; omega)
    obtain ⟨x, hx, rfl⟩ := List.mem_map.1 hw
    have := a2 x (snap_mem nmS hx)
    simp only [ByteArray.size_append]; omega
  have p4 : (wdL (List.map (α := ByteArray × Int) (fun x => x.1 ++ ⟨#[61]⟩ ++ itB x.2) (snapF nmI sl))).length ≤ 43 * 4 := by
    refine Nat.le_trans (wdL_len _ 43 (fun w hw => ?_)) (by rw [List.length_map]; omega)
    obtain ⟨x, hx, rfl⟩ := List.mem_map.1 hw
    have h1 := s2 x (snap_mem nmI hx)
    have h2 := itB_le h1.2
    simp only [ByteArray.size_append]; omega
  have pd : ∀ (nm : ByteArray) (x : Int), nm.size ≤ 6 → in64 x → (wdL (durB nm x)).length ≤ 29 := fun nm x hn hx => by
    refine wd_opt (by unfold durB; split <;> simp) (fun w hw => ?_)
    unfold durB at hw
    split at hw
    · cases hw
    · have := itB_le hx
      rw [List.mem_singleton.1 hw]
      simp only [ByteArray.size_append]; omega
  have p5 : (wdL (kndW k)).length ≤ 7 := by
    refine wd_opt (by unfold kndW; split <;> (try split) <;> simp) (fun w hw => ?_)
    unfold kndW at hw
    split at hw
    · rw [List.mem_singleton.1 hw]; decide
    · split at hw
      · rw [List.mem_singleton.1 hw]; decide
      · cases hw
  have p6 := pd wEnter o.1 (by decide) o1
  have p7 := pd wLeave o.2.1 (by decide) o2
  have p8 := pd wMove o.2.2.1 (by decide) o3
  have p9 : (wdL (apB o.2.2.2.2.1)).length ≤ 8 := by
    refine wd_opt (by unfold apB; split <;> simp) (fun w hw => ?_)
    unfold apB at hw
    split at hw
    · rw [List.mem_singleton.1 hw]; decide
    · cases hw
  have p10 : (wdL (mvB o.2.2.2.2.2)).length ≤ 7 := by
    refine wd_opt (by unfold mvB; split <;> simp) (fun w hw => ?_)
    unfold mvB at hw
    split at hw
    · rw [List.mem_singleton.1 hw]; decide
    · cases hw
  have p11 : (wdL (mdB o.2.2.2.1)).length ≤ 8 := by
    refine wd_opt (by unfold mdB; split <;> (try split) <;> simp) (fun w hw => ?_)
    unfold mdB at hw
    split at hw
    · rw [List.mem_singleton.1 hw]; decide
    · split at hw
      · rw [List.mem_singleton.1 hw]; decide
      · cases hw
  unfold itmB
  simp only [wdL_app, List.length_append]
  omega
theorem prB_len : ∀ (n : Nat) (t : Tree), SizeOf.sizeOf t < n → Small t → (prB (snapT t)).length + 1 ≤ 700 * cnt t
  | 0, t, h, _ => absurd h (by omega)
  | n + 1, .mk k tag key text cl al sl o kids, h, hs => by
    cases hs with
    | mk hok hks =>
    have hi := itm_len hok
    obtain ⟨-, k1, -, k3, -⟩ := hok
    have hK : ∀ ts : List Tree, (∀ t ∈ ts, SizeOf.sizeOf t < n ∧ Small t) → (prBL (snapTs ts)).length ≤ 700 * cntL ts := by
      intro ts
      induction ts with
      | nil => intro _; simp [snapTs, prBL, cntL]
      | cons t ts ih =>
        intro hts
        have e1 := ih (fun x hx => hts x (.tail _ hx))
        have e2 := prB_len n t (hts t (.head _)).1 (hts t (.head _)).2
        rw [snapTs, prBL, cntL, List.length_append, List.length_cons]
        omega
    have hk2 := hK kids (fun t ht => ⟨by
      have := List.sizeOf_lt_of_mem ht
      simp only [Tree.mk.sizeOf_spec] at h
      omega, hks t ht⟩)
    rw [snapT, prB, cnt]
    by_cases hk : k = 1
    · rw [if_pos hk]
      have e : text.data.toList.length = text.size := by simp
      simp only [List.length_cons, List.length_append, List.length_nil]
      omega
    · rw [if_neg hk]
      have e : tag.data.toList.length = tag.size := by simp
      simp only [List.length_cons, List.length_append, List.length_nil]
      omega
theorem prn_size {t : Tree} (hs : Small t) (hc : cnt t ≤ 25) : (prnT (snapT t)).size ≤ 17500 := by
  have h1 := prn_bytes _ (snapT t) (Nat.lt_succ_self _)
  have h2 := prB_len _ t (Nat.lt_succ_self _) hs
  have h3 : (prnT (snapT t)).size = (prnT (snapT t)).data.toList.length := by simp
  rw [h3, h1]
  omega
theorem small_po {t : Tree} (h : Small t) : cnt t ≤ 1000 → PO t := by
  induction h with
  | @mk k tag key text cl al sl o kids hok hks ih =>
    intro hc
    obtain ⟨-, -, -, -, c1, -, a1, -, s1, s2, o1, o2, o3, -⟩ := hok
    rw [cnt] at hc
    refine .mk (by omega) (by omega) (by omega) (by have := cntL_len kids; omega) (fun x hx => (s2 x hx).2) ⟨o1, o2, o3⟩ (fun t ht => ih t ht (by have := cntL_mem ht; omega))
theorem po_snap : ∀ (n : Nat) (t : Tree), SizeOf.sizeOf t < n → PO t → PO (snapT t)
  | 0, t, h, _ => absurd h (by omega)
  | n + 1, .mk k tag key text cl al sl o kids, h, hp => by
    cases hp with
    | mk h1 h2 h3 h4 h5 h6 h7 =>
    rw [snapT]
    refine .mk h1 (by have := snap_len nmS al; omega) (by have := snap_len nmI sl; omega) (by rw [snapTs_len]; exact h4) (fun x hx => h5 x (snap_mem nmI hx)) h6 ?_
    intro t ht
    rw [snapTs_map] at ht
    obtain ⟨u, hu, rfl⟩ := List.mem_map.1 ht
    refine po_snap n u ?_ (h7 u hu)
    have := List.sizeOf_lt_of_mem hu
    simp only [Tree.mk.sizeOf_spec] at h
    omega
theorem fits_snap : ∀ (n : Nat) (t : Tree), SizeOf.sizeOf t < n → Fits t → Fits (snapT t)
  | 0, t, h, _ => absurd h (by omega)
  | n + 1, .mk k tag key text cl al sl o kids, h, hp => by
    cases hp with
    | mk h1 h2 h3 h4 h5 =>
    rw [snapT]
    refine .mk h1 (by have := snap_len nmS al; omega) (by have := snap_len nmI sl; omega) (by rw [snapTs_len]; exact h4) ?_
    intro t ht
    rw [snapTs_map] at ht
    obtain ⟨u, hu, rfl⟩ := List.mem_map.1 ht
    refine fits_snap n u ?_ (h5 u hu)
    have := List.sizeOf_lt_of_mem hu
    simp only [Tree.mk.sizeOf_spec] at h
    omega
theorem parse_back {t : Tree} {nodes : Int} (hs : Small t) (hc : cnt t ≤ 25) (hk : (chkT t 1 20 nodes).1 = 0) : ∃ j, parseF (prnT (snapT t)) = .ok (snapT t) j := by
  have h1 := chk_prv 20 _ t 1 nodes (Nat.lt_succ_self _) hk
  have h2 := prn_size hs hc
  have h3 := print_back h1 (by omega) (prn_bytes _ (snapT t) (Nat.lt_succ_self _)) (by omega)
  cases hp : parseF (prnT (snapT t)) with
  | ok u j => rw [hp] at h3; injection h3 with h3 _; injection h3 with h3; subst h3; exact ⟨j, rfl⟩
  | no p e => rw [hp] at h3; injection h3 with h3 _; cases h3
end Go.Proofs.YtipdgobplfkipaaGreatDoor
