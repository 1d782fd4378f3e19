/- Layer 8: blanks between tokens change nothing: the law. -/
import Derived.Test.YtipdgobplfkipaaGreatDoorC15
import Derived.Test.YtipdgobplfkipaaGreatDoorC16
import Derived.Test.YtipdgobplfkipaaGreatDoorC17
import Derived.Test.YtipdgobplfkipaaGreatDoorRows
import Derived.Lay
import Derived.SevenTiedAt
set_option linter.all false
namespace Go.Proofs.YtipdgobplfkipaaGreatDoor
open Go.RowKit
set_option maxRecDepth 100000
attribute [local irreducible] Go.Code.wpIn Go.wpListIn Go.Calls Gives Go.Exit.then Go.Exit.inBlock Done ObxE

theorem rdg_ints {W : World} {D : Nat} {us : List Value} (h : Rdg Tryz.prog W (D + 2) 48 us) : ∃ v, ∃ xs : List Int, us = [v] ∧ SlT xs v W := by
  obtain ⟨v, xs, h1, h2, _⟩ := SlT.of_rdg (α := Int) (fun _ => True) h (eT rfl) (zT rfl) (fun us _ h => by obtain ⟨s, hs, _⟩ := rdg_int (iT rfl) h; exact ⟨s, hs.symm, trivial⟩)
  exact ⟨v, xs, h1, h2⟩
theorem arg_ints {W : World} {v : Value} (h : Arg Tryz.prog W 48 v) : ∃ xs : List Int, SlT xs v W := by
  obtain ⟨u, xs, h1, h2⟩ := rdg_ints h.1
  have h3 := h.2.2 (aT rfl)
  rw [h3] at h1
  simp at h1
  subst h1
  exact ⟨xs, h2⟩
theorem ba_size (l : List UInt8) : (⟨l.toArray⟩ : ByteArray).size = l.length := by simp [ByteArray.size]
theorem ba_cat (a b : List UInt8) : (⟨a.toArray⟩ : ByteArray) ++ ⟨b.toArray⟩ = ⟨(a ++ b).toArray⟩ := by
  apply ByteArray.ext
  simp [ByteArray.data_append]
theorem spL_else {k : Nat} {x : ByteArray} (k1 : k ≠ 1) (k2 : k ≠ 2) (k3 : k ≠ 3) (k4 : k ≠ 4) : spL (k, x) = [] := by
  unfold spL
  split
  · rename_i h; cases h; exact absurd rfl k1
  · rename_i h; cases h; exact absurd rfl k2
  · rename_i h; cases h; exact absurd rfl k3
  · rename_i h; cases h; exact absurd rfl k4
  · rfl
theorem tr_nd0 (w : World) : TrR w (.mk 0 ⟨#[]⟩ ⟨#[]⟩ ⟨#[]⟩ [] [] [] o0 []) (0, ⟨#[]⟩, ⟨#[]⟩, ⟨#[]⟩, ⟨none, 0, 0⟩, ⟨none, 0, 0⟩, ⟨none, 0, 0⟩, o0, ⟨none, 0, 0⟩) := by
  exact .mk (hc := ⟨none, 0, 0⟩) (ha := ⟨none, 0, 0⟩) (hs := ⟨none, 0, 0⟩) (hk := ⟨none, 0, 0⟩) (H := []) (SlT.nil w) (SlT.nil w) (SlT.nil w) (SlT.nil w) rfl (fun i t h h1 => by cases h1)
set_option maxHeartbeats 8000000 in
theorem noteblanks_any (s : ByteArray) (xs : List Int) (v : Value) (w0 : World) (hv : SlT xs v w0) (ht : TabW w0) :
    Calls Tryz.prog 4 #[.string s, v] w0 (Ret fun v w => v = .bool true ∧ St w0 [] w) := by
  have hc := cutF_len s 300
  have hxl : xs.length ≤ maxLen := hv.len_le
  simp only [maxLen] at hxl
  refine enter Tryz.func4 rfl Tryz.ntmps4 rfl (fun a hk => ?_); have hS := St.refl w0
  (repeat' (first | (show wpListIn _ _ _ _ _ (_ :: _) _ _; first | (refine wx1 ?_; clear hk a; intro a hk) | (refine wx2 ?_ ?_ <;> (intro hp; clear hk a; intro a hk)) | (refine wx3 ?_; clear hk hS a; intro w b hS a hk) | (refine wx4 ?_; clear hk hS a; intro w hS a hk) | (refine wx5 ?_; clear hk hS a; intro w v hS a hk) | fail) | refine wx0 ?_ | (refine s_end hk ?_; clear hk a; intro a hk) | fail))
  refine sg hk (g_callO hk (hf := by kernel_rfl) (hc := awake_any _ (ht.mono hS.below)) (h := ?_)); clear hk a; rintro _ w ⟨rfl, hS1⟩ a hk; replace hS := hS.call0 hS1; clear hS1
  (repeat' (first | (show wpListIn _ _ _ _ _ (_ :: _) _ _; first | (refine wx1 ?_; clear hk a; intro a hk) | (refine wx2 ?_ ?_ <;> (intro hp; clear hk a; intro a hk)) | (refine wx3 ?_; clear hk hS a; intro w b hS a hk) | (refine wx4 ?_; clear hk hS a; intro w hS a hk) | (refine wx5 ?_; clear hk hS a; intro w v hS a hk) | fail) | refine wx0 ?_ | (refine s_end hk ?_; clear hk a; intro a hk) | fail))
  refine sg hk (g_callO hk (hf := by kernel_rfl) (hc := cut_any s 300 _) (h := ?_)); clear hk a; rintro _ w ⟨rfl, hS1⟩ a hk; replace hS := hS.call0 hS1; clear hS1
  generalize cutF s 300 = s0 at *
  (repeat' (first | (show wpListIn _ _ _ _ _ (_ :: _) _ _; first | (refine wx1 ?_; clear hk a; intro a hk) | (refine wx2 ?_ ?_ <;> (intro hp; clear hk a; intro a hk)) | (refine wx3 ?_; clear hk hS a; intro w b hS a hk) | (refine wx4 ?_; clear hk hS a; intro w hS a hk) | (refine wx5 ?_; clear hk hS a; intro w v hS a hk) | fail) | refine wx0 ?_ | (refine s_end hk ?_; clear hk a; intro a hk) | fail))
  refine sg hk (g_callO hk (hf := by kernel_rfl) (hc := tokens_any s0 (by omega) _) (h := ?_)); clear hk a; rintro vk w hS1 a hk; replace hS := hS.call hS1; clear hS1
  rw [List.cons_append, List.nil_append] at hS
  have hbs := bl_size s0 xs
  have hbb := @bl_blanked s0 xs
  have hL3 := toks_len s0 s0.size 0 (by omega)
  have hbp := @bl_part xs (toksL s0 0)
  obtain ⟨r0, hr0⟩ := toks_ne s0 0
  have hne : 0 < (toksL s0 0).length := by rw [hr0, List.length_cons]; omega
  clear hr0
  generalize toksL s0 0 = L at *
  have hml : (L.map tkC).length = L.length := List.length_map _
  obtain ⟨x, hx⟩ : ∃ x, L[L.length - 1]? = some x := ⟨_, List.getElem?_eq_getElem (by omega)⟩
  have hx2 : ∀ h : (((List.map tkC L).length : Int) - 1).toNat < (List.map tkC L).length, (List.map tkC L)[(((List.map tkC L).length : Int) - 1).toNat] = tkC x := fun h => by
    apply Option.some.inj
    rw [← List.getElem?_eq_getElem, List.getElem?_map, show (((List.map tkC L).length : Int) - 1).toNat = L.length - 1 by omega, hx]; rfl
  (repeat' (first | (show wpListIn _ _ _ _ _ (_ :: _) _ _; first | (refine wx1 ?_; clear hk a; intro a hk) | (refine wx2 ?_ ?_ <;> (intro hp; clear hk a; intro a hk)) | (refine wx3 ?_; clear hk hS a; intro w b hS a hk) | (refine wx4 ?_; clear hk hS a; intro w hS a hk) | (refine wx5 ?_; clear hk hS a; intro w v hS a hk) | fail) | refine wx0 ?_ | (refine s_end hk ?_; clear hk a; intro a hk) | fail))
  rotate_left
  focus
    exact done1 hk (h := ⟨rfl, hS.nil⟩)
  have h0 : x.kind = 0 := by
    rw [hx2] at hp
    have : (x.kind : Int) = 0 := hp
    omega
  clear hp hx2
  have hbb := hbb ⟨x, by rw [List.getLast?_eq_getElem?]; exact hx, h0⟩
  replace hk := Kn.kp [0, 1, 5, 6, 30, 31, 32] hk
  rw [hml] at hk
  refine wp_for L.length (fun i _ => [(6, .string ⟨(spAll ((blL xs L).take i)).toArray⟩), (32, .int .i64 (i : Int))]) (fun _ _ => [OwT 52 (L.map tkC) vk]) (fun _ _ => True) () hk (by repeat (first | exact trivial | refine ⟨rfl, ?_⟩)) hS.sb trivial ?_
  clear hk hS a
  rintro i - a w hi hk hS -
  by_cases hil : i < L.length
  · obtain ⟨t, hx3⟩ : ∃ t, L[i]? = some t := ⟨_, List.getElem?_eq_getElem hil⟩
    have hx4 : (L.map tkC)[i]? = some (tkC t) := by rw [List.getElem?_map, hx3]; rfl
    have hnx := bl_next (at_ := xs) hx3
    have hb1 := hbp i
    have hb2 := hbp (i + 1)
    obtain ⟨u, hu⟩ : ∃ u, L[i - 1]? = some u := ⟨_, List.getElem?_eq_getElem (by omega)⟩
    have hx5 : (L.map tkC)[((i : Int) - 1).toNat]? = some (tkC u) := by rw [List.getElem?_map, show ((i : Int) - 1).toNat = i - 1 by omega, hu]; rfl
    have hPe : blP L i ↔ (0 < i ∧ t.kind = 4 ∧ u.kind = 4) := by unfold blP; rw [hx3, hu]; simp
    have hNe : blN xs L i = if blA xs i = 0 ∧ (0 < i ∧ t.kind = 4 ∧ u.kind = 4) then 1 else blA xs i := by
      unfold blN
      by_cases h : blA xs i = 0 ∧ blP L i
      · rw [if_pos h, if_pos ⟨h.1, hPe.1 h.2⟩]
      · rw [if_neg h, if_neg (fun hh => h ⟨hh.1, hPe.2 hh.2⟩)]
    have q1 : (tkC t).1 = (t.kind : Int) := rfl
    have q2 : (tkC u).1 = (u.kind : Int) := rfl
    have hbl := blA_le xs i
    have hlen := congrArg List.length hnx
    rw [List.length_append, List.length_append, List.length_replicate] at hlen
    clear hPe
    by_cases hix : i < xs.length
    case' pos =>
      obtain ⟨y, hy⟩ : ∃ y, xs[i]? = some y := ⟨_, List.getElem?_eq_getElem hix⟩
      have hbA : bits .and .i64 y 7 = (blA xs i : Int) := by
        have h7 := and7 y
        unfold blA; rw [hy]
        show _ = ((bits .and .i64 y 7).toNat : Int)
        omega
      have hv1 := hS.rdT hv
      (repeat' (first | (show wpListIn _ _ _ _ _ (_ :: _) _ _; first | (refine wx1 ?_; clear hk a; intro a hk) | (refine wx2 ?_ ?_ <;> (intro hp; clear hk a; intro a hk)) | (refine wx3 ?_; clear hk hS a; intro w b hS a hk) | (refine wx4 ?_; clear hk hS a; intro w hS a hk) | (refine wx5 ?_; clear hk hS a; intro w v hS a hk) | fail) | refine wx0 ?_ | (refine s_end hk ?_; clear hk a; intro a hk) | fail))
      refine sg hk (g_and (p := y) (q := ((7 : Nat) : Int)) hk ?_ (hb := hbA)); clear hk a; intro a hk
      clear hbA hv1 hy hix
      by_cases hP : blA xs i = 0 ∧ (0 < i ∧ t.kind = 4 ∧ u.kind = 4)
      case' pos =>
        rw [if_pos hP] at hNe
        obtain ⟨p1, p2, p3, p4⟩ := hP
        (repeat' (first | (show wpListIn _ _ _ _ _ (_ :: _) _ _; first | (refine wx1 ?_; clear hk a; intro a hk) | (refine wx2 ?_ ?_ <;> (intro hp; clear hk a; intro a hk)) | (refine wx3 ?_; clear hk hS a; intro w b hS a hk) | (refine wx4 ?_; clear hk hS a; intro w hS a hk) | (refine wx5 ?_; clear hk hS a; intro w v hS a hk) | fail) | refine wx0 ?_ | (refine s_end hk ?_; clear hk a; intro a hk) | fail))
        clear p1 p2 p3 p4
      case' neg =>
        rw [if_neg hP] at hNe
        (repeat' (first | (show wpListIn _ _ _ _ _ (_ :: _) _ _; first | (refine wx1 ?_; clear hk a; intro a hk) | (refine wx2 ?_ ?_ <;> (intro hp; clear hk a; intro a hk)) | (refine wx3 ?_; clear hk hS a; intro w b hS a hk) | (refine wx4 ?_; clear hk hS a; intro w hS a hk) | (refine wx5 ?_; clear hk hS a; intro w v hS a hk) | fail) | refine wx0 ?_ | (refine s_end hk ?_; clear hk a; intro a hk) | fail))
        all_goals clear hP
    case' neg =>
      have hbA : blA xs i = 1 := by unfold blA; rw [List.getElem?_eq_none (by omega)]
      rw [if_neg (by omega), hbA] at hNe
      (repeat' (first | (show wpListIn _ _ _ _ _ (_ :: _) _ _; first | (refine wx1 ?_; clear hk a; intro a hk) | (refine wx2 ?_ ?_ <;> (intro hp; clear hk a; intro a hk)) | (refine wx3 ?_; clear hk hS a; intro w b hS a hk) | (refine wx4 ?_; clear hk hS a; intro w hS a hk) | (refine wx5 ?_; clear hk hS a; intro w v hS a hk) | fail) | refine wx0 ?_ | (refine s_end hk ?_; clear hk a; intro a hk) | fail))
      clear hbA hix
    all_goals (
      clear hx5 q2 hu
      replace hk := Kn.kp [0, 1, 5, 6, 8, 30, 31, 32, 66, 67] hk
      first
        | rw [show (1 : Int) = ((blN xs L i : Nat) : Int) by omega] at hk
        | rw [← hNe] at hk
      have hN7 := blN_le xs L i
      clear hNe hbl
      try clear hp
      generalize blN xs L i = N at *
      generalize hT2 : spAll (List.take (i + 1) (blL xs L)) = T2 at *
      generalize hT1 : spAll (List.take i (blL xs L)) = T1 at *
      rw [show T1 = T1 ++ List.replicate 0 32 from (List.append_nil _).symm] at hk
      refine wp_for N (fun j _ => [(6, .string ⟨(T1 ++ List.replicate j 32).toArray⟩), (67, .int .i64 (j : Int))]) (fun _ _ => [pts b [.int .i64 (tkC t).1, .int .i64 (tkC t).2.1, .string (tkC t).2.2] 52, OwT 52 (L.map tkC) vk]) (fun _ _ => True) () hk (by repeat (first | exact trivial | refine ⟨rfl, ?_⟩)) hS.sb trivial ?_
      clear hk hS a
      rintro j - a w hj hk hS -
      by_cases hjn : j < N
      · (repeat' (first | (show wpListIn _ _ _ _ _ (_ :: _) _ _; first | (refine wx1 ?_; clear hk a; intro a hk) | (refine wx2 ?_ ?_ <;> (intro hp; clear hk a; intro a hk)) | (refine wx3 ?_; clear hk hS a; intro w b hS a hk) | (refine wx4 ?_; clear hk hS a; intro w hS a hk) | (refine wx5 ?_; clear hk hS a; intro w v hS a hk) | fail) | refine wx0 ?_ | (refine s_end hk ?_; clear hk a; intro a hk) | fail))
        refine sg hk (g_cat (s := ⟨(T1 ++ List.replicate j 32).toArray⟩) (r := ⟨[32].toArray⟩) hk ?_ (hl := by rw [ba_size, ba_size, List.length_append, List.length_replicate]; simp only [List.length_cons, List.length_nil, maxLen]; omega)); clear hk a; intro a hk
        rw [ba_cat, List.append_assoc, ← List.replicate_succ'] at hk
        (repeat' (first | (show wpListIn _ _ _ _ _ (_ :: _) _ _; first | (refine wx1 ?_; clear hk a; intro a hk) | (refine wx2 ?_ ?_ <;> (intro hp; clear hk a; intro a hk)) | (refine wx3 ?_; clear hk hS a; intro w b hS a hk) | (refine wx4 ?_; clear hk hS a; intro w hS a hk) | (refine wx5 ?_; clear hk hS a; intro w v hS a hk) | fail) | refine wx0 ?_ | (refine s_end hk ?_; clear hk a; intro a hk) | fail))
        exact ⟨hjn, (), hk.sd, hS.sb, trivial⟩
      · have hje : j = N := by omega
        subst hje
        have hT2l : T2.length ≤ 2407 := by omega
        by_cases k1 : t.kind = 1
        · (repeat' (first | (show wpListIn _ _ _ _ _ (_ :: _) _ _; first | (refine wx1 ?_; clear hk a; intro a hk) | (refine wx2 ?_ ?_ <;> (intro hp; clear hk a; intro a hk)) | (refine wx3 ?_; clear hk hS a; intro w b hS a hk) | (refine wx4 ?_; clear hk hS a; intro w hS a hk) | (refine wx5 ?_; clear hk hS a; intro w v hS a hk) | fail) | refine wx0 ?_ | (refine s_end hk ?_; clear hk a; intro a hk) | fail))
          refine sg hk (g_cat (s := ⟨(T1 ++ List.replicate j 32).toArray⟩) (r := ⟨[40].toArray⟩) hk ?_ (hl := by rw [ba_size, ba_size, List.length_append, List.length_replicate]; simp only [List.length_cons, List.length_nil, maxLen]; omega)); clear hk a; intro a hk
          have ez : ((⟨(T1 ++ List.replicate j 32).toArray⟩ : ByteArray) ++ (⟨[40].toArray⟩ : ByteArray)) = (⟨T2.toArray⟩ : ByteArray) := by rw [ba_cat, hnx, k1, List.append_assoc]; rfl
          rw [ez] at hk
          (repeat' (first | (show wpListIn _ _ _ _ _ (_ :: _) _ _; first | (refine wx1 ?_; clear hk a; intro a hk) | (refine wx2 ?_ ?_ <;> (intro hp; clear hk a; intro a hk)) | (refine wx3 ?_; clear hk hS a; intro w b hS a hk) | (refine wx4 ?_; clear hk hS a; intro w hS a hk) | (refine wx5 ?_; clear hk hS a; intro w v hS a hk) | fail) | refine wx0 ?_ | (refine s_end hk ?_; clear hk a; intro a hk) | fail))
          exact ⟨hil, (), hk.sd, hS.sub (by (repeat (first | exact Sub.nil | exact Sub.refl | refine Sub.cons (by (repeat (first | exact At.here | apply At.there))) ?_))), trivial⟩
        by_cases k2 : t.kind = 2
        · (repeat' (first | (show wpListIn _ _ _ _ _ (_ :: _) _ _; first | (refine wx1 ?_; clear hk a; intro a hk) | (refine wx2 ?_ ?_ <;> (intro hp; clear hk a; intro a hk)) | (refine wx3 ?_; clear hk hS a; intro w b hS a hk) | (refine wx4 ?_; clear hk hS a; intro w hS a hk) | (refine wx5 ?_; clear hk hS a; intro w v hS a hk) | fail) | refine wx0 ?_ | (refine s_end hk ?_; clear hk a; intro a hk) | fail))
          refine sg hk (g_cat (s := ⟨(T1 ++ List.replicate j 32).toArray⟩) (r := ⟨[41].toArray⟩) hk ?_ (hl := by rw [ba_size, ba_size, List.length_append, List.length_replicate]; simp only [List.length_cons, List.length_nil, maxLen]; omega)); clear hk a; intro a hk
          have ez : ((⟨(T1 ++ List.replicate j 32).toArray⟩ : ByteArray) ++ (⟨[41].toArray⟩ : ByteArray)) = (⟨T2.toArray⟩ : ByteArray) := by rw [ba_cat, hnx, k2, List.append_assoc]; rfl
          rw [ez] at hk
          (repeat' (first | (show wpListIn _ _ _ _ _ (_ :: _) _ _; first | (refine wx1 ?_; clear hk a; intro a hk) | (refine wx2 ?_ ?_ <;> (intro hp; clear hk a; intro a hk)) | (refine wx3 ?_; clear hk hS a; intro w b hS a hk) | (refine wx4 ?_; clear hk hS a; intro w hS a hk) | (refine wx5 ?_; clear hk hS a; intro w v hS a hk) | fail) | refine wx0 ?_ | (refine s_end hk ?_; clear hk a; intro a hk) | fail))
          exact ⟨hil, (), hk.sd, hS.sub (by (repeat (first | exact Sub.nil | exact Sub.refl | refine Sub.cons (by (repeat (first | exact At.here | apply At.there))) ?_))), trivial⟩
        by_cases k3 : t.kind = 3
        · have hz : t.txt.size + 2 ≤ 2407 := by
            rw [k3] at hlen
            have : (spL (3, t.txt)).length = t.txt.size + 2 := by show (39 :: t.txt.data.toList ++ [39]).length = _; simp
            omega
          (repeat' (first | (show wpListIn _ _ _ _ _ (_ :: _) _ _; first | (refine wx1 ?_; clear hk a; intro a hk) | (refine wx2 ?_ ?_ <;> (intro hp; clear hk a; intro a hk)) | (refine wx3 ?_; clear hk hS a; intro w b hS a hk) | (refine wx4 ?_; clear hk hS a; intro w hS a hk) | (refine wx5 ?_; clear hk hS a; intro w v hS a hk) | fail) | refine wx0 ?_ | (refine s_end hk ?_; clear hk a; intro a hk) | fail))
          refine sg hk (g_cat (s := ⟨[39].toArray⟩) (r := t.txt) hk ?_ (hl := by rw [ba_size]; simp only [List.length_cons, List.length_nil, maxLen]; omega)); clear hk a; intro a hk
          refine sg hk (g_cat (s := ⟨[39].toArray⟩ ++ t.txt) (r := ⟨[39].toArray⟩) hk ?_ (hl := by rw [ByteArray.size_append, ba_size]; simp only [List.length_cons, List.length_nil, maxLen]; omega)); clear hk a; intro a hk
          refine sg hk (g_cat (s := ⟨(T1 ++ List.replicate j 32).toArray⟩) (r := ⟨[39].toArray⟩ ++ t.txt ++ ⟨[39].toArray⟩) hk ?_ (hl := by rw [ByteArray.size_append, ByteArray.size_append, ba_size, ba_size, List.length_append, List.length_replicate]; simp only [List.length_cons, List.length_nil, maxLen]; omega)); clear hk a; intro a hk
          have ez : ((⟨(T1 ++ List.replicate j 32).toArray⟩ : ByteArray) ++ ((⟨[39].toArray⟩ : ByteArray) ++ t.txt ++ (⟨[39].toArray⟩ : ByteArray))) = (⟨T2.toArray⟩ : ByteArray) := by apply ba_eq; rw [hnx, k3]; simp [spL, ByteArray.data_append]
          rw [ez] at hk
          (repeat' (first | (show wpListIn _ _ _ _ _ (_ :: _) _ _; first | (refine wx1 ?_; clear hk a; intro a hk) | (refine wx2 ?_ ?_ <;> (intro hp; clear hk a; intro a hk)) | (refine wx3 ?_; clear hk hS a; intro w b hS a hk) | (refine wx4 ?_; clear hk hS a; intro w hS a hk) | (refine wx5 ?_; clear hk hS a; intro w v hS a hk) | fail) | refine wx0 ?_ | (refine s_end hk ?_; clear hk a; intro a hk) | fail))
          exact ⟨hil, (), hk.sd, hS.sub (by (repeat (first | exact Sub.nil | exact Sub.refl | refine Sub.cons (by (repeat (first | exact At.here | apply At.there))) ?_))), trivial⟩
        by_cases k4 : t.kind = 4
        · have hz : t.txt.size ≤ 2407 := by
            rw [k4] at hlen
            have : (spL (4, t.txt)).length = t.txt.size := by show t.txt.data.toList.length = _; simp
            omega
          (repeat' (first | (show wpListIn _ _ _ _ _ (_ :: _) _ _; first | (refine wx1 ?_; clear hk a; intro a hk) | (refine wx2 ?_ ?_ <;> (intro hp; clear hk a; intro a hk)) | (refine wx3 ?_; clear hk hS a; intro w b hS a hk) | (refine wx4 ?_; clear hk hS a; intro w hS a hk) | (refine wx5 ?_; clear hk hS a; intro w v hS a hk) | fail) | refine wx0 ?_ | (refine s_end hk ?_; clear hk a; intro a hk) | fail))
          refine sg hk (g_cat (s := ⟨(T1 ++ List.replicate j 32).toArray⟩) (r := t.txt) hk ?_ (hl := by rw [ba_size, List.length_append, List.length_replicate]; simp only [maxLen]; omega)); clear hk a; intro a hk
          have ez : ((⟨(T1 ++ List.replicate j 32).toArray⟩ : ByteArray) ++ t.txt) = (⟨T2.toArray⟩ : ByteArray) := by apply ba_eq; rw [hnx, k4]; simp [spL, ByteArray.data_append]
          rw [ez] at hk
          (repeat' (first | (show wpListIn _ _ _ _ _ (_ :: _) _ _; first | (refine wx1 ?_; clear hk a; intro a hk) | (refine wx2 ?_ ?_ <;> (intro hp; clear hk a; intro a hk)) | (refine wx3 ?_; clear hk hS a; intro w b hS a hk) | (refine wx4 ?_; clear hk hS a; intro w hS a hk) | (refine wx5 ?_; clear hk hS a; intro w v hS a hk) | fail) | refine wx0 ?_ | (refine s_end hk ?_; clear hk a; intro a hk) | fail))
          exact ⟨hil, (), hk.sd, hS.sub (by (repeat (first | exact Sub.nil | exact Sub.refl | refine Sub.cons (by (repeat (first | exact At.here | apply At.there))) ?_))), trivial⟩
        · have e : T2 = T1 ++ List.replicate j 32 := by rw [hnx, spL_else k1 k2 k3 k4, List.append_nil]
          rw [← e] at hk
          (repeat' (first | (show wpListIn _ _ _ _ _ (_ :: _) _ _; first | (refine wx1 ?_; clear hk a; intro a hk) | (refine wx2 ?_ ?_ <;> (intro hp; clear hk a; intro a hk)) | (refine wx3 ?_; clear hk hS a; intro w b hS a hk) | (refine wx4 ?_; clear hk hS a; intro w hS a hk) | (refine wx5 ?_; clear hk hS a; intro w v hS a hk) | fail) | refine wx0 ?_ | (refine s_end hk ?_; clear hk a; intro a hk) | fail))
          exact ⟨hil, (), hk.sd, hS.sub (by (repeat (first | exact Sub.nil | exact Sub.refl | refine Sub.cons (by (repeat (first | exact At.here | apply At.there))) ?_))), trivial⟩)
  · have hie : i = L.length := by omega
    subst hie
    have htk : List.take L.length (blL xs L) = blL xs L := List.take_of_length_le (by rw [blL, List.length_mapIdx]; exact Nat.le_refl _)
    rw [htk] at hk
    clear hbp htk hil
    obtain ⟨tb, htb⟩ : ∃ tb : ByteArray, tb = ⟨(spAll (blL xs L)).toArray⟩ := ⟨_, rfl⟩
    have hbz : tb.size ≤ 2407 := by rw [htb, ba_size]; omega
    have hsame : (parseF tb).bare = (parseF s0).bare := blanks_same hbb (by rw [htb]) (by omega) (by omega)
    rw [← htb] at hk
    (repeat' (first | (show wpListIn _ _ _ _ _ (_ :: _) _ _; first | (refine wx1 ?_; clear hk a; intro a hk) | (refine wx2 ?_ ?_ <;> (intro hp; clear hk a; intro a hk)) | (refine wx3 ?_; clear hk hS a; intro w b hS a hk) | (refine wx4 ?_; clear hk hS a; intro w hS a hk) | (refine wx5 ?_; clear hk hS a; intro w v hS a hk) | fail) | refine wx0 ?_ | (refine s_end hk ?_; clear hk a; intro a hk) | fail))
    refine sg hk (g_callO hk (hf := by kernel_rfl) (hc := parseL_any s0 (by omega) hS) (h := ?_)); clear hk hS a; intro vr w hS a hk
    cases hp1 : parseF s0 with
    | ok t j =>
      obtain ⟨j2, hp2⟩ : ∃ j2, parseF tb = .ok t j2 := by
        rw [hp1] at hsame
        cases hq : parseF tb with
        | ok u j2 => rw [hq] at hsame; injection hsame with hsame _; injection hsame with hsame; subst hsame; exact ⟨j2, rfl⟩
        | no p e => rw [hq] at hsame; injection hsame with hsame _; cases hsame
      have hfw := fitw_snap (parse_fits (by omega) hp1)
      rw [hp1] at hS
      obtain ⟨u, rfl, hS⟩ := hS
      obtain ⟨⟨k1, tag1, key1, text1, ⟨x11, x21, x31⟩, ⟨y11, y21, y31⟩, ⟨z11, z21, z31⟩, ⟨e1, lv1, m1, d1, p1, q1⟩, ⟨u11, u21, u31⟩⟩, rfl, hS1⟩ := St.tree hS .here
      clear hS
      have hS := hS1
      clear hS1
      (repeat' (first | (show wpListIn _ _ _ _ _ (_ :: _) _ _; first | (refine wx1 ?_; clear hk a; intro a hk) | (refine wx2 ?_ ?_ <;> (intro hp; clear hk a; intro a hk)) | (refine wx3 ?_; clear hk hS a; intro w b hS a hk) | (refine wx4 ?_; clear hk hS a; intro w hS a hk) | (refine wx5 ?_; clear hk hS a; intro w v hS a hk) | fail) | refine wx0 ?_ | (refine s_end hk ?_; clear hk a; intro a hk) | fail))
      refine sg hk (g_callO hk (hf := by kernel_rfl) (hc := parseL_any tb (by omega) hS) (h := ?_)); clear hk hS a; intro vr w hS a hk
      rw [hp2] at hS
      obtain ⟨u, rfl, hS⟩ := hS
      obtain ⟨⟨k2, tag2, key2, text2, ⟨x12, x22, x32⟩, ⟨y12, y22, y32⟩, ⟨z12, z22, z32⟩, ⟨e2, lv2, m2, d2, p2, q2⟩, ⟨u12, u22, u32⟩⟩, rfl, hS1⟩ := St.tree hS .here
      clear hS
      have hS := hS1
      clear hS1
      (repeat' (first | (show wpListIn _ _ _ _ _ (_ :: _) _ _; first | (refine wx1 ?_; clear hk a; intro a hk) | (refine wx2 ?_ ?_ <;> (intro hp; clear hk a; intro a hk)) | (refine wx3 ?_; clear hk hS a; intro w b hS a hk) | (refine wx4 ?_; clear hk hS a; intro w hS a hk) | (refine wx5 ?_; clear hk hS a; intro w v hS a hk) | fail) | refine wx0 ?_ | (refine s_end hk ?_; clear hk a; intro a hk) | fail))
      refine sg hk (g_callO hk (hf := by kernel_rfl) (hc := vsameW_any _ (snapT t) (snapT t) (k1, tag1, key1, text1, ⟨x11, x21, x31⟩, ⟨y11, y21, y31⟩, ⟨z11, z21, z31⟩, (e1, lv1, m1, d1, p1, q1), ⟨u11, u21, u31⟩) (k2, tag2, key2, text2, ⟨x12, x22, x32⟩, ⟨y12, y22, y32⟩, ⟨z12, z22, z32⟩, (e2, lv2, m2, d2, p2, q2), ⟨u12, u22, u32⟩) _ (Nat.lt_succ_self _) hfw hfw (hS.trR (by (repeat (first | exact At.here | apply At.there)))) (hS.trR (by (repeat (first | exact At.here | apply At.there))))) (h := ?_)); clear hk a; rintro _ w ⟨rfl, hS1⟩ a hk; replace hS := hS.call0 hS1; clear hS1
      rw [sam_self] at hk
      (repeat' (first | (show wpListIn _ _ _ _ _ (_ :: _) _ _; first | (refine wx1 ?_; clear hk a; intro a hk) | (refine wx2 ?_ ?_ <;> (intro hp; clear hk a; intro a hk)) | (refine wx3 ?_; clear hk hS a; intro w b hS a hk) | (refine wx4 ?_; clear hk hS a; intro w hS a hk) | (refine wx5 ?_; clear hk hS a; intro w v hS a hk) | fail) | refine wx0 ?_ | (refine s_end hk ?_; clear hk a; intro a hk) | fail))
      exact done1 hk (h := ⟨rfl, hS.nil⟩)
    | no p e =>
      obtain ⟨p2, hp2⟩ : ∃ p2, parseF tb = .no p2 e := by
        rw [hp1] at hsame
        cases hq : parseF tb with
        | ok u j2 => rw [hq] at hsame; injection hsame with hsame _; cases hsame
        | no p' e' => rw [hq] at hsame; injection hsame with _ hsame; subst hsame; exact ⟨p', rfl⟩
      rw [hp1] at hS
      obtain ⟨rfl, hS⟩ := hS
      (repeat' (first | (show wpListIn _ _ _ _ _ (_ :: _) _ _; first | (refine wx1 ?_; clear hk a; intro a hk) | (refine wx2 ?_ ?_ <;> (intro hp; clear hk a; intro a hk)) | (refine wx3 ?_; clear hk hS a; intro w b hS a hk) | (refine wx4 ?_; clear hk hS a; intro w hS a hk) | (refine wx5 ?_; clear hk hS a; intro w v hS a hk) | fail) | refine wx0 ?_ | (refine s_end hk ?_; clear hk a; intro a hk) | fail))
      refine sg hk (g_callO hk (hf := by kernel_rfl) (hc := parseL_any tb (by omega) hS) (h := ?_)); clear hk hS a; intro vr w hS a hk
      rw [hp2] at hS
      obtain ⟨rfl, hS⟩ := hS
      (repeat' (first | (show wpListIn _ _ _ _ _ (_ :: _) _ _; first | (refine wx1 ?_; clear hk a; intro a hk) | (refine wx2 ?_ ?_ <;> (intro hp; clear hk a; intro a hk)) | (refine wx3 ?_; clear hk hS a; intro w b hS a hk) | (refine wx4 ?_; clear hk hS a; intro w hS a hk) | (refine wx5 ?_; clear hk hS a; intro w v hS a hk) | fail) | refine wx0 ?_ | (refine s_end hk ?_; clear hk a; intro a hk) | fail))
      refine sg hk (g_callO hk (hf := by kernel_rfl) (hc := vsameW_any _ _ _ (0, ⟨#[]⟩, ⟨#[]⟩, ⟨#[]⟩, ⟨none, 0, 0⟩, ⟨none, 0, 0⟩, ⟨none, 0, 0⟩, o0, ⟨none, 0, 0⟩) (0, ⟨#[]⟩, ⟨#[]⟩, ⟨#[]⟩, ⟨none, 0, 0⟩, ⟨none, 0, 0⟩, ⟨none, 0, 0⟩, o0, ⟨none, 0, 0⟩) _ (Nat.lt_succ_self _) fitw_nd0 fitw_nd0 (tr_nd0 _) (tr_nd0 _)) (h := ?_)); clear hk a; rintro _ w ⟨rfl, hS1⟩ a hk; replace hS := hS.call0 hS1; clear hS1
      rw [sam_self] at hk
      (repeat' (first | (show wpListIn _ _ _ _ _ (_ :: _) _ _; first | (refine wx1 ?_; clear hk a; intro a hk) | (refine wx2 ?_ ?_ <;> (intro hp; clear hk a; intro a hk)) | (refine wx3 ?_; clear hk hS a; intro w b hS a hk) | (refine wx4 ?_; clear hk hS a; intro w hS a hk) | (refine wx5 ?_; clear hk hS a; intro w v hS a hk) | fail) | refine wx0 ?_ | (refine s_end hk ?_; clear hk a; intro a hk) | fail))
      exact done1 hk (h := ⟨rfl, hS.nil⟩)
theorem laid_NotationBlanks {W : World} (hL : laidMetH Tryz.prog Rows.notationBlanksRow.laid W) : TabW W := by
  rw [MakeChecks.laidMetH_plain _ _ _ (by kernel_rfl)] at hL
  have h2 := laid_tail (laid_tail hL)
  exact Lib.tabIs_of_head (g := 1) (t := 173) (by kernel_rfl) (by kernel_rfl) Tryz.underlying173 Tryz.underlying161 (by kernel_rfl) (by kernel_rfl) h2
theorem walk_NotationBlanks (W : World) (vs : List Value) (hL : laidMetH Tryz.prog Rows.notationBlanksRow.laid W) (h : Args Tryz.prog W [9, 48] vs) : Calls Tryz.prog 4 vs.toArray W (Ret fun v w => v = .bool true ∧ St W [] w) := by
  obtain ⟨v1, v, rfl, h1, ha⟩ := args2 h
  obtain ⟨s, rfl, _⟩ := h1.str (sT rfl) (aT rfl)
  obtain ⟨xs, hv⟩ := arg_ints ha
  exact noteblanks_any s xs v W hv (laid_NotationBlanks hL)
end Go.Proofs.YtipdgobplfkipaaGreatDoor
