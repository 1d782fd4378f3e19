/- Layer 8: the tokens of a text: the document. -/
import Derived.Test.YtnjmonkehjlaoaaGreatDoorG17
import Derived.Test.YtnjmonkehjlaoaaGreatDoorG12
set_option linter.all false
namespace Go.Proofs.YtnjmonkehjlaoaaGreatDoor
open Go.RowKit
set_option maxRecDepth 100000
attribute [local irreducible] Go.Code.wpIn Go.wpListIn Go.Calls Gives Go.Exit.then Go.Exit.inBlock Done ObxE
theorem rworded8_any (b : UInt8) (w0 : World) : Calls Tryz.prog 44 #[.int .u8 (b.toNat : Nat)] w0 (Ret fun v w => v = .bool (visB b) ∧ St w0 [] w) := by
 refine enter Tryz.func44 rfl Tryz.ntmps44 rfl (fun a hk => ?_);have hS := St.refl w0
 (repeat' (first|((first|refine wx1 ?_|refine wx2 ?_ ?_<;>intro hp|refine s_end hk ?_)<;>(clear hk a;intro a hk))|((first|refine wx3 ?_;intro w b|refine wx4 ?_;intro w|refine wx5 ?_;intro w v);clear hk hS a;intro hS a hk)|refine wx0 ?_|fail))
 all_goals exact done1 hk (h := ⟨by unfold visB;first | rw [decide_eq_true (by omega)] | rw [decide_eq_false (by omega)], hS.nil⟩)
abbrev TkC := Int × Int × ByteArray
def tkC (t : Tok) : TkC := (t.kind, t.at_, t.txt)
theorem ext_step {s : ByteArray} {a j : Nat} (ha : a ≤ j) (hj : j < s.size) (p : UInt8 → Bool) : (s.extract a (j + 1)).data.toList.all p = ((s.extract a j).data.toList.all p && p s[j]) := by
 rw [ext_list, ext_list]
 have hl : j < s.data.toList.length := by simpa using hj
 have e : s.data.toList.take (j + 1) = s.data.toList.take j ++ [s[j]] := by
  rw [List.take_add_one, List.getElem?_eq_getElem hl];rfl
 rw [e, List.drop_append_of_le_length (by rw [List.length_take];omega), List.all_append]
 simp
theorem toks_len1 (s : ByteArray) : ∀ (n i : Nat), s.size - i ≤ n → (toksL s i).length ≤ s.size - i + 1
 | n, i, hn => by
  by_cases h : (tokF s i).kind = 0 ∨ (tokF s i).kind = 5
  ·rw [toks_end h];simp
  ·have h0 : (tokF s i).kind ≠ 0 := fun e => h (.inl e)
   have h5 : (tokF s i).kind ≠ 5 := fun e => h (.inr e)
   obtain ⟨t1, t2⟩ := tok_till h0 h5
   rw [toks_more h0 h5, List.length_cons]
   match n, hn with
   | 0, hn => omega
   | n + 1, hn =>
    have := toks_len1 s n (tokF s i).till (by omega)
    omega
set_option maxHeartbeats 16000000 in
theorem tokens_any (s : ByteArray) (hs : s.size ≤ 1000000) (w0 : World) : Calls Tryz.prog 27 #[.string s] w0 (Ret fun v w => St w0 [OwT 79 ((toksL s 0).map tkC) v] w) := by
 refine enter Tryz.func27 rfl Tryz.ntmps27 rfl (fun a hk => ?_);have hS := St.refl w0
 (repeat' (first|((first|refine wx1 ?_|refine wx2 ?_ ?_<;>intro hp|refine s_end hk ?_)<;>(clear hk a;intro a hk))|((first|refine wx3 ?_;intro w b|refine wx4 ?_;intro w|refine wx5 ?_;intro w v);clear hk hS a;intro hS a hk)|refine wx0 ?_|fail))
 refine sg hk (g_bs0 TkC hS ?_ (hT := eT rfl) (hE := zT rfl));clear hk hS a;intro w v3 hS a hk
 (repeat' (first|((first|refine wx1 ?_|refine wx2 ?_ ?_<;>intro hp|refine s_end hk ?_)<;>(clear hk a;intro a hk))|((first|refine wx3 ?_;intro w b|refine wx4 ?_;intro w|refine wx5 ?_;intro w v);clear hk hS a;intro hS a hk)|refine wx0 ?_|fail))
 replace hk := Kn.kp [0, 3, 4] hk
 refine wp_while (fun x : Nat × List Tok × Value => [(3, x.2.2), (4, .int .i64 (x.1 : Int))]) (fun x => [OwT 79 (x.2.1.map tkC) x.2.2]) (fun x => x.1 ≤ s.size ∧ toksL s 0 = x.2.1 ++ toksL s x.1 ∧ x.2.1.length ≤ x.1) (fun x => s.size - x.1) (0, [], v3) hk skx hS.sb ⟨Nat.zero_le _, rfl, Nat.le_refl _⟩ ?_
 clear hk hS a
 rintro ⟨i, dn, v4⟩ a w hk hS ⟨hi, htl, hdl⟩
 simp only at hk hS hi htl hdl
 rw [htl]
 have hml : (dn.map tkC).length = dn.length := List.length_map _
 (repeat' (first|((first|refine wx1 ?_|refine wx2 ?_ ?_<;>intro hp|refine s_end hk ?_)<;>(clear hk a;intro a hk))|((first|refine wx3 ?_;intro w b|refine wx4 ?_;intro w|refine wx5 ?_;intro w v);clear hk hS a;intro hS a hk)|refine wx0 ?_|fail))
 replace hk := Kn.kp [0, 3, 4] hk
 refine wp_while (fun x : Nat => [(4, .int .i64 (x : Int))]) (fun _ => [OwT 79 (dn.map tkC) v4]) (fun x => i ≤ x ∧ x ≤ s.size ∧ scan blkB s x = scan blkB s i) (fun x => s.size - x) i hk skx hS.sb ⟨Nat.le_refl _, hi, rfl⟩ ?_
 clear hk hS a
 rintro x a w hk hS ⟨hix, hx, hsc⟩
 by_cases hgo : ∃ h : x < s.size, s[x].toNat = 32
 ·obtain ⟨hxl, hb⟩ := hgo
  have hst := scan_yes (p := blkB) hxl (by unfold blkB;rw [decide_eq_true hb])
  (repeat' (first|((first|refine wx1 ?_|refine wx2 ?_ ?_<;>intro hp|refine s_end hk ?_)<;>(clear hk a;intro a hk))|((first|refine wx3 ?_;intro w b|refine wx4 ?_;intro w|refine wx5 ?_;intro w v);clear hk hS a;intro hS a hk)|refine wx0 ?_|fail))
  exact ⟨x + 1, by omega, hk.sd, hS.sb, by omega, by omega, by rw [← hst];exact hsc⟩
 ·have hq : scan blkB s i = x := by
   rw [← hsc]
   by_cases hxl : x < s.size
   ·exact scan_no hxl (by unfold blkB;rw [decide_eq_false (fun h => hgo ⟨hxl, h⟩)];decide)
   ·exact scan_end hxl
  have te := @tok_e s i
  have t1 := @tok_1 s i
  have t2 := @tok_2 s i
  have t3 := @tok_3 s i
  have t5 := @tok_5 s i
  have t4 := @tok_4 s i
  have t6 := @tok_6 s i
  have tm := @toks_more s i
  have tn := @toks_end s i
  simp only [hq] at te t1 t2 t3 t4 t5 t6
  by_cases hxl : x < s.size
  ·have n32 : s[x].toNat ≠ 32 := fun h => hgo ⟨hxl, h⟩
   by_cases c40 : s[x].toNat = 40
   ·have e := t1 hxl c40
    have em := tm (by rw [e];show (1 : Nat) ≠ 0;decide) (by rw [e];show (1 : Nat) ≠ 5;decide)
    rw [e] at em
    (repeat' (first|((first|refine wx1 ?_|refine wx2 ?_ ?_<;>intro hp|refine s_end hk ?_)<;>(clear hk a;intro a hk))|((first|refine wx3 ?_;intro w b|refine wx4 ?_;intro w|refine wx5 ?_;intro w v);clear hk hS a;intro hS a hk)|refine wx0 ?_|fail))
    refine sg hk (g_bsT (xs := [(((1 : Int), ((x : Int), (⟨#[]⟩ : ByteArray))) : TkC)]) (m := 0) hk hS ?_ (hT := eT rfl) (hE := zT rfl) (hz := oT rfl));clear hk hS a;intro w ve hS a hk
    (repeat' (first|((first|refine wx1 ?_|refine wx2 ?_ ?_<;>intro hp|refine s_end hk ?_)<;>(clear hk a;intro a hk))|((first|refine wx3 ?_;intro w b|refine wx4 ?_;intro w|refine wx5 ?_;intro w v);clear hk hS a;intro hS a hk)|refine wx0 ?_|fail))
    rename Value => v8
    refine ⟨(x + 1, dn ++ [⟨1, x, ⟨#[]⟩, x + 1⟩], v8), by show s.size - (x + 1) < s.size - i;omega, hk.sd, ?_, by show x + 1 ≤ s.size;omega, ?_, ?_⟩
    ·rw [List.map_append];exact hS.sb
    ·rw [em, List.append_assoc];rfl
    ·show (dn ++ [_]).length ≤ x + 1;rw [List.length_append, List.length_cons, List.length_nil];omega
   ·by_cases c41 : s[x].toNat = 41
    ·have e := t2 hxl c41
     have em := tm (by rw [e];show (2 : Nat) ≠ 0;decide) (by rw [e];show (2 : Nat) ≠ 5;decide)
     rw [e] at em
     (repeat' (first|((first|refine wx1 ?_|refine wx2 ?_ ?_<;>intro hp|refine s_end hk ?_)<;>(clear hk a;intro a hk))|((first|refine wx3 ?_;intro w b|refine wx4 ?_;intro w|refine wx5 ?_;intro w v);clear hk hS a;intro hS a hk)|refine wx0 ?_|fail))
     refine sg hk (g_bsT (xs := [(((2 : Int), ((x : Int), (⟨#[]⟩ : ByteArray))) : TkC)]) (m := 0) hk hS ?_ (hT := eT rfl) (hE := zT rfl) (hz := oT rfl));clear hk hS a;intro w ve hS a hk
     (repeat' (first|((first|refine wx1 ?_|refine wx2 ?_ ?_<;>intro hp|refine s_end hk ?_)<;>(clear hk a;intro a hk))|((first|refine wx3 ?_;intro w b|refine wx4 ?_;intro w|refine wx5 ?_;intro w v);clear hk hS a;intro hS a hk)|refine wx0 ?_|fail))
     rename Value => v8
     refine ⟨(x + 1, dn ++ [⟨2, x, ⟨#[]⟩, x + 1⟩], v8), by show s.size - (x + 1) < s.size - i;omega, hk.sd, ?_, by show x + 1 ≤ s.size;omega, ?_, ?_⟩
     ·rw [List.map_append];exact hS.sb
     ·rw [em, List.append_assoc];rfl
     ·show (dn ++ [_]).length ≤ x + 1;rw [List.length_append, List.length_cons, List.length_nil];omega
    ·by_cases c39 : s[x].toNat = 39
     ·have hge := scan_ge nqB s _ (x + 1) (Nat.le_refl _)
      have hle := scan_le nqB s _ (x + 1) (Nat.le_refl _) (by omega)
      (repeat' (first|((first|refine wx1 ?_|refine wx2 ?_ ?_<;>intro hp|refine s_end hk ?_)<;>(clear hk a;intro a hk))|((first|refine wx3 ?_;intro w b|refine wx4 ?_;intro w|refine wx5 ?_;intro w v);clear hk hS a;intro hS a hk)|refine wx0 ?_|fail))
      replace hk := Kn.kp [0, 3, 4, 5, 6] hk
      refine wp_while (fun y : Nat × Bool => [(4, .int .i64 (y.1 : Int)), (6, .bool y.2)]) (fun _ => [OwT 79 (dn.map tkC) v4]) (fun y => x + 1 ≤ y.1 ∧ y.1 ≤ s.size ∧ scan nqB s y.1 = scan nqB s (x + 1) ∧ y.2 = (s.extract (x + 1) y.1).data.toList.all priL) (fun y => s.size - y.1) (x + 1, true) hk skx hS.sb ⟨Nat.le_refl _, hxl, rfl, by simp [ByteArray.data_extract]⟩ ?_
      clear hk hS a
      rintro ⟨y, good⟩ a w hk hS ⟨hy1, hy2, hy3, hy4⟩
      simp only at hk hS hy1 hy2 hy3 hy4
      by_cases hgo2 : ∃ h : y < s.size, s[y].toNat ≠ 39
      ·obtain ⟨hyl, hyb⟩ := hgo2
       have hst := scan_yes (p := nqB) hyl (by unfold nqB;rw [decide_eq_false hyb];rfl)
       have hex := ext_step hy1 hyl priL
       rw [hst] at hy3
       cases good with
       | false =>
        (repeat' (first|((first|refine wx1 ?_|refine wx2 ?_ ?_<;>intro hp|refine s_end hk ?_)<;>(clear hk a;intro a hk))|((first|refine wx3 ?_;intro w b|refine wx4 ?_;intro w|refine wx5 ?_;intro w v);clear hk hS a;intro hS a hk)|refine wx0 ?_|fail))
        exact ⟨(y + 1, false), by show s.size - (y + 1) < s.size - y;omega, hk.sd, hS.sb, by show x + 1 ≤ y + 1;omega, hyl, hy3, by show false = _;rw [hex, ← hy4];rfl⟩
       | true =>
        (repeat' (first|((first|refine wx1 ?_|refine wx2 ?_ ?_<;>intro hp|refine s_end hk ?_)<;>(clear hk a;intro a hk))|((first|refine wx3 ?_;intro w b|refine wx4 ?_;intro w|refine wx5 ?_;intro w v);clear hk hS a;intro hS a hk)|refine wx0 ?_|fail))
        all_goals first
         | exact ⟨(y + 1, true), by show s.size - (y + 1) < s.size - y;omega, hk.sd, hS.sb, by show x + 1 ≤ y + 1;omega, hyl, hy3, by show true = _;rw [hex, ← hy4];unfold priL;rw [decide_eq_true (by omega)];rfl⟩
         | exact ⟨(y + 1, false), by show s.size - (y + 1) < s.size - y;omega, hk.sd, hS.sb, by show x + 1 ≤ y + 1;omega, hyl, hy3, by show false = _;rw [hex, ← hy4];unfold priL;rw [decide_eq_false (by omega)];rfl⟩
      ·have hye : y = scan nqB s (x + 1) := by
        rw [← hy3]
        by_cases hyl : y < s.size
        ·exact (scan_no hyl (by unfold nqB;rw [decide_eq_true (by by_cases h : s[y].toNat = 39;exact h;exact absurd ⟨hyl, h⟩ hgo2)];decide)).symm
        ·exact (scan_end hyl).symm
       have hgood : ∀ h : y < s.size, s[y].toNat = 39 := fun h => by by_cases h9 : s[y].toNat = 39;exact h9;exact absurd ⟨h, h9⟩ hgo2
       rw [← hye] at t3 t5 hge hle
       clear hgo2 hgo
       by_cases hfin : y < s.size ∧ good = true
       ·obtain ⟨hyl, rfl⟩ := hfin
        have hy39 := hgood hyl
        have e := t3 hxl c39 ⟨hyl, hy4.symm⟩
        have em := tm (by rw [e];show (3 : Nat) ≠ 0;decide) (by rw [e];show (3 : Nat) ≠ 5;decide)
        rw [e] at em
        clear hgood t1 t2 t3 t4 t5 t6 te
        (repeat' (first|((first|refine wx1 ?_|refine wx2 ?_ ?_<;>intro hp|refine s_end hk ?_)<;>(clear hk a;intro a hk))|((first|refine wx3 ?_;intro w b|refine wx4 ?_;intro w|refine wx5 ?_;intro w v);clear hk hS a;intro hS a hk)|refine wx0 ?_|fail))
        rw [show ((x : Int) + 1).toNat = x + 1 by omega, show ((y : Int)).toNat = y by omega] at hk
        (repeat' (first|((first|refine wx1 ?_|refine wx2 ?_ ?_<;>intro hp|refine s_end hk ?_)<;>(clear hk a;intro a hk))|((first|refine wx3 ?_;intro w b|refine wx4 ?_;intro w|refine wx5 ?_;intro w v);clear hk hS a;intro hS a hk)|refine wx0 ?_|fail))
        refine sg hk (g_bsT (xs := [(((3 : Int), ((x : Int), (s.extract (x + 1) y : ByteArray))) : TkC)]) (m := 0) hk hS ?_ (hT := eT rfl) (hE := zT rfl) (hz := oT rfl));clear hk hS a;intro w ve hS a hk
        (repeat' (first|((first|refine wx1 ?_|refine wx2 ?_ ?_<;>intro hp|refine s_end hk ?_)<;>(clear hk a;intro a hk))|((first|refine wx3 ?_;intro w b|refine wx4 ?_;intro w|refine wx5 ?_;intro w v);clear hk hS a;intro hS a hk)|refine wx0 ?_|fail))
        rename Value => v8
        refine ⟨(y + 1, dn ++ [⟨3, x, s.extract (x + 1) y, y + 1⟩], v8), by show s.size - (y + 1) < s.size - i;omega, hk.sd, ?_, by show y + 1 ≤ s.size;omega, ?_, ?_⟩
        ·rw [List.map_append];exact hS.sb
        ·rw [em, List.append_assoc];rfl
        ·show (dn ++ [_]).length ≤ y + 1;rw [List.length_append, List.length_cons, List.length_nil];omega
       ·have e := t5 hxl c39 (fun h => hfin ⟨h.1, by rw [hy4];exact h.2⟩)
        cases good with
        | false =>
         by_cases hyl : y < s.size
         ·have hy39 := hgood hyl
          clear hgood t1 t2 t3 t4 t5 t6 te hfin
          (repeat' (first|((first|refine wx1 ?_|refine wx2 ?_ ?_<;>intro hp|refine s_end hk ?_)<;>(clear hk a;intro a hk))|((first|refine wx3 ?_;intro w b|refine wx4 ?_;intro w|refine wx5 ?_;intro w v);clear hk hS a;intro hS a hk)|refine wx0 ?_|fail))
          refine sg hk (g_bsT (xs := [(((5 : Int), ((x : Int), (⟨#[]⟩ : ByteArray))) : TkC)]) (m := 0) hk hS ?_ (hT := eT rfl) (hE := zT rfl) (hz := oT rfl));clear hk hS a;intro w ve hS a hk
          (repeat' (first|((first|refine wx1 ?_|refine wx2 ?_ ?_<;>intro hp|refine s_end hk ?_)<;>(clear hk a;intro a hk))|((first|refine wx3 ?_;intro w b|refine wx4 ?_;intro w|refine wx5 ?_;intro w v);clear hk hS a;intro hS a hk)|refine wx0 ?_|fail))
          refine done1 hk (h := ?_)
          rw [tn (by rw [e];exact .inr rfl), e, List.map_append]
          exact hS.sub (by (repeat (first | exact Sub.nil | exact Sub.refl | refine Sub.cons atx ?_)))
         ·clear hgood t1 t2 t3 t4 t5 t6 te hfin
          (repeat' (first|((first|refine wx1 ?_|refine wx2 ?_ ?_<;>intro hp|refine s_end hk ?_)<;>(clear hk a;intro a hk))|((first|refine wx3 ?_;intro w b|refine wx4 ?_;intro w|refine wx5 ?_;intro w v);clear hk hS a;intro hS a hk)|refine wx0 ?_|fail))
          refine sg hk (g_bsT (xs := [(((5 : Int), ((x : Int), (⟨#[]⟩ : ByteArray))) : TkC)]) (m := 0) hk hS ?_ (hT := eT rfl) (hE := zT rfl) (hz := oT rfl));clear hk hS a;intro w ve hS a hk
          (repeat' (first|((first|refine wx1 ?_|refine wx2 ?_ ?_<;>intro hp|refine s_end hk ?_)<;>(clear hk a;intro a hk))|((first|refine wx3 ?_;intro w b|refine wx4 ?_;intro w|refine wx5 ?_;intro w v);clear hk hS a;intro hS a hk)|refine wx0 ?_|fail))
          refine done1 hk (h := ?_)
          rw [tn (by rw [e];exact .inr rfl), e, List.map_append]
          exact hS.sub (by (repeat (first | exact Sub.nil | exact Sub.refl | refine Sub.cons atx ?_)))
        | true =>
         have hyl : ¬ y < s.size := fun h => hfin ⟨h, rfl⟩
         clear hgood t1 t2 t3 t4 t5 t6 te hfin
         (repeat' (first|((first|refine wx1 ?_|refine wx2 ?_ ?_<;>intro hp|refine s_end hk ?_)<;>(clear hk a;intro a hk))|((first|refine wx3 ?_;intro w b|refine wx4 ?_;intro w|refine wx5 ?_;intro w v);clear hk hS a;intro hS a hk)|refine wx0 ?_|fail))
         refine sg hk (g_bsT (xs := [(((5 : Int), ((x : Int), (⟨#[]⟩ : ByteArray))) : TkC)]) (m := 0) hk hS ?_ (hT := eT rfl) (hE := zT rfl) (hz := oT rfl));clear hk hS a;intro w ve hS a hk
         (repeat' (first|((first|refine wx1 ?_|refine wx2 ?_ ?_<;>intro hp|refine s_end hk ?_)<;>(clear hk a;intro a hk))|((first|refine wx3 ?_;intro w b|refine wx4 ?_;intro w|refine wx5 ?_;intro w v);clear hk hS a;intro hS a hk)|refine wx0 ?_|fail))
         refine done1 hk (h := ?_)
         rw [tn (by rw [e];exact .inr rfl), e, List.map_append]
         exact hS.sub (by (repeat (first | exact Sub.nil | exact Sub.refl | refine Sub.cons atx ?_)))
     ·have hwd := fun w0 => rworded8_any s[x] w0
      by_cases hv : visB s[x] = true
      ·have e := t4 hxl hv
       have hge := scan_ge visB s _ x (Nat.le_refl _)
       have hle := scan_le visB s _ x (Nat.le_refl _) (by omega)
       have hgt : x < scan visB s x := by
        have h1 := scan_yes (p := visB) hxl hv
        have h2 := scan_ge visB s _ (x + 1) (Nat.le_refl _)
        omega
       rw [hv] at hwd
       (repeat' (first|((first|refine wx1 ?_|refine wx2 ?_ ?_<;>intro hp|refine s_end hk ?_)<;>(clear hk a;intro a hk))|((first|refine wx3 ?_;intro w b|refine wx4 ?_;intro w|refine wx5 ?_;intro w v);clear hk hS a;intro hS a hk)|refine wx0 ?_|fail))
       refine sg hk (g_callO hk (hf := by kernel_rfl) (hc := hwd _) (h := ?_));clear hk a;rintro _ w ⟨rfl, hS1⟩ a hk;replace hS := hS.call0 hS1;clear hS1
       (repeat' (first|((first|refine wx1 ?_|refine wx2 ?_ ?_<;>intro hp|refine s_end hk ?_)<;>(clear hk a;intro a hk))|((first|refine wx3 ?_;intro w b|refine wx4 ?_;intro w|refine wx5 ?_;intro w v);clear hk hS a;intro hS a hk)|refine wx0 ?_|fail))
       replace hk := Kn.kp [0, 3, 4, 5] hk
       refine wp_while (fun y : Nat => [(4, .int .i64 (y : Int))]) (fun _ => [OwT 79 (dn.map tkC) v4]) (fun y => x ≤ y ∧ y ≤ s.size ∧ scan visB s y = scan visB s x) (fun y => s.size - y) x hk skx hS.sb ⟨Nat.le_refl _, by omega, rfl⟩ ?_
       clear hk hS a hwd
       rintro y a w hk hS ⟨hy1, hy2, hy3⟩
       by_cases hyl : y < s.size
       ·have hwd := fun w0 => rworded8_any s[y] w0
        cases hvy : visB s[y] with
        | true =>
         rw [hvy] at hwd
         have hst := scan_yes (p := visB) hyl hvy
         (repeat' (first|((first|refine wx1 ?_|refine wx2 ?_ ?_<;>intro hp|refine s_end hk ?_)<;>(clear hk a;intro a hk))|((first|refine wx3 ?_;intro w b|refine wx4 ?_;intro w|refine wx5 ?_;intro w v);clear hk hS a;intro hS a hk)|refine wx0 ?_|fail))
         refine sg hk (g_callO hk (hf := by kernel_rfl) (hc := hwd _) (h := ?_));clear hk a;rintro _ w ⟨rfl, hS1⟩ a hk;replace hS := hS.call0 hS1;clear hS1
         (repeat' (first|((first|refine wx1 ?_|refine wx2 ?_ ?_<;>intro hp|refine s_end hk ?_)<;>(clear hk a;intro a hk))|((first|refine wx3 ?_;intro w b|refine wx4 ?_;intro w|refine wx5 ?_;intro w v);clear hk hS a;intro hS a hk)|refine wx0 ?_|fail))
         exact ⟨y + 1, by omega, hk.sd, hS.sb, by omega, hyl, by rw [← hst];exact hy3⟩
        | false =>
         rw [hvy] at hwd
         have hye : scan visB s x = y := by rw [← hy3];exact scan_no hyl (by rw [hvy];decide)
         rw [hye] at e hgt
         have em := tm (by rw [e];show (4 : Nat) ≠ 0;decide) (by rw [e];show (4 : Nat) ≠ 5;decide)
         rw [e] at em
         clear hgo t1 t2 t3 t4 t5 t6 te
         (repeat' (first|((first|refine wx1 ?_|refine wx2 ?_ ?_<;>intro hp|refine s_end hk ?_)<;>(clear hk a;intro a hk))|((first|refine wx3 ?_;intro w b|refine wx4 ?_;intro w|refine wx5 ?_;intro w v);clear hk hS a;intro hS a hk)|refine wx0 ?_|fail))
         refine sg hk (g_callO hk (hf := by kernel_rfl) (hc := hwd _) (h := ?_));clear hk a;rintro _ w ⟨rfl, hS1⟩ a hk;replace hS := hS.call0 hS1;clear hS1
         (repeat' (first|((first|refine wx1 ?_|refine wx2 ?_ ?_<;>intro hp|refine s_end hk ?_)<;>(clear hk a;intro a hk))|((first|refine wx3 ?_;intro w b|refine wx4 ?_;intro w|refine wx5 ?_;intro w v);clear hk hS a;intro hS a hk)|refine wx0 ?_|fail))
         rw [show ((x : Int)).toNat = x by omega, show ((y : Int)).toNat = y by omega] at hk
         refine sg hk (g_bsT (xs := [(((4 : Int), ((x : Int), (s.extract x y : ByteArray))) : TkC)]) (m := 0) hk hS ?_ (hT := eT rfl) (hE := zT rfl) (hz := oT rfl));clear hk hS a;intro w ve hS a hk
         (repeat' (first|((first|refine wx1 ?_|refine wx2 ?_ ?_<;>intro hp|refine s_end hk ?_)<;>(clear hk a;intro a hk))|((first|refine wx3 ?_;intro w b|refine wx4 ?_;intro w|refine wx5 ?_;intro w v);clear hk hS a;intro hS a hk)|refine wx0 ?_|fail))
         rename Value => v8
         refine ⟨(y, dn ++ [⟨4, x, s.extract x y, y⟩], v8), by show s.size - (y) < s.size - i;omega, hk.sd, ?_, by show y ≤ s.size;omega, ?_, ?_⟩
         ·rw [List.map_append];exact hS.sb
         ·rw [em, List.append_assoc];rfl
         ·show (dn ++ [_]).length ≤ y;rw [List.length_append, List.length_cons, List.length_nil];omega
       ·have hye : scan visB s x = y := by rw [← hy3];exact scan_end hyl
        rw [hye] at e hgt
        have em := tm (by rw [e];show (4 : Nat) ≠ 0;decide) (by rw [e];show (4 : Nat) ≠ 5;decide)
        rw [e] at em
        clear hgo t1 t2 t3 t4 t5 t6 te
        (repeat' (first|((first|refine wx1 ?_|refine wx2 ?_ ?_<;>intro hp|refine s_end hk ?_)<;>(clear hk a;intro a hk))|((first|refine wx3 ?_;intro w b|refine wx4 ?_;intro w|refine wx5 ?_;intro w v);clear hk hS a;intro hS a hk)|refine wx0 ?_|fail))
        rw [show ((x : Int)).toNat = x by omega, show ((y : Int)).toNat = y by omega] at hk
        refine sg hk (g_bsT (xs := [(((4 : Int), ((x : Int), (s.extract x y : ByteArray))) : TkC)]) (m := 0) hk hS ?_ (hT := eT rfl) (hE := zT rfl) (hz := oT rfl));clear hk hS a;intro w ve hS a hk
        (repeat' (first|((first|refine wx1 ?_|refine wx2 ?_ ?_<;>intro hp|refine s_end hk ?_)<;>(clear hk a;intro a hk))|((first|refine wx3 ?_;intro w b|refine wx4 ?_;intro w|refine wx5 ?_;intro w v);clear hk hS a;intro hS a hk)|refine wx0 ?_|fail))
        rename Value => v8
        refine ⟨(y, dn ++ [⟨4, x, s.extract x y, y⟩], v8), by show s.size - (y) < s.size - i;omega, hk.sd, ?_, by show y ≤ s.size;omega, ?_, ?_⟩
        ·rw [List.map_append];exact hS.sb
        ·rw [em, List.append_assoc];rfl
        ·show (dn ++ [_]).length ≤ y;rw [List.length_append, List.length_cons, List.length_nil];omega
      ·have e := t6 hxl c40 c41 c39 hv
       have hvf : visB s[x] = false := by simpa using hv
       rw [hvf] at hwd
       (repeat' (first|((first|refine wx1 ?_|refine wx2 ?_ ?_<;>intro hp|refine s_end hk ?_)<;>(clear hk a;intro a hk))|((first|refine wx3 ?_;intro w b|refine wx4 ?_;intro w|refine wx5 ?_;intro w v);clear hk hS a;intro hS a hk)|refine wx0 ?_|fail))
       refine sg hk (g_callO hk (hf := by kernel_rfl) (hc := hwd _) (h := ?_));clear hk a;rintro _ w ⟨rfl, hS1⟩ a hk;replace hS := hS.call0 hS1;clear hS1
       (repeat' (first|((first|refine wx1 ?_|refine wx2 ?_ ?_<;>intro hp|refine s_end hk ?_)<;>(clear hk a;intro a hk))|((first|refine wx3 ?_;intro w b|refine wx4 ?_;intro w|refine wx5 ?_;intro w v);clear hk hS a;intro hS a hk)|refine wx0 ?_|fail))
       refine sg hk (g_bsT (xs := [(((5 : Int), ((x : Int), (⟨#[]⟩ : ByteArray))) : TkC)]) (m := 0) hk hS ?_ (hT := eT rfl) (hE := zT rfl) (hz := oT rfl));clear hk hS a;intro w ve hS a hk
       (repeat' (first|((first|refine wx1 ?_|refine wx2 ?_ ?_<;>intro hp|refine s_end hk ?_)<;>(clear hk a;intro a hk))|((first|refine wx3 ?_;intro w b|refine wx4 ?_;intro w|refine wx5 ?_;intro w v);clear hk hS a;intro hS a hk)|refine wx0 ?_|fail))
       refine done1 hk (h := ?_)
       rw [tn (by rw [e];exact .inr rfl), e, List.map_append]
       exact hS.sub (by (repeat (first | exact Sub.nil | exact Sub.refl | refine Sub.cons atx ?_)))
  ·have e := te hxl
   have hxe : x = s.size := by omega
   (repeat' (first|((first|refine wx1 ?_|refine wx2 ?_ ?_<;>intro hp|refine s_end hk ?_)<;>(clear hk a;intro a hk))|((first|refine wx3 ?_;intro w b|refine wx4 ?_;intro w|refine wx5 ?_;intro w v);clear hk hS a;intro hS a hk)|refine wx0 ?_|fail))
   refine sg hk (g_bsT (xs := [(((0 : Int), ((s.size : Int), (⟨#[]⟩ : ByteArray))) : TkC)]) (m := 0) hk hS ?_ (hT := eT rfl) (hE := zT rfl) (hz := oT rfl));clear hk hS a;intro w ve hS a hk
   (repeat' (first|((first|refine wx1 ?_|refine wx2 ?_ ?_<;>intro hp|refine s_end hk ?_)<;>(clear hk a;intro a hk))|((first|refine wx3 ?_;intro w b|refine wx4 ?_;intro w|refine wx5 ?_;intro w v);clear hk hS a;intro hS a hk)|refine wx0 ?_|fail))
   refine done1 hk (h := ?_)
   rw [tn (by rw [e];exact .inl rfl), e, List.map_append]
   exact hS.sub (by (repeat (first | exact Sub.nil | exact Sub.refl | refine Sub.cons atx ?_)))
end Go.Proofs.YtnjmonkehjlaoaaGreatDoor
