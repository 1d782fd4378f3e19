/- Layer 8: the document's item. -/
import Derived.Test.YtnjmonkehjlaoaaGreatDoorG17
import Derived.Test.YtnjmonkehjlaoaaGreatDoorG18
import Derived.Test.YtnjmonkehjlaoaaGreatDoorG13
import Derived.Test.YtnjmonkehjlaoaaGreatDoorG12
set_option linter.all false
namespace Go.Proofs.YtnjmonkehjlaoaaGreatDoor
open Go.RowKit
set_option maxRecDepth 100000
attribute [local irreducible] Go.Code.wpIn Go.wpListIn Go.Calls Gives Go.Exit.then Go.Exit.inBlock Done ObxE
section
variable {n : Itm} {w : ByteArray}
theorem add35 (h : 0 < w.size) (hc : w[0].toNat = 35) : addF n w = if keyS (w.extract 1 w.size) = true then some { n with key := w.extract 1 w.size } else none := by
 obtain ⟨r, hr⟩ := itm_hd h
 unfold addF;rw [hr];simp only [hc];rfl
theorem add46 (h : 0 < w.size) (hc : w[0].toNat = 46) : addF n w = if nameS (w.extract 1 w.size) = true then some { n with cl := n.cl ++ [w.extract 1 w.size] } else none := by
 obtain ⟨r, hr⟩ := itm_hd h
 unfold addF;rw [hr];simp only [hc];rfl
theorem add64 (h : 0 < w.size) (hc : w[0].toNat = 64) : addF n w = if (cutR 61 (w.extract 1 w.size)).2.2 = true ∧ nameS (cutR 61 (w.extract 1 w.size)).1 = true ∧ valS (cutR 61 (w.extract 1 w.size)).2.1 = true then
  some { n with al := n.al ++ [((cutR 61 (w.extract 1 w.size)).1, (cutR 61 (w.extract 1 w.size)).2.1)] } else none := by
 obtain ⟨r, hr⟩ := itm_hd h
 unfold addF;rw [hr];simp only [hc, cutR_eq]
 cases hb : (cutR 61 (w.extract 1 w.size)).2.2 with
 | false => simp
 | true => simp
theorem addS (h : 0 < w.size) (h1 : w[0].toNat ≠ 35) (h2 : w[0].toNat ≠ 46) (h3 : w[0].toNat ≠ 64) (h4 : w[0].toNat ≠ 33) :
  addF n w = if (cutR 61 w).2.2 = true ∧ nameS (cutR 61 w).1 = true ∧ (numP (cutR 61 w).2.1.data.toList).2 = true then some { n with sl := n.sl ++ [((cutR 61 w).1, (numP (cutR 61 w).2.1.data.toList).1)] } else none := by
 obtain ⟨r, hr⟩ := itm_hd h
 unfold addF;rw [hr];simp only [if_neg h1, if_neg h2, if_neg h3, if_neg h4, cutR_eq]
 cases hb : (cutR 61 w).2.2 with
 | false => simp
 | true => simp
theorem add33 (h : 0 < w.size) (hc : w[0].toNat = 33) (n1 : ¬ w = wGroup) (n2 : ¬ w = wSlot) (n3 : ¬ w = wOutIn) (n4 : ¬ w = wInOut) (n5 : ¬ w = wAppear) (n6 : ¬ w = wMoves) :
    addF n w = if (cutR 61 w).2.2 = true ∧ (numP (cutR 61 w).2.1.data.toList).2 = true then
      (if (cutR 61 w).1 = wEnter then some { n with o := ((numP (cutR 61 w).2.1.data.toList).1, n.o.2.1, n.o.2.2.1, n.o.2.2.2.1, n.o.2.2.2.2.1, n.o.2.2.2.2.2) }
       else if (cutR 61 w).1 = wLeave then some { n with o := (n.o.1, (numP (cutR 61 w).2.1.data.toList).1, n.o.2.2.1, n.o.2.2.2.1, n.o.2.2.2.2.1, n.o.2.2.2.2.2) }
       else if (cutR 61 w).1 = wMove then some { n with o := (n.o.1, n.o.2.1, (numP (cutR 61 w).2.1.data.toList).1, n.o.2.2.2.1, n.o.2.2.2.2.1, n.o.2.2.2.2.2) }
       else none) else none := by
  obtain ⟨r, hr⟩ := itm_hd h
  unfold addF; rw [hr]; simp only [if_neg n1, if_neg n2, if_neg n3, if_neg n4, if_neg n5, if_neg n6, cutR_eq, hc]
  cases hb : (cutR 61 w).2.2 with
  | false => simp
  | true => simp
theorem cut_none (h : (cutR 61 w).2.2 = false) : (cutR 61 w).2.1 = ⟨#[]⟩ := by
 unfold cutR at h ⊢
 by_cases hs : scan (notB 61) w 0 < w.size
 ·rw [if_pos hs] at h;cases h
 ·rw [if_neg hs]
theorem hd_of {c : UInt8} (h : 0 < w.size) (hc : w[0].toNat = c.toNat) : ∃ r, w.data.toList = c :: r := by
 obtain ⟨r, hr⟩ := itm_hd h
 exact ⟨r, by rw [hr, UInt8.toNat_inj.1 hc]⟩
theorem what35 (h : 0 < w.size) (hc : w[0].toNat = 35) : whatF w = some ⟨#[35]⟩ := by
 obtain ⟨r, hr⟩ := hd_of (c := 35) h hc
 unfold whatF;rw [hr];rfl
theorem what46 (h : 0 < w.size) (hc : w[0].toNat = 46) : whatF w = none := by
 obtain ⟨r, hr⟩ := hd_of (c := 46) h hc
 unfold whatF;rw [hr];rfl
theorem what64 (h : 0 < w.size) (hc : w[0].toNat = 64) : whatF w = some (cutR 61 w).1 := by
 obtain ⟨r, hr⟩ := hd_of (c := 64) h hc
 rw [← cutR_nm]
 unfold whatF;rw [hr];rfl
theorem what33 (h : 0 < w.size) (hc : w[0].toNat = 33) (n1 : ¬ w = wGroup) (n2 : ¬ w = wSlot) (n3 : ¬ w = wOutIn) (n4 : ¬ w = wInOut) : whatF w = some (cutR 61 w).1 := by
 obtain ⟨r, hr⟩ := hd_of (c := 33) h hc
 rw [← cutR_nm]
 unfold whatF;rw [hr]
 show (if w = wGroup ∨ w = wSlot then _ else if w = wOutIn ∨ w = wInOut then _ else _) = _
 rw [if_neg (by rintro (h | h);exact n1 h;exact n2 h), if_neg (by rintro (h | h);exact n3 h;exact n4 h)]
theorem whatS (h : 0 < w.size) (h1 : w[0].toNat ≠ 35) (h2 : w[0].toNat ≠ 46) (h3 : w[0].toNat ≠ 64) (h4 : w[0].toNat ≠ 33) : whatF w = some (⟨#[61]⟩ ++ (cutR 61 w).1) := by
 obtain ⟨r, hr⟩ := itm_hd h
 rw [← cutR_nm]
 unfold whatF;rw [hr]
 split
 ·rename_i e;injection e with e _;exact absurd (by rw [e];rfl) h2
 ·rename_i e;injection e with e _;exact absurd (by rw [e];rfl) h1
 ·rename_i e;injection e with e _;exact absurd (by rw [e];rfl) h3
 ·rename_i e;injection e with e _;exact absurd (by rw [e];rfl) h4
 ·rfl
end
theorem cut_pre (x : ByteArray) : x.extract 0 (cutR 61 x).1.size = (cutR 61 x).1 := by
 unfold cutR
 by_cases h : scan (notB 61) x 0 < x.size
 ·rw [if_pos h]
  show x.extract 0 (x.extract 0 (scan (notB 61) x 0)).size = _
  rw [ByteArray.size_extract, Nat.sub_zero, Nat.min_eq_left (by omega)]
 ·rw [if_neg h]
  show x.extract 0 x.size = x
  exact ByteArray.extract_zero_size
theorem ext_one (c : UInt8) (a : ByteArray) : ((⟨#[c]⟩ : ByteArray) ++ a).extract 1 ((⟨#[c]⟩ : ByteArray) ++ a).size = a := by
 refine ByteArray.ext (Array.ext' ?_)
 rw [ext_list]
 have hz : ((⟨#[c]⟩ : ByteArray) ++ a).size = a.data.toList.length + 1 := by rw [ByteArray.size_append];show 1 + a.size = _;simp;omega
 rw [hz]
 simp [ByteArray.data_append]
 exact List.take_of_length_le (by simp)
theorem St.tru {B : Bs} {w : World} {A : HP} (h : St B [A] w) : St B [A, pureH True] w := by
 obtain ⟨F, hF, F1, F2, h1, h2, h3, h4, h5⟩ := h.own
 exact ⟨h.below, h.frz, F, hF, F1, fun _ => False, h1, fun _ h => h.elim, fun _ _ h => h, h4, fun _ => False, fun _ => False, fun _ h => h, fun _ h => h, fun _ h _ => h, ⟨fun _ h => h, trivial⟩, trivial⟩
theorem appH_ne {α : Type} [Enc α] {E : TypeId} {xs : List α} {y : α} {v : Value} : appH E (xs ++ [y]) v = OwT E (xs ++ [y]) v := by
 cases xs <;> rfl
section
variable {B : Bs} {L : List HP} {w : World}
def ItR (B : Bs) (L : List HP) (hh : Hd) (r : Option (Itm × List ByteArray)) (v : Value) (w : World) : Prop := match r with
 | some (m, more) => ∃ (hc ha hs : Hd) (vs : Value), v = .tuple #[.agg (ndC m.k m.tag m.key hc ha hs m.o hh).toArray, vs, .bool true] ∧
   St B (OwT 9 m.cl hc.v :: OwT 109 m.al ha.v :: OwT 135 m.sl hs.v :: OwT 9 more vs :: L) w
 | none => ∃ (m : Itm) (hc ha hs : Hd) (vs : Value), v = .tuple #[.agg (ndC m.k m.tag m.key hc ha hs m.o hh).toArray, vs, .bool false] ∧ St B L w
set_option maxHeartbeats 8000000 in
theorem item8_any (k : Int) (tag key : ByteArray) (cl : List ByteArray) (al : List PrS) (sl : List PrI) (hc ha hs hh : Hd) (o : Opt) (x : ByteArray) (seen : List ByteArray) (vs : Value) (h0 : 0 < x.size) (hx : x.size ≤ 1000)
  (hcl : cl.length ≤ 1000) (hal : al.length ≤ 1000) (hsl : sl.length ≤ 1000) (hsn : seen.length ≤ 1000) (ht : TabW B.w)
  (hS : St B (OwT 9 cl hc.v :: OwT 109 al ha.v :: OwT 135 sl hs.v :: OwT 9 seen vs :: L) w) :
  Calls Tryz.prog 46 #[.agg (ndC k tag key hc ha hs o hh).toArray, .string x, vs] w (Ret (ItR B L hh (itemF ⟨k, tag, key, cl, al, sl, o⟩ x seen))) := by
 obtain ⟨e, lv, mo, d, p, q⟩ := o
 obtain ⟨hl1, hl2⟩ := cut_le 61 x
 have h1 : ((1 : Int)).toNat = 1 := rfl
 obtain ⟨nm, hnm⟩ : ∃ y, (cutR 61 x).1 = y := ⟨_, rfl⟩
 obtain ⟨va, hva⟩ : ∃ y, (cutR 61 x).2.1 = y := ⟨_, rfl⟩
 obtain ⟨is, his⟩ : ∃ y, (cutR 61 x).2.2 = y := ⟨_, rfl⟩
 obtain ⟨z, hz⟩ : ∃ y, (numP va.data.toList).1 = y := ⟨_, rfl⟩
 obtain ⟨zo, hzo⟩ : ∃ y, (numP va.data.toList).2 = y := ⟨_, rfl⟩
 obtain ⟨r, hr⟩ : ∃ y, x.extract 1 x.size = y := ⟨_, rfl⟩
 have hrz : r.size ≤ 1000 := by rw [← hr, ByteArray.size_extract];omega
 rw [hnm] at hl1
 rw [hva] at hl2
 refine enter Tryz.func46 rfl Tryz.ntmps46 rfl (fun a hk => ?_)
 refine wp_mid (fun a w => ∃ b3 b6, Kn [] 193 a [(1, .string x), (2, vs), (3, .pointer (some ⟨b3, 0, none⟩)), (6, .pointer (some ⟨b6, 0, none⟩))] ∧ St B (pts b6 nd0 42 :: pts b3 (ndC k tag key hc ha hs (e, lv, mo, d, p, q) hh) 42 :: OwT 9 cl hc.v :: OwT 109 al ha.v :: OwT 135 sl hs.v :: OwT 9 seen vs :: L) w) ?_ ?_
 ·refine wpIn_region_lit ?_
  refine st_box hk hS ?_;clear hk hS a;intro w b1 hS a hk
  (repeat' (first|((first|refine wx1 ?_|refine wx2 ?_ ?_<;>intro hp|refine s_end hk ?_)<;>(clear hk a;intro a hk))|((first|refine wx3 ?_;intro w b|refine wx4 ?_;intro w|refine wx5 ?_;intro w v);clear hk hS a;intro hS a hk)|refine wx0 ?_|fail))
  exact ⟨b1, b, hk.sub skx, hS.sub (by (repeat (first | exact Sub.nil | exact Sub.refl | refine Sub.cons atx ?_)))⟩
 clear hk hS a
 try clear w
 rintro a w ⟨b3, b6, hk, hS⟩
 refine wp_mid (fun a w => Kn [] 193 a [(1, .string x), (2, vs), (3, .pointer (some ⟨b3, 0, none⟩)), (6, .pointer (some ⟨b6, 0, none⟩)), (9, .string ⟨#[]⟩)] ∧ St B (pts b6 nd0 42 :: pts b3 (ndC k tag key hc ha hs (e, lv, mo, d, p, q) hh) 42 :: OwT 9 cl hc.v :: OwT 109 al ha.v :: OwT 135 sl hs.v :: OwT 9 seen vs :: L) w) ?_ ?_
 ·(repeat' (first|((first|refine wx1 ?_|refine wx2 ?_ ?_<;>intro hp|refine s_end hk ?_)<;>(clear hk a;intro a hk))|((first|refine wx3 ?_;intro w b|refine wx4 ?_;intro w|refine wx5 ?_;intro w v);clear hk hS a;intro hS a hk)|refine wx0 ?_|fail))
  exact ⟨hk.sub skx, hS.sub (by (repeat (first | exact Sub.nil | exact Sub.refl | refine Sub.cons atx ?_)))⟩
 clear hk hS a
 try clear w
 rintro a w ⟨hk, hS⟩
 refine wp_mid (fun a w => Kn [] 193 a [(1, .string x), (2, vs), (3, .pointer (some ⟨b3, 0, none⟩)), (6, .pointer (some ⟨b6, 0, none⟩)), (9, .string ⟨#[]⟩), (10, .bool false)] ∧ St B (pts b6 nd0 42 :: pts b3 (ndC k tag key hc ha hs (e, lv, mo, d, p, q) hh) 42 :: OwT 9 cl hc.v :: OwT 109 al ha.v :: OwT 135 sl hs.v :: OwT 9 seen vs :: L) w) ?_ ?_
 ·(repeat' (first|((first|refine wx1 ?_|refine wx2 ?_ ?_<;>intro hp|refine s_end hk ?_)<;>(clear hk a;intro a hk))|((first|refine wx3 ?_;intro w b|refine wx4 ?_;intro w|refine wx5 ?_;intro w v);clear hk hS a;intro hS a hk)|refine wx0 ?_|fail))
  exact ⟨hk.sub skx, hS.sub (by (repeat (first | exact Sub.nil | exact Sub.refl | refine Sub.cons atx ?_)))⟩
 clear hk hS a
 try clear w
 rintro a w ⟨hk, hS⟩
 refine wp_mid (fun a w => Kn [] 193 a [(1, .string x), (2, vs), (3, .pointer (some ⟨b3, 0, none⟩)), (6, .pointer (some ⟨b6, 0, none⟩)), (9, .string ⟨#[]⟩), (10, .bool false), (11, .string nm), (12, .string va), (13, .bool is)] ∧ St B (pts b6 nd0 42 :: pts b3 (ndC k tag key hc ha hs (e, lv, mo, d, p, q) hh) 42 :: OwT 9 cl hc.v :: OwT 109 al ha.v :: OwT 135 sl hs.v :: OwT 9 seen vs :: L) w) ?_ ?_
 ·(repeat' (first|((first|refine wx1 ?_|refine wx2 ?_ ?_<;>intro hp|refine s_end hk ?_)<;>(clear hk a;intro a hk))|((first|refine wx3 ?_;intro w b|refine wx4 ?_;intro w|refine wx5 ?_;intro w v);clear hk hS a;intro hS a hk)|refine wx0 ?_|fail))
  refine sg hk (g_callO hk (hf := by kernel_rfl) (hc := cut8_any x (by omega) _) (h := ?_));clear hk a;rintro _ w ⟨rfl, hS1⟩ a hk;replace hS := hS.call0 hS1;clear hS1
  rw [hnm, hva, his] at hk
  (repeat' (first|((first|refine wx1 ?_|refine wx2 ?_ ?_<;>intro hp|refine s_end hk ?_)<;>(clear hk a;intro a hk))|((first|refine wx3 ?_;intro w b|refine wx4 ?_;intro w|refine wx5 ?_;intro w v);clear hk hS a;intro hS a hk)|refine wx0 ?_|fail))
  exact ⟨hk.sub skx, hS.sub (by (repeat (first | exact Sub.nil | exact Sub.refl | refine Sub.cons atx ?_)))⟩
 clear hk hS a
 try clear w
 rintro a w ⟨hk, hS⟩
 refine wp_mid (fun a w => Kn [] 193 a [(1, .string x), (2, vs), (3, .pointer (some ⟨b3, 0, none⟩)), (6, .pointer (some ⟨b6, 0, none⟩)), (9, .string ⟨#[]⟩), (10, .bool false), (11, .string nm), (12, .string va), (13, .bool is), (14, .int .i64 z), (15, .bool zo)] ∧ St B (pts b6 nd0 42 :: pts b3 (ndC k tag key hc ha hs (e, lv, mo, d, p, q) hh) 42 :: OwT 9 cl hc.v :: OwT 109 al ha.v :: OwT 135 sl hs.v :: OwT 9 seen vs :: L) w) ?_ ?_
 ·(repeat' (first|((first|refine wx1 ?_|refine wx2 ?_ ?_<;>intro hp|refine s_end hk ?_)<;>(clear hk a;intro a hk))|((first|refine wx3 ?_;intro w b|refine wx4 ?_;intro w|refine wx5 ?_;intro w v);clear hk hS a;intro hS a hk)|refine wx0 ?_|fail))
  refine sg hk (g_callO hk (hf := by kernel_rfl) (hc := rnumber_any va (by omega) _ (ht.mono hS.below)) (h := ?_));clear hk a;rintro _ w ⟨rfl, hS1⟩ a hk;replace hS := hS.call0 hS1;clear hS1
  rw [hz, hzo] at hk
  (repeat' (first|((first|refine wx1 ?_|refine wx2 ?_ ?_<;>intro hp|refine s_end hk ?_)<;>(clear hk a;intro a hk))|((first|refine wx3 ?_;intro w b|refine wx4 ?_;intro w|refine wx5 ?_;intro w v);clear hk hS a;intro hS a hk)|refine wx0 ?_|fail))
  exact ⟨hk.sub skx, hS.sub (by (repeat (first | exact Sub.nil | exact Sub.refl | refine Sub.cons atx ?_)))⟩
 clear hk hS a
 try clear w
 rintro a w ⟨hk, hS⟩
 refine wp_mid (fun a w => Kn [] 193 a [(1, .string x), (2, vs), (3, .pointer (some ⟨b3, 0, none⟩)), (6, .pointer (some ⟨b6, 0, none⟩)), (9, .string ⟨#[]⟩), (10, .bool false), (11, .string nm), (12, .string va), (13, .bool is), (14, .int .i64 z), (15, .bool zo), (16, .string r)] ∧ St B (pts b6 nd0 42 :: pts b3 (ndC k tag key hc ha hs (e, lv, mo, d, p, q) hh) 42 :: OwT 9 cl hc.v :: OwT 109 al ha.v :: OwT 135 sl hs.v :: OwT 9 seen vs :: L) w) ?_ ?_
 ·(repeat' (first|((first|refine wx1 ?_|refine wx2 ?_ ?_<;>intro hp|refine s_end hk ?_)<;>(clear hk a;intro a hk))|((first|refine wx3 ?_;intro w b|refine wx4 ?_;intro w|refine wx5 ?_;intro w v);clear hk hS a;intro hS a hk)|refine wx0 ?_|fail))
  simp only [h1] at hk
  rw [hr] at hk
  (repeat' (first|((first|refine wx1 ?_|refine wx2 ?_ ?_<;>intro hp|refine s_end hk ?_)<;>(clear hk a;intro a hk))|((first|refine wx3 ?_;intro w b|refine wx4 ?_;intro w|refine wx5 ?_;intro w v);clear hk hS a;intro hS a hk)|refine wx0 ?_|fail))
  exact ⟨hk.sub skx, hS.sub (by (repeat (first | exact Sub.nil | exact Sub.refl | refine Sub.cons atx ?_)))⟩
 clear hk hS a
 try clear w
 rintro a w ⟨hk, hS⟩
 refine wp_mid (fun a w => ∃ (m : Itm) (ok0 : Bool) (what : ByteArray) (hc' ha' hs' : Hd), addF ⟨k, tag, key, cl, al, sl, (e, lv, mo, d, p, q)⟩ x = (if ok0 = true then some m else none) ∧ whatF x = some what ∧
  Kn [] 193 a [(2, vs), (3, .pointer (some ⟨b3, 0, none⟩)), (6, .pointer (some ⟨b6, 0, none⟩)), (9, .string what), (10, .bool ok0)] ∧
  St B (pts b6 nd0 42 :: pts b3 (ndC m.k m.tag m.key hc' ha' hs' m.o hh) 42 :: OwT 9 m.cl hc'.v :: OwT 109 m.al ha'.v :: OwT 135 m.sl hs'.v :: OwT 9 seen vs :: L) w) ?_ ?_
 ·by_cases c35 : x[0].toNat = 35
  ·have hA := add35 (n := ⟨k, tag, key, cl, al, sl, (e, lv, mo, d, p, q)⟩) h0 c35
   rw [hr] at hA
   (repeat' (first|((first|refine wx1 ?_|refine wx2 ?_ ?_<;>intro hp|refine s_end hk ?_)<;>(clear hk a;intro a hk))|((first|refine wx3 ?_;intro w b|refine wx4 ?_;intro w|refine wx5 ?_;intro w v);clear hk hS a;intro hS a hk)|refine wx0 ?_|fail))
   refine sg hk (g_callO hk (hf := by kernel_rfl) (hc := rkey_any r (by omega) _) (h := ?_));clear hk a;rintro _ w ⟨rfl, hS1⟩ a hk;replace hS := hS.call0 hS1;clear hS1
   (repeat' (first|((first|refine wx1 ?_|refine wx2 ?_ ?_<;>intro hp|refine s_end hk ?_)<;>(clear hk a;intro a hk))|((first|refine wx3 ?_;intro w b|refine wx4 ?_;intro w|refine wx5 ?_;intro w v);clear hk hS a;intro hS a hk)|refine wx0 ?_|fail))
   exact ⟨⟨k, tag, r, cl, al, sl, (e, lv, mo, d, p, q)⟩, keyS r, ⟨#[35]⟩, hc, ha, hs, hA, what35 h0 c35, hk.sub skx, hS.sub (by (repeat (first | exact Sub.nil | exact Sub.refl | refine Sub.cons atx ?_)))⟩
  ·by_cases c46 : x[0].toNat = 46
   ·have hA := add46 (n := ⟨k, tag, key, cl, al, sl, (e, lv, mo, d, p, q)⟩) h0 c46
    have hW := what46 h0 c46
    rw [hr] at hA
    (repeat' (first|((first|refine wx1 ?_|refine wx2 ?_ ?_<;>intro hp|refine s_end hk ?_)<;>(clear hk a;intro a hk))|((first|refine wx3 ?_;intro w b|refine wx4 ?_;intro w|refine wx5 ?_;intro w v);clear hk hS a;intro hS a hk)|refine wx0 ?_|fail))
    refine sg hk (g_bs0 ByteArray hS ?_ (hT := eT rfl) (hE := zT rfl));clear hk hS a;intro w v3 hS a hk
    (repeat' (first|((first|refine wx1 ?_|refine wx2 ?_ ?_<;>intro hp|refine s_end hk ?_)<;>(clear hk a;intro a hk))|((first|refine wx3 ?_;intro w b|refine wx4 ?_;intro w|refine wx5 ?_;intro w v);clear hk hS a;intro hS a hk)|refine wx0 ?_|fail))
    rename Value => vn
    obtain ⟨aovn, cvn, hshp, _⟩ := (OwT.rd (hS.rd (A := OwT 9 _ vn) atx)).shape;subst hshp
    rw [List.nil_append] at *
    (repeat' (first|((first|refine wx1 ?_|refine wx2 ?_ ?_<;>intro hp|refine s_end hk ?_)<;>(clear hk a;intro a hk))|((first|refine wx3 ?_;intro w b|refine wx4 ?_;intro w|refine wx5 ?_;intro w v);clear hk hS a;intro hS a hk)|refine wx0 ?_|fail))
    have hI : itemF ⟨k, tag, key, cl, al, sl, (e, lv, mo, d, p, q)⟩ x seen = if nameS r = true then some (⟨k, tag, key, cl ++ [r], al, sl, (e, lv, mo, d, p, q)⟩, seen) else none := by
     unfold itemF;rw [hA, hW];cases nameS r <;> rfl
    replace hS := hS.sub (L' := pts b6 nd0 42 :: pts b3 (ndC k tag key ⟨aovn, (cl ++ [r]).length, cvn⟩ ha hs (e, lv, mo, d, p, q) hh) 42 :: OwT 9 (cl ++ [r]) (.slice aovn (cl ++ [r]).length cvn) :: OwT 109 al ha.v :: OwT 135 sl hs.v :: OwT 9 seen vs :: L) (by (repeat (first | exact Sub.nil | exact Sub.refl | refine Sub.cons atx ?_)))
    refine wp_drawnU1 5 mixed (by kernel_rfl) hk hS ?_;clear hk hS a
    (repeat' (first|(show ObxE _ _ _ _ _ _ _ _ _ (_::_) _ _ _;first|refine ox1 ?_|refine ox2 ?_ ?_<;>intro hp)|fail))
    refine' obe_val (fun us a w hk hd hS => ?_) ?_;rotate_left;focus (have hk := Kn.vw hk vwx;exact g_callO hk (hf := by kernel_rfl) (hc := rname_any r (by omega) _) (h := fun _ _ h => h))
    refine' obe_upd (pts b6 nd0 42) (V := fun _ => pts b6 (ndC k tag key ⟨aovn, (cl ++ [r]).length, cvn⟩ ha hs (e, lv, mo, d, p, q) hh) 42) (fun us a w X hk hd hS hL => ?_) ?_
    ·(have hk := Kn.vw hk vwx;exact g_store hk hS (fun _ h => h) (hsz := zT rfl))
    refine obe_nil ⟨rfl, ?_⟩;intro us a w hk hS
    simp only [resE] at hS
    (repeat' (first|((first|refine wx1 ?_|refine wx2 ?_ ?_<;>intro hp|refine s_end hk ?_)<;>(clear hk a;intro a hk))|((first|refine wx3 ?_;intro w b|refine wx4 ?_;intro w|refine wx5 ?_;intro w v);clear hk hS a;intro hS a hk)|refine wx0 ?_|fail))
    refine done3R hk rfl (.str hS (hT := aT rfl) (hs := zT rfl)) (.tmp rfl) (.tmp rfl) (h := ?_)
    rw [hI]
    cases nameS r with
    | false => exact ⟨⟨k, tag, key, cl ++ [r], al, sl, (e, lv, mo, d, p, q)⟩, ⟨aovn, (cl ++ [r]).length, cvn⟩, ha, hs, vs, rfl, hS.sub sbx⟩
    | true => exact ⟨⟨aovn, (cl ++ [r]).length, cvn⟩, ha, hs, vs, rfl, hS.sub (.cons atx (.cons atx (.cons atx (.cons atx sbx))))⟩
   ·by_cases c64 : x[0].toNat = 64
    ·have hA := add64 (n := ⟨k, tag, key, cl, al, sl, (e, lv, mo, d, p, q)⟩) h0 c64
     have hW := what64 h0 c64
     have hP := cut_pre x
     obtain ⟨rs, hrs⟩ := hd_of (c := 64) h0 c64
     have hcc := cut_cons hrs (by decide)
     rw [hr] at hA hcc
     rw [hcc] at hnm hva his
     simp only at hnm hva his
     rw [hva, his] at hA
     generalize (cutR 61 r).1 = av at hA hnm hcc
     rw [hcc] at hP hW
     simp only at hP hW
     rw [hnm] at hP hW
     clear hcc
     have hav : nm.extract 1 nm.size = av := by rw [← hnm];exact ext_one _ _
     have hnz : nm.size = av.size + 1 := by rw [← hnm, ByteArray.size_append];show 1 + av.size = _;omega
     have hI : itemF ⟨k, tag, key, cl, al, sl, (e, lv, mo, d, p, q)⟩ x seen = itemF ⟨k, tag, key, cl, al, sl, (e, lv, mo, d, p, q)⟩ x seen := rfl
     conv at hI => rhs;unfold itemF
     cases is with
     | false =>
      rw [if_neg (by rintro ⟨h, -⟩;cases h)] at hA
      rw [hA] at hI
      (repeat' (first|((first|refine wx1 ?_|refine wx2 ?_ ?_<;>intro hp|refine s_end hk ?_)<;>(clear hk a;intro a hk))|((first|refine wx3 ?_;intro w b|refine wx4 ?_;intro w|refine wx5 ?_;intro w v);clear hk hS a;intro hS a hk)|refine wx0 ?_|fail))
      refine done3R hk rfl (.str hS (hT := aT rfl) (hs := zT rfl)) (.tmp rfl) (.tmp rfl) (h := ?_)
      rw [hI]
      exact ⟨⟨k, tag, key, cl, al, sl, (e, lv, mo, d, p, q)⟩, hc, ha, hs, vs, rfl, hS.sub sbx⟩
     | true =>
      (repeat' (first|((first|refine wx1 ?_|refine wx2 ?_ ?_<;>intro hp|refine s_end hk ?_)<;>(clear hk a;intro a hk))|((first|refine wx3 ?_;intro w b|refine wx4 ?_;intro w|refine wx5 ?_;intro w v);clear hk hS a;intro hS a hk)|refine wx0 ?_|fail))
      rw [show ((nm.size : Int)).toNat = nm.size by omega, hP] at hk
      refine wp_drawn 10 mixed (by kernel_rfl) hk hS ?_;clear hk hS a
      refine' obe_res (fun us a w hk hd hS => ?_) ?_;rotate_left;focus (have hk := Kn.vw hk vwx;exact v_bs0 (hT := eT rfl) (hE := zT rfl))
      (repeat' (first|(show ObxE _ _ _ _ _ _ _ _ _ (_::_) _ _ _;first|refine ox1 ?_|refine ox2 ?_ ?_<;>intro hp)|fail))
      refine' obe_lnd 9 (p := fun _ => True) (V := appH 109 al) (fun us a w hk hd hS => ?_) ?_
      ·have hk := Kn.vw hk vwx
       exact (v_appR (ys := al) hk hd.1 (hT := eT rfl) (hTx := eT rfl) (hE := zT rfl) (hz := oT rfl) (hzs := rfl) (hs := (by first | exact St.rdT hS (by assumption) | exact OwT.rd (hS.rd (A := OwT _ _ _) atx) | assumption)) (hby := bT rfl) (hbytes := by omega) (h63 := by simp only [maxLen];omega)).mono (fun _ _ h => St.tru h)
      (repeat' (first|(show ObxE _ _ _ _ _ _ _ _ _ (_::_) _ _ _;first|refine ox1 ?_|refine ox2 ?_ ?_<;>intro hp)|fail))
      refine' obe_res (fun us a w hk hd hS => ?_) ?_;rotate_left;focus (have hk := Kn.vw hk vwx;exact v_bsT (xs := [((nm.extract (1 : Int).toNat nm.size, va) : PrS)]) (m := 0) hk (hT := eT rfl) (hE := zT rfl) (hz := oT rfl))
      refine' obe_tak 91 3 (V := appH 109 (al ++ [((nm.extract (1 : Int).toNat nm.size, va) : PrS)])) (fun us a w X hk hd hS hL => ?_) ?_
      ·have hk := Kn.vw hk vwx
       exact v_app2 hk hS (hT := eT rfl) (hTx := eT rfl) (hE := zT rfl) (hz := oT rfl) (hzs := rfl) (hs := OwT.rd hd.2.1) (hby := bT rfl) (hbytes := by simp only [List.length_cons, List.length_nil];omega) (h63 := by simp only [List.length_cons, List.length_nil, maxLen];omega)
      refine obe_nil ⟨rfl, ?_⟩;intro us a w hk hS
      simp only [resE, List.cons_append, List.nil_append, Nat.zero_add, Nat.reduceAdd] at hS
      replace hk := Kn.kp [1, 2, 3, 6, 9, 10, 11, 12, 13, 14, 15, 16, 97] hk
      simp only [HV.of, Nat.zero_add, Nat.reduceAdd] at hk
      rename Nat → Value => us
      generalize us 9 = v97 at hS hk
      rw [h1, hav, appH_ne] at hS
      obtain ⟨aov97, cv97, hshp, _⟩ := (OwT.rd (hS.rd (A := OwT 109 _ v97) atx)).shape;subst hshp
      (repeat' (first|((first|refine wx1 ?_|refine wx2 ?_ ?_<;>intro hp|refine s_end hk ?_)<;>(clear hk a;intro a hk))|((first|refine wx3 ?_;intro w b|refine wx4 ?_;intro w|refine wx5 ?_;intro w v);clear hk hS a;intro hS a hk)|refine wx0 ?_|fail))
      simp only [h1] at hk
      rw [hav] at hk
      refine sg hk (g_callO hk (hf := by kernel_rfl) (hc := rname_any av (by omega) _) (h := ?_));clear hk a;rintro _ w ⟨rfl, hS1⟩ a hk;replace hS := hS.call0 hS1;clear hS1
      cases hb : nameS av with
      | false =>
       rw [hb] at hk
       (repeat' (first|((first|refine wx1 ?_|refine wx2 ?_ ?_<;>intro hp|refine s_end hk ?_)<;>(clear hk a;intro a hk))|((first|refine wx3 ?_;intro w b|refine wx4 ?_;intro w|refine wx5 ?_;intro w v);clear hk hS a;intro hS a hk)|refine wx0 ?_|fail))
       exact ⟨⟨k, tag, key, cl, al ++ [(av, va)], sl, (e, lv, mo, d, p, q)⟩, false, nm, hc, ⟨aov97, (al ++ [(av, va)]).length, cv97⟩, hs, by rw [hA, if_neg (by rw [hb];rintro ⟨-, h, -⟩;cases h), if_neg (by decide)], hW, hk.sub skx, hS.sub (.cons atx (.cons atx (.cons atx (.cons atx (.cons atx (.cons atx sbx))))))⟩
      | true =>
       rw [hb] at hk
       (repeat' (first|((first|refine wx1 ?_|refine wx2 ?_ ?_<;>intro hp|refine s_end hk ?_)<;>(clear hk a;intro a hk))|((first|refine wx3 ?_;intro w b|refine wx4 ?_;intro w|refine wx5 ?_;intro w v);clear hk hS a;intro hS a hk)|refine wx0 ?_|fail))
       refine sg hk (g_callO hk (hf := by kernel_rfl) (hc := rvalue_any va (by omega) _) (h := ?_));clear hk a;rintro _ w ⟨rfl, hS1⟩ a hk;replace hS := hS.call0 hS1;clear hS1
       (repeat' (first|((first|refine wx1 ?_|refine wx2 ?_ ?_<;>intro hp|refine s_end hk ?_)<;>(clear hk a;intro a hk))|((first|refine wx3 ?_;intro w b|refine wx4 ?_;intro w|refine wx5 ?_;intro w v);clear hk hS a;intro hS a hk)|refine wx0 ?_|fail))
       exact ⟨⟨k, tag, key, cl, al ++ [(av, va)], sl, (e, lv, mo, d, p, q)⟩, valS va, nm, hc, ⟨aov97, (al ++ [(av, va)]).length, cv97⟩, hs, by rw [hA];cases valS va <;> simp [hb], hW, hk.sub skx, hS.sub (.cons atx (.cons atx (.cons atx (.cons atx (.cons atx (.cons atx sbx))))))⟩
    ·have hx33 : ∀ c : ByteArray, (∃ r, c.data.toList = 33 :: r) → x[0].toNat ≠ 33 → ¬ x = c := fun c ⟨r', hc'⟩ hne h => by
      obtain ⟨r2, hr2⟩ := itm_hd h0
      have hc2 : x.data.toList = 33 :: r' := by rw [h];exact hc'
      rw [hc2] at hr2
      injection hr2 with e1 _
      exact hne (by rw [← e1];rfl)
     by_cases c33 : x[0].toNat = 33
     ·clear hx33
      by_cases n1 : x = (⟨#[33, 103, 114, 111, 117, 112]⟩ : ByteArray)
      ·have hA : addF ⟨k, tag, key, cl, al, sl, (e, lv, mo, d, p, q)⟩ x = some ⟨3, tag, key, cl, al, sl, (e, lv, mo, d, p, q)⟩ := by rw [n1];rfl
       have hW : whatF x = some ⟨#[33, 107, 105, 110, 100]⟩ := by
        first
         | (rw [n1];rfl)
         | (rw [n1];decide +kernel)
       have m2 : ¬ x = (⟨#[33, 115, 108, 111, 116]⟩ : ByteArray) := by rw [n1];decide
       have m3 : ¬ x = (⟨#[33, 111, 117, 116, 45, 105, 110]⟩ : ByteArray) := by rw [n1];decide
       have m4 : ¬ x = (⟨#[33, 105, 110, 45, 111, 117, 116]⟩ : ByteArray) := by rw [n1];decide
       have m5 : ¬ x = (⟨#[33, 97, 112, 112, 101, 97, 114]⟩ : ByteArray) := by rw [n1];decide
       have m6 : ¬ x = (⟨#[33, 109, 111, 118, 101, 115]⟩ : ByteArray) := by rw [n1];decide
       (repeat' (first|((first|refine wx1 ?_|refine wx2 ?_ ?_<;>intro hp|refine s_end hk ?_)<;>(clear hk a;intro a hk))|((first|refine wx3 ?_;intro w b|refine wx4 ?_;intro w|refine wx5 ?_;intro w v);clear hk hS a;intro hS a hk)|refine wx0 ?_|fail))
       exact ⟨⟨3, tag, key, cl, al, sl, (e, lv, mo, d, p, q)⟩, true, ⟨#[33, 107, 105, 110, 100]⟩, hc, ha, hs, hA, hW, hk.sub skx, hS.sub (by (repeat (first | exact Sub.nil | exact Sub.refl | refine Sub.cons atx ?_)))⟩
      by_cases n2 : x = (⟨#[33, 115, 108, 111, 116]⟩ : ByteArray)
      ·have hA : addF ⟨k, tag, key, cl, al, sl, (e, lv, mo, d, p, q)⟩ x = some ⟨4, tag, key, cl, al, sl, (e, lv, mo, d, p, q)⟩ := by rw [n2];rfl
       have hW : whatF x = some ⟨#[33, 107, 105, 110, 100]⟩ := by
        first
         | (rw [n2];rfl)
         | (rw [n2];decide +kernel)
       have m3 : ¬ x = (⟨#[33, 111, 117, 116, 45, 105, 110]⟩ : ByteArray) := by rw [n2];decide
       have m4 : ¬ x = (⟨#[33, 105, 110, 45, 111, 117, 116]⟩ : ByteArray) := by rw [n2];decide
       have m5 : ¬ x = (⟨#[33, 97, 112, 112, 101, 97, 114]⟩ : ByteArray) := by rw [n2];decide
       have m6 : ¬ x = (⟨#[33, 109, 111, 118, 101, 115]⟩ : ByteArray) := by rw [n2];decide
       (repeat' (first|((first|refine wx1 ?_|refine wx2 ?_ ?_<;>intro hp|refine s_end hk ?_)<;>(clear hk a;intro a hk))|((first|refine wx3 ?_;intro w b|refine wx4 ?_;intro w|refine wx5 ?_;intro w v);clear hk hS a;intro hS a hk)|refine wx0 ?_|fail))
       exact ⟨⟨4, tag, key, cl, al, sl, (e, lv, mo, d, p, q)⟩, true, ⟨#[33, 107, 105, 110, 100]⟩, hc, ha, hs, hA, hW, hk.sub skx, hS.sub (by (repeat (first | exact Sub.nil | exact Sub.refl | refine Sub.cons atx ?_)))⟩
      by_cases n3 : x = (⟨#[33, 111, 117, 116, 45, 105, 110]⟩ : ByteArray)
      ·have hA : addF ⟨k, tag, key, cl, al, sl, (e, lv, mo, d, p, q)⟩ x = some ⟨k, tag, key, cl, al, sl, (e, lv, mo, 1, p, q)⟩ := by rw [n3];rfl
       have hW : whatF x = some ⟨#[33, 109, 111, 100, 101]⟩ := by
        first
         | (rw [n3];rfl)
         | (rw [n3];decide +kernel)
       have m4 : ¬ x = (⟨#[33, 105, 110, 45, 111, 117, 116]⟩ : ByteArray) := by rw [n3];decide
       have m5 : ¬ x = (⟨#[33, 97, 112, 112, 101, 97, 114]⟩ : ByteArray) := by rw [n3];decide
       have m6 : ¬ x = (⟨#[33, 109, 111, 118, 101, 115]⟩ : ByteArray) := by rw [n3];decide
       (repeat' (first|((first|refine wx1 ?_|refine wx2 ?_ ?_<;>intro hp|refine s_end hk ?_)<;>(clear hk a;intro a hk))|((first|refine wx3 ?_;intro w b|refine wx4 ?_;intro w|refine wx5 ?_;intro w v);clear hk hS a;intro hS a hk)|refine wx0 ?_|fail))
       exact ⟨⟨k, tag, key, cl, al, sl, (e, lv, mo, 1, p, q)⟩, true, ⟨#[33, 109, 111, 100, 101]⟩, hc, ha, hs, hA, hW, hk.sub skx, hS.sub (by (repeat (first | exact Sub.nil | exact Sub.refl | refine Sub.cons atx ?_)))⟩
      by_cases n4 : x = (⟨#[33, 105, 110, 45, 111, 117, 116]⟩ : ByteArray)
      ·have hA : addF ⟨k, tag, key, cl, al, sl, (e, lv, mo, d, p, q)⟩ x = some ⟨k, tag, key, cl, al, sl, (e, lv, mo, 2, p, q)⟩ := by rw [n4];rfl
       have hW : whatF x = some ⟨#[33, 109, 111, 100, 101]⟩ := by
        first
         | (rw [n4];rfl)
         | (rw [n4];decide +kernel)
       have m5 : ¬ x = (⟨#[33, 97, 112, 112, 101, 97, 114]⟩ : ByteArray) := by rw [n4];decide
       have m6 : ¬ x = (⟨#[33, 109, 111, 118, 101, 115]⟩ : ByteArray) := by rw [n4];decide
       (repeat' (first|((first|refine wx1 ?_|refine wx2 ?_ ?_<;>intro hp|refine s_end hk ?_)<;>(clear hk a;intro a hk))|((first|refine wx3 ?_;intro w b|refine wx4 ?_;intro w|refine wx5 ?_;intro w v);clear hk hS a;intro hS a hk)|refine wx0 ?_|fail))
       exact ⟨⟨k, tag, key, cl, al, sl, (e, lv, mo, 2, p, q)⟩, true, ⟨#[33, 109, 111, 100, 101]⟩, hc, ha, hs, hA, hW, hk.sub skx, hS.sub (by (repeat (first | exact Sub.nil | exact Sub.refl | refine Sub.cons atx ?_)))⟩
      by_cases n5 : x = (⟨#[33, 97, 112, 112, 101, 97, 114]⟩ : ByteArray)
      ·have hA : addF ⟨k, tag, key, cl, al, sl, (e, lv, mo, d, p, q)⟩ x = some ⟨k, tag, key, cl, al, sl, (e, lv, mo, d, true, q)⟩ := by rw [n5];rfl
       have hW : whatF x = some x := by
        first
         | (rw [n5];rfl)
         | (rw [n5];decide +kernel)
       have m6 : ¬ x = (⟨#[33, 109, 111, 118, 101, 115]⟩ : ByteArray) := by rw [n5];decide
       (repeat' (first|((first|refine wx1 ?_|refine wx2 ?_ ?_<;>intro hp|refine s_end hk ?_)<;>(clear hk a;intro a hk))|((first|refine wx3 ?_;intro w b|refine wx4 ?_;intro w|refine wx5 ?_;intro w v);clear hk hS a;intro hS a hk)|refine wx0 ?_|fail))
       exact ⟨⟨k, tag, key, cl, al, sl, (e, lv, mo, d, true, q)⟩, true, x, hc, ha, hs, hA, hW, hk.sub skx, hS.sub (by (repeat (first | exact Sub.nil | exact Sub.refl | refine Sub.cons atx ?_)))⟩
      by_cases n6 : x = (⟨#[33, 109, 111, 118, 101, 115]⟩ : ByteArray)
      ·have hA : addF ⟨k, tag, key, cl, al, sl, (e, lv, mo, d, p, q)⟩ x = some ⟨k, tag, key, cl, al, sl, (e, lv, mo, d, p, true)⟩ := by rw [n6];rfl
       have hW : whatF x = some x := by
        first
         | (rw [n6];rfl)
         | (rw [n6];decide +kernel)
       (repeat' (first|((first|refine wx1 ?_|refine wx2 ?_ ?_<;>intro hp|refine s_end hk ?_)<;>(clear hk a;intro a hk))|((first|refine wx3 ?_;intro w b|refine wx4 ?_;intro w|refine wx5 ?_;intro w v);clear hk hS a;intro hS a hk)|refine wx0 ?_|fail))
       exact ⟨⟨k, tag, key, cl, al, sl, (e, lv, mo, d, p, true)⟩, true, x, hc, ha, hs, hA, hW, hk.sub skx, hS.sub (by (repeat (first | exact Sub.nil | exact Sub.refl | refine Sub.cons atx ?_)))⟩
      have hA := add33 (n := ⟨k, tag, key, cl, al, sl, (e, lv, mo, d, p, q)⟩) h0 c33 n1 n2 n3 n4 n5 n6
      have hW := what33 h0 c33 n1 n2 n3 n4
      have hcn := cut_none (w := x)
      rw [hnm, hva, his, hz, hzo] at hA
      rw [hnm] at hW
      rw [his, hva] at hcn
      have hiz : zo = true → is = true := fun h => by
       cases is with
       | true => rfl
       | false => rw [hcn rfl] at hzo;rw [← hzo] at h;exact absurd h (by decide)
      simp only at hA
      by_cases e1 : nm = (⟨#[33, 101, 110, 116, 101, 114]⟩ : ByteArray)
      ·rw [if_pos (show nm = wEnter from e1)] at hA
       have m2 : ¬ nm = (⟨#[33, 108, 101, 97, 118, 101]⟩ : ByteArray) := by rw [e1];decide
       have m3 : ¬ nm = (⟨#[33, 109, 111, 118, 101]⟩ : ByteArray) := by rw [e1];decide
       cases zo with
       | false =>
        rw [if_neg (by rintro ⟨-, h⟩;cases h)] at hA
        (repeat' (first|((first|refine wx1 ?_|refine wx2 ?_ ?_<;>intro hp|refine s_end hk ?_)<;>(clear hk a;intro a hk))|((first|refine wx3 ?_;intro w b|refine wx4 ?_;intro w|refine wx5 ?_;intro w v);clear hk hS a;intro hS a hk)|refine wx0 ?_|fail))
        exact ⟨⟨k, tag, key, cl, al, sl, (z, lv, mo, d, p, q)⟩, false, nm, hc, ha, hs, hA, hW, hk.sub skx, hS.sub (by (repeat (first | exact Sub.nil | exact Sub.refl | refine Sub.cons atx ?_)))⟩
       | true =>
        rw [if_pos ⟨hiz rfl, rfl⟩] at hA
        (repeat' (first|((first|refine wx1 ?_|refine wx2 ?_ ?_<;>intro hp|refine s_end hk ?_)<;>(clear hk a;intro a hk))|((first|refine wx3 ?_;intro w b|refine wx4 ?_;intro w|refine wx5 ?_;intro w v);clear hk hS a;intro hS a hk)|refine wx0 ?_|fail))
        exact ⟨⟨k, tag, key, cl, al, sl, (z, lv, mo, d, p, q)⟩, true, nm, hc, ha, hs, hA, hW, hk.sub skx, hS.sub (by (repeat (first | exact Sub.nil | exact Sub.refl | refine Sub.cons atx ?_)))⟩
      ·rw [if_neg (show ¬ nm = wEnter from e1)] at hA
       by_cases e2 : nm = (⟨#[33, 108, 101, 97, 118, 101]⟩ : ByteArray)
       ·rw [if_pos (show nm = wLeave from e2)] at hA
        have m3 : ¬ nm = (⟨#[33, 109, 111, 118, 101]⟩ : ByteArray) := by rw [e2];decide
        cases zo with
        | false =>
         rw [if_neg (by rintro ⟨-, h⟩;cases h)] at hA
         (repeat' (first|((first|refine wx1 ?_|refine wx2 ?_ ?_<;>intro hp|refine s_end hk ?_)<;>(clear hk a;intro a hk))|((first|refine wx3 ?_;intro w b|refine wx4 ?_;intro w|refine wx5 ?_;intro w v);clear hk hS a;intro hS a hk)|refine wx0 ?_|fail))
         exact ⟨⟨k, tag, key, cl, al, sl, (e, z, mo, d, p, q)⟩, false, nm, hc, ha, hs, hA, hW, hk.sub skx, hS.sub (by (repeat (first | exact Sub.nil | exact Sub.refl | refine Sub.cons atx ?_)))⟩
        | true =>
         rw [if_pos ⟨hiz rfl, rfl⟩] at hA
         (repeat' (first|((first|refine wx1 ?_|refine wx2 ?_ ?_<;>intro hp|refine s_end hk ?_)<;>(clear hk a;intro a hk))|((first|refine wx3 ?_;intro w b|refine wx4 ?_;intro w|refine wx5 ?_;intro w v);clear hk hS a;intro hS a hk)|refine wx0 ?_|fail))
         exact ⟨⟨k, tag, key, cl, al, sl, (e, z, mo, d, p, q)⟩, true, nm, hc, ha, hs, hA, hW, hk.sub skx, hS.sub (by (repeat (first | exact Sub.nil | exact Sub.refl | refine Sub.cons atx ?_)))⟩
       ·rw [if_neg (show ¬ nm = wLeave from e2)] at hA
        by_cases e3 : nm = (⟨#[33, 109, 111, 118, 101]⟩ : ByteArray)
        ·rw [if_pos (show nm = wMove from e3)] at hA
         cases zo with
         | false =>
          rw [if_neg (by rintro ⟨-, h⟩;cases h)] at hA
          (repeat' (first|((first|refine wx1 ?_|refine wx2 ?_ ?_<;>intro hp|refine s_end hk ?_)<;>(clear hk a;intro a hk))|((first|refine wx3 ?_;intro w b|refine wx4 ?_;intro w|refine wx5 ?_;intro w v);clear hk hS a;intro hS a hk)|refine wx0 ?_|fail))
          exact ⟨⟨k, tag, key, cl, al, sl, (e, lv, z, d, p, q)⟩, false, nm, hc, ha, hs, hA, hW, hk.sub skx, hS.sub (by (repeat (first | exact Sub.nil | exact Sub.refl | refine Sub.cons atx ?_)))⟩
         | true =>
          rw [if_pos ⟨hiz rfl, rfl⟩] at hA
          (repeat' (first|((first|refine wx1 ?_|refine wx2 ?_ ?_<;>intro hp|refine s_end hk ?_)<;>(clear hk a;intro a hk))|((first|refine wx3 ?_;intro w b|refine wx4 ?_;intro w|refine wx5 ?_;intro w v);clear hk hS a;intro hS a hk)|refine wx0 ?_|fail))
          exact ⟨⟨k, tag, key, cl, al, sl, (e, lv, z, d, p, q)⟩, true, nm, hc, ha, hs, hA, hW, hk.sub skx, hS.sub (by (repeat (first | exact Sub.nil | exact Sub.refl | refine Sub.cons atx ?_)))⟩
        ·rw [if_neg (show ¬ nm = wMove from e3), ite_self] at hA
         cases zo with
         | false =>
          (repeat' (first|((first|refine wx1 ?_|refine wx2 ?_ ?_<;>intro hp|refine s_end hk ?_)<;>(clear hk a;intro a hk))|((first|refine wx3 ?_;intro w b|refine wx4 ?_;intro w|refine wx5 ?_;intro w v);clear hk hS a;intro hS a hk)|refine wx0 ?_|fail))
          exact ⟨⟨k, tag, key, cl, al, sl, (e, lv, mo, d, p, q)⟩, false, nm, hc, ha, hs, hA, hW, hk.sub skx, hS.sub (by (repeat (first | exact Sub.nil | exact Sub.refl | refine Sub.cons atx ?_)))⟩
         | true =>
          (repeat' (first|((first|refine wx1 ?_|refine wx2 ?_ ?_<;>intro hp|refine s_end hk ?_)<;>(clear hk a;intro a hk))|((first|refine wx3 ?_;intro w b|refine wx4 ?_;intro w|refine wx5 ?_;intro w v);clear hk hS a;intro hS a hk)|refine wx0 ?_|fail))
          exact ⟨⟨k, tag, key, cl, al, sl, (e, lv, mo, d, p, q)⟩, false, nm, hc, ha, hs, hA, hW, hk.sub skx, hS.sub (by (repeat (first | exact Sub.nil | exact Sub.refl | refine Sub.cons atx ?_)))⟩
     ·have hA := addS (n := ⟨k, tag, key, cl, al, sl, (e, lv, mo, d, p, q)⟩) h0 c35 c46 c64 c33
      have hW := whatS h0 c35 c46 c64 c33
      rw [hnm, hva, his, hz, hzo] at hA
      rw [hnm] at hW
      have n1 : ¬ x = (⟨#[33, 103, 114, 111, 117, 112]⟩ : ByteArray) := hx33 _ ⟨_, rfl⟩ c33
      have n2 : ¬ x = (⟨#[33, 115, 108, 111, 116]⟩ : ByteArray) := hx33 _ ⟨_, rfl⟩ c33
      have n3 : ¬ x = (⟨#[33, 111, 117, 116, 45, 105, 110]⟩ : ByteArray) := hx33 _ ⟨_, rfl⟩ c33
      have n4 : ¬ x = (⟨#[33, 105, 110, 45, 111, 117, 116]⟩ : ByteArray) := hx33 _ ⟨_, rfl⟩ c33
      have n5 : ¬ x = (⟨#[33, 97, 112, 112, 101, 97, 114]⟩ : ByteArray) := hx33 _ ⟨_, rfl⟩ c33
      have n6 : ¬ x = (⟨#[33, 109, 111, 118, 101, 115]⟩ : ByteArray) := hx33 _ ⟨_, rfl⟩ c33
      clear hx33
      (repeat' (first|((first|refine wx1 ?_|refine wx2 ?_ ?_<;>intro hp|refine s_end hk ?_)<;>(clear hk a;intro a hk))|((first|refine wx3 ?_;intro w b|refine wx4 ?_;intro w|refine wx5 ?_;intro w v);clear hk hS a;intro hS a hk)|refine wx0 ?_|fail))
      refine sg hk (g_cat (s := ⟨#[61]⟩) (r := nm) hk ?_ (hl := by simp only [maxLen];show 1 + nm.size ≤ _;omega));clear hk a;intro a hk
      obtain ⟨ok0, hok⟩ : ∃ b, b = (is && (zo && nameS nm)) := ⟨_, rfl⟩
      have hA2 : addF ⟨k, tag, key, cl, al, sl, (e, lv, mo, d, p, q)⟩ x = if ok0 = true then some ⟨k, tag, key, cl, al, sl ++ [(nm, z)], (e, lv, mo, d, p, q)⟩ else none := by
       rw [hA, hok]
       cases is <;> cases zo <;> cases nameS nm <;> rfl
      cases is with
      | false =>
       have hok : ok0 = false := hok
       (repeat' (first|((first|refine wx1 ?_|refine wx2 ?_ ?_<;>intro hp|refine s_end hk ?_)<;>(clear hk a;intro a hk))|((first|refine wx3 ?_;intro w b|refine wx4 ?_;intro w|refine wx5 ?_;intro w v);clear hk hS a;intro hS a hk)|refine wx0 ?_|fail))
       refine sg hk (g_bs0 PrI hS ?_ (hT := eT rfl) (hE := zT rfl));clear hk hS a;intro w v3 hS a hk
       (repeat' (first|((first|refine wx1 ?_|refine wx2 ?_ ?_<;>intro hp|refine s_end hk ?_)<;>(clear hk a;intro a hk))|((first|refine wx3 ?_;intro w b|refine wx4 ?_;intro w|refine wx5 ?_;intro w v);clear hk hS a;intro hS a hk)|refine wx0 ?_|fail))
       refine sg hk (g_bsT (xs := [((nm, z) : PrI)]) (m := 0) hk hS ?_ (hT := eT rfl) (hE := zT rfl) (hz := oT rfl));clear hk hS a;intro w ve hS a hk
       (repeat' (first|((first|refine wx1 ?_|refine wx2 ?_ ?_<;>intro hp|refine s_end hk ?_)<;>(clear hk a;intro a hk))|((first|refine wx3 ?_;intro w b|refine wx4 ?_;intro w|refine wx5 ?_;intro w v);clear hk hS a;intro hS a hk)|refine wx0 ?_|fail))
       rename Value => vn
       obtain ⟨aovn, cvn, hshp, _⟩ := (OwT.rd (hS.rd (A := OwT 135 _ vn) atx)).shape;subst hshp
       rw [List.nil_append] at *
       (repeat' (first|((first|refine wx1 ?_|refine wx2 ?_ ?_<;>intro hp|refine s_end hk ?_)<;>(clear hk a;intro a hk))|((first|refine wx3 ?_;intro w b|refine wx4 ?_;intro w|refine wx5 ?_;intro w v);clear hk hS a;intro hS a hk)|refine wx0 ?_|fail))
       rw [← hok] at hk
       exact ⟨⟨k, tag, key, cl, al, sl ++ [(nm, z)], (e, lv, mo, d, p, q)⟩, ok0, ⟨#[61]⟩ ++ nm, hc, ha, ⟨aovn, (sl ++ [(nm, z)]).length, cvn⟩, hA2, hW, hk.sub skx, hS.sub (.cons atx (.cons atx (.cons atx (.cons atx (.cons atx (.cons atx sbx))))))⟩
      | true =>
       cases zo with
       | false =>
        have hok : ok0 = false := hok
        (repeat' (first|((first|refine wx1 ?_|refine wx2 ?_ ?_<;>intro hp|refine s_end hk ?_)<;>(clear hk a;intro a hk))|((first|refine wx3 ?_;intro w b|refine wx4 ?_;intro w|refine wx5 ?_;intro w v);clear hk hS a;intro hS a hk)|refine wx0 ?_|fail))
        refine sg hk (g_bs0 PrI hS ?_ (hT := eT rfl) (hE := zT rfl));clear hk hS a;intro w v3 hS a hk
        (repeat' (first|((first|refine wx1 ?_|refine wx2 ?_ ?_<;>intro hp|refine s_end hk ?_)<;>(clear hk a;intro a hk))|((first|refine wx3 ?_;intro w b|refine wx4 ?_;intro w|refine wx5 ?_;intro w v);clear hk hS a;intro hS a hk)|refine wx0 ?_|fail))
        refine sg hk (g_bsT (xs := [((nm, z) : PrI)]) (m := 0) hk hS ?_ (hT := eT rfl) (hE := zT rfl) (hz := oT rfl));clear hk hS a;intro w ve hS a hk
        (repeat' (first|((first|refine wx1 ?_|refine wx2 ?_ ?_<;>intro hp|refine s_end hk ?_)<;>(clear hk a;intro a hk))|((first|refine wx3 ?_;intro w b|refine wx4 ?_;intro w|refine wx5 ?_;intro w v);clear hk hS a;intro hS a hk)|refine wx0 ?_|fail))
        rename Value => vn
        obtain ⟨aovn, cvn, hshp, _⟩ := (OwT.rd (hS.rd (A := OwT 135 _ vn) atx)).shape;subst hshp
        rw [List.nil_append] at *
        (repeat' (first|((first|refine wx1 ?_|refine wx2 ?_ ?_<;>intro hp|refine s_end hk ?_)<;>(clear hk a;intro a hk))|((first|refine wx3 ?_;intro w b|refine wx4 ?_;intro w|refine wx5 ?_;intro w v);clear hk hS a;intro hS a hk)|refine wx0 ?_|fail))
        rw [← hok] at hk
        exact ⟨⟨k, tag, key, cl, al, sl ++ [(nm, z)], (e, lv, mo, d, p, q)⟩, ok0, ⟨#[61]⟩ ++ nm, hc, ha, ⟨aovn, (sl ++ [(nm, z)]).length, cvn⟩, hA2, hW, hk.sub skx, hS.sub (.cons atx (.cons atx (.cons atx (.cons atx (.cons atx (.cons atx sbx))))))⟩
       | true =>
        have hok : ok0 = nameS nm := hok
        (repeat' (first|((first|refine wx1 ?_|refine wx2 ?_ ?_<;>intro hp|refine s_end hk ?_)<;>(clear hk a;intro a hk))|((first|refine wx3 ?_;intro w b|refine wx4 ?_;intro w|refine wx5 ?_;intro w v);clear hk hS a;intro hS a hk)|refine wx0 ?_|fail))
        refine sg hk (g_callO hk (hf := by kernel_rfl) (hc := rname_any nm (by omega) _) (h := ?_));clear hk a;rintro _ w ⟨rfl, hS1⟩ a hk;replace hS := hS.call0 hS1;clear hS1
        (repeat' (first|((first|refine wx1 ?_|refine wx2 ?_ ?_<;>intro hp|refine s_end hk ?_)<;>(clear hk a;intro a hk))|((first|refine wx3 ?_;intro w b|refine wx4 ?_;intro w|refine wx5 ?_;intro w v);clear hk hS a;intro hS a hk)|refine wx0 ?_|fail))
        refine sg hk (g_bs0 PrI hS ?_ (hT := eT rfl) (hE := zT rfl));clear hk hS a;intro w v3 hS a hk
        (repeat' (first|((first|refine wx1 ?_|refine wx2 ?_ ?_<;>intro hp|refine s_end hk ?_)<;>(clear hk a;intro a hk))|((first|refine wx3 ?_;intro w b|refine wx4 ?_;intro w|refine wx5 ?_;intro w v);clear hk hS a;intro hS a hk)|refine wx0 ?_|fail))
        refine sg hk (g_bsT (xs := [((nm, z) : PrI)]) (m := 0) hk hS ?_ (hT := eT rfl) (hE := zT rfl) (hz := oT rfl));clear hk hS a;intro w ve hS a hk
        (repeat' (first|((first|refine wx1 ?_|refine wx2 ?_ ?_<;>intro hp|refine s_end hk ?_)<;>(clear hk a;intro a hk))|((first|refine wx3 ?_;intro w b|refine wx4 ?_;intro w|refine wx5 ?_;intro w v);clear hk hS a;intro hS a hk)|refine wx0 ?_|fail))
        rename Value => vn
        obtain ⟨aovn, cvn, hshp, _⟩ := (OwT.rd (hS.rd (A := OwT 135 _ vn) atx)).shape;subst hshp
        rw [List.nil_append] at *
        (repeat' (first|((first|refine wx1 ?_|refine wx2 ?_ ?_<;>intro hp|refine s_end hk ?_)<;>(clear hk a;intro a hk))|((first|refine wx3 ?_;intro w b|refine wx4 ?_;intro w|refine wx5 ?_;intro w v);clear hk hS a;intro hS a hk)|refine wx0 ?_|fail))
        rw [← hok] at hk
        exact ⟨⟨k, tag, key, cl, al, sl ++ [(nm, z)], (e, lv, mo, d, p, q)⟩, ok0, ⟨#[61]⟩ ++ nm, hc, ha, ⟨aovn, (sl ++ [(nm, z)]).length, cvn⟩, hA2, hW, hk.sub skx, hS.sub (.cons atx (.cons atx (.cons atx (.cons atx (.cons atx (.cons atx sbx))))))⟩
 clear hk hS a
 try clear w
 rintro a w ⟨⟨k', tag', key', cl', al', sl', ⟨e', lv', mo', d', p', q'⟩⟩, ok0, what, hc', ha', hs', hA, hW, hk, hS⟩
 simp only at hS
 have hI : itemF ⟨k, tag, key, cl, al, sl, (e, lv, mo, d, p, q)⟩ x seen = if (ok0 && !(seen.any (fun y => decide (y = what)))) = true then some (⟨k', tag', key', cl', al', sl', (e', lv', mo', d', p', q')⟩, seen ++ [what]) else none := by
  unfold itemF
  rw [hA, hW]
  cases ok0 with
  | false => rfl
  | true =>
   simp only [if_pos, Bool.true_and]
   cases seen.any (fun y => decide (y = what)) <;> rfl
 clear hA hW hl1 hl2 hnm hva his hz hzo hr hrz
 (repeat' (first|((first|refine wx1 ?_|refine wx2 ?_ ?_<;>intro hp|refine s_end hk ?_)<;>(clear hk a;intro a hk))|((first|refine wx3 ?_;intro w b|refine wx4 ?_;intro w|refine wx5 ?_;intro w v);clear hk hS a;intro hS a hk)|refine wx0 ?_|fail))
 replace hk := Kn.kp [2, 3, 6, 9, 10, 175, 176, 177] hk
 rw [show ok0 = (ok0 && !((seen.take 0).any (fun y => decide (y = what)))) by simp] at hk
 refine wp_for seen.length (fun i _ => [(10, .bool (ok0 && !((seen.take i).any (fun y => decide (y = what))))), (177, .int .i64 (i : Int))]) (fun _ _ => pts b6 nd0 42 :: pts b3 (ndC k' tag' key' hc' ha' hs' (e', lv', mo', d', p', q') hh) 42 :: OwT 9 cl' hc'.v :: OwT 109 al' ha'.v :: OwT 135 sl' hs'.v :: OwT 9 seen vs :: L) (fun _ _ => True) () hk skx hS.sb trivial ?_
 clear hk hS a
 rintro i - a w hi hk hS -
 by_cases hil : i < seen.length
 ·obtain ⟨y, hy⟩ : ∃ y, seen[i]? = some y := ⟨_, List.getElem?_eq_getElem hil⟩
  by_cases hyw : y = what
  ·have hst : (ok0 && !((seen.take (i + 1)).any (fun y => decide (y = what)))) = false := by rw [take_snoc hy, List.any_append];simp [hyw]
   (repeat' (first|((first|refine wx1 ?_|refine wx2 ?_ ?_<;>intro hp|refine s_end hk ?_)<;>(clear hk a;intro a hk))|((first|refine wx3 ?_;intro w b|refine wx4 ?_;intro w|refine wx5 ?_;intro w v);clear hk hS a;intro hS a hk)|refine wx0 ?_|fail))
   rw [← hst] at hk
   exact ⟨hil, (), hk.sd, hS.sb, trivial⟩
  ·have hst : (ok0 && !((seen.take (i + 1)).any (fun y => decide (y = what)))) = (ok0 && !((seen.take i).any (fun y => decide (y = what)))) := by rw [take_snoc hy, List.any_append];simp [hyw]
   (repeat' (first|((first|refine wx1 ?_|refine wx2 ?_ ?_<;>intro hp|refine s_end hk ?_)<;>(clear hk a;intro a hk))|((first|refine wx3 ?_;intro w b|refine wx4 ?_;intro w|refine wx5 ?_;intro w v);clear hk hS a;intro hS a hk)|refine wx0 ?_|fail))
   rw [← hst] at hk
   exact ⟨hil, (), hk.sd, hS.sb, trivial⟩
 ·have hie : i = seen.length := by omega
  subst hie
  rw [List.take_length] at hk
  generalize (ok0 && !(seen.any (fun y => decide (y = what)))) = ok at *
  (repeat' (first|((first|refine wx1 ?_|refine wx2 ?_ ?_<;>intro hp|refine s_end hk ?_)<;>(clear hk a;intro a hk))|((first|refine wx3 ?_;intro w b|refine wx4 ?_;intro w|refine wx5 ?_;intro w v);clear hk hS a;intro hS a hk)|refine wx0 ?_|fail))
  refine wp_drawnU1 10 mixed (by kernel_rfl) hk hS ?_;clear hk hS a
  (repeat' (first|(show ObxE _ _ _ _ _ _ _ _ _ (_::_) _ _ _;first|refine ox1 ?_|refine ox2 ?_ ?_<;>intro hp)|fail))
  refine' obe_res (fun us a w hk hd hS => ?_) ?_;rotate_left;focus (have hk := Kn.vw hk vwx;exact v_bs0 (hT := eT rfl) (hE := zT rfl))
  (repeat' (first|(show ObxE _ _ _ _ _ _ _ _ _ (_::_) _ _ _;first|refine ox1 ?_|refine ox2 ?_ ?_<;>intro hp)|fail))
  refine' obe_lnd 6 (p := fun _ => True) (V := appH 9 seen) (fun us a w hk hd hS => ?_) ?_
  ·have hk := Kn.vw hk vwx
   exact (v_appR (ys := seen) hk hd.1 (hT := eT rfl) (hTx := eT rfl) (hE := zT rfl) (hz := oT rfl) (hzs := rfl) (hs := (by first | exact St.rdT hS (by assumption) | exact OwT.rd (hS.rd (A := OwT _ _ _) atx) | assumption)) (hby := bT rfl) (hbytes := by omega) (h63 := by simp only [maxLen];omega)).mono (fun _ _ h => St.tru h)
  (repeat' (first|(show ObxE _ _ _ _ _ _ _ _ _ (_::_) _ _ _;first|refine ox1 ?_|refine ox2 ?_ ?_<;>intro hp)|fail))
  refine' obe_res (fun us a w hk hd hS => ?_) ?_;rotate_left;focus (have hk := Kn.vw hk vwx;exact v_bsT (xs := [what]) (m := 0) hk (hT := eT rfl) (hE := zT rfl) (hz := oT rfl))
  refine' obe_tak 188 3 (V := appH 9 (seen ++ [what])) (fun us a w X hk hd hS hL => ?_) ?_
  ·have hk := Kn.vw hk vwx
   exact v_app2 hk hS (hT := eT rfl) (hTx := eT rfl) (hE := zT rfl) (hz := oT rfl) (hzs := rfl) (hs := OwT.rd hd.2.1) (hby := bT rfl) (hbytes := by simp only [List.length_cons, List.length_nil];omega) (h63 := by simp only [List.length_cons, List.length_nil, maxLen];omega)
  (repeat' (first|(show ObxE _ _ _ _ _ _ _ _ _ (_::_) _ _ _;first|refine ox1 ?_|refine ox2 ?_ ?_<;>intro hp)|fail))
  refine' obe_upd (pts b6 nd0 42) (V := fun _ => pts b6 (ndC k' tag' key' hc' ha' hs' (e', lv', mo', d', p', q') hh) 42) (fun us a w X hk hd hS hL => ?_) ?_
  ·(have hk := Kn.vw hk vwx;exact g_store hk hS (fun _ h => h) (hsz := zT rfl))
  refine' obe_cpy 191 6 (fun us a w hk hd hS => ?_) ?_;focus (have hk := Kn.vw hk vwx;first | exact g_assign hk (same _ _) | exact g_move hk (same _ _))
  refine obe_nil ⟨rfl, ?_⟩;intro us a w hk hS
  simp only [resE, List.cons_append, List.nil_append, Nat.zero_add, Nat.reduceAdd] at hS
  replace hk := Kn.kp [3, 6, 7, 192] hk
  simp only [HV.of, Nat.zero_add, Nat.reduceAdd] at hk
  rename Nat → Value => us
  generalize us 6 = v191 at hS hk
  rw [appH_ne] at hS
  (repeat' (first|((first|refine wx1 ?_|refine wx2 ?_ ?_<;>intro hp|refine s_end hk ?_)<;>(clear hk a;intro a hk))|((first|refine wx3 ?_;intro w b|refine wx4 ?_;intro w|refine wx5 ?_;intro w v);clear hk hS a;intro hS a hk)|refine wx0 ?_|fail))
  refine done3R hk rfl (.str hS (hT := aT rfl) (hs := zT rfl)) (.tmp rfl) (.tmp rfl) (h := ?_)
  rw [hI]
  cases ok with
  | false => exact ⟨⟨k', tag', key', cl', al', sl', (e', lv', mo', d', p', q')⟩, hc', ha', hs', v191, rfl, hS.sub sbx⟩
  | true => exact ⟨hc', ha', hs', v191, rfl, hS.sub (.cons atx (.cons atx (.cons atx (.cons atx sbx))))⟩
end
end Go.Proofs.YtnjmonkehjlaoaaGreatDoor
