/- Layer 8: the program's reader: an option. Layer 8: the program's reader: a word of an element's. Layer 2: of digits the number, by the reference. A region that draws its order, by hand: an operation that only gives a value may be taken first. -/
import Derived.Test.YtnjmonkehjlaoaaGreatDoorG17
import Derived.Test.YtnjmonkehjlaoaaGreatDoorG12
import Derived.Test.YtnjmonkehjlaoaaGreatDoorG16
set_option linter.all false
namespace Go.Proofs.YtnjmonkehjlaoaaGreatDoor
open Go.RowKit
set_option maxRecDepth 100000
attribute [local irreducible] Go.Code.wpIn Go.wpListIn Go.Calls Gives Go.Exit.then Go.Exit.inBlock Done ObxE
abbrev ndC (k : Int) (tag key : ByteArray) (hc ha hs : Hd) (o : Opt) (hk : Hd) : List Value := [.int .i64 k, .string tag, .string key, .string ⟨#[]⟩, hc.v, ha.v, hs.v, .int .i64 o.1, .int .i64 o.2.1, .int .i64 o.2.2.1, .int .i64 o.2.2.2.1, .bool o.2.2.2.2.1, .bool o.2.2.2.2.2, hk.v]
section
variable {B : Bs} {L : List HP} {w : World}
set_option maxHeartbeats 4000000 in
theorem option_any (bn : Nat) (k : Int) (tag key : ByteArray) (hc ha hs hh : Hd) (o : Opt) (r : ByteArray) (M : List ByteArray) (vm : Value) (hr : r.size ≤ 1000000) (hS : St B (pts bn (ndC k tag key hc ha hs o hh) 31 :: mapH encT vm (seenM M) :: L) w) :
  Calls Tryz.prog 114 #[.pointer (some ⟨bn, 0, none⟩), .string r, vm] w (Ret fun v w' => match onceP M (optP k o r) with
   | none => v = .bool false ∧ St B L w'
   | some (x, M') => v = .bool true ∧ St B (pts bn (ndC x.1 tag key hc ha hs x.2 hh) 31 :: mapH encT vm (seenM M') :: L) w') := by
 obtain ⟨e, lv, m, d, p, q⟩ := o
 obtain ⟨hl1, hl2⟩ := cut_le 61 r
 have hopt : optP k (e, lv, m, d, p, q) r = optP k (e, lv, m, d, p, q) r := rfl
 conv at hopt => rhs;unfold optP
 refine enter Tryz.func114 rfl Tryz.ntmps114 rfl (fun a hk => ?_)
 (repeat' (first|((first|refine wx1 ?_|refine wx2 ?_ ?_<;>intro hp|refine s_end hk ?_)<;>(clear hk a;intro a hk))|((first|refine wx3 ?_;intro w b|refine wx4 ?_;intro w|refine wx5 ?_;intro w v);clear hk hS a;intro hS a hk)|refine wx0 ?_|fail))
 refine sg hk (g_callO hk (hf := by kernel_rfl) (hc := scut_any r 61 (by omega) _) (h := ?_));clear hk a;rintro _ w ⟨rfl, hS1⟩ a hk;replace hS := hS.call0 hS1;clear hS1
 generalize optP k (e, lv, m, d, p, q) r = res at *
 generalize (cutR 61 r).2.2 = is at *
 generalize (cutR 61 r).2.1 = va at *
 generalize (cutR 61 r).1 = nm at *
 cases is with
 | true =>
  rw [if_pos rfl] at hopt
  (repeat' (first|((first|refine wx1 ?_|refine wx2 ?_ ?_<;>intro hp|refine s_end hk ?_)<;>(clear hk a;intro a hk))|((first|refine wx3 ?_;intro w b|refine wx4 ?_;intro w|refine wx5 ?_;intro w v);clear hk hS a;intro hS a hk)|refine wx0 ?_|fail))
  refine sg hk (g_callO hk (hf := by kernel_rfl) (hc := number_any va (by omega) _) (h := ?_));clear hk a;rintro _ w ⟨rfl, hS1⟩ a hk;replace hS := hS.call0 hS1;clear hS1
  generalize (numP va.data.toList).1 = x at *
  generalize (numP va.data.toList).2 = ok at *
  by_cases h1 : nm = kEnter
  ·rw [if_pos h1] at hopt
   cases ok with
   | false =>
    rw [if_neg (by decide)] at hopt
    subst hopt
    (repeat' (first|((first|refine wx1 ?_|refine wx2 ?_ ?_<;>intro hp|refine s_end hk ?_)<;>(clear hk a;intro a hk))|((first|refine wx3 ?_;intro w b|refine wx4 ?_;intro w|refine wx5 ?_;intro w v);clear hk hS a;intro hS a hk)|refine wx0 ?_|fail))
    exact done1 hk (h := ⟨rfl, hS.sub sbx⟩)
   | true =>
    rw [if_pos rfl] at hopt
    subst hopt
    (repeat' (first|((first|refine wx1 ?_|refine wx2 ?_ ?_<;>intro hp|refine s_end hk ?_)<;>(clear hk a;intro a hk))|((first|refine wx3 ?_;intro w b|refine wx4 ?_;intro w|refine wx5 ?_;intro w v);clear hk hS a;intro hS a hk)|refine wx0 ?_|fail))
    refine sg hk (g_callO hk (hf := by kernel_rfl) (hc := once_any (l := M) (hS.sub (.cons atx .refl))) (h := ?_));clear hk hS a;intro vr w hS a hk
    obtain ⟨ok', rfl, ⟨rfl, hm, hS⟩ | ⟨rfl, hm, hS⟩⟩ := hS
    ·(repeat' (first|((first|refine wx1 ?_|refine wx2 ?_ ?_<;>intro hp|refine s_end hk ?_)<;>(clear hk a;intro a hk))|((first|refine wx3 ?_;intro w b|refine wx4 ?_;intro w|refine wx5 ?_;intro w v);clear hk hS a;intro hS a hk)|refine wx0 ?_|fail))
     rw [h1] at hm hS
     rw [once_out hm]
     exact done1 hk (h := ⟨rfl, hS.sub (.cons atx (.cons atx .refl))⟩)
    ·(repeat' (first|((first|refine wx1 ?_|refine wx2 ?_ ?_<;>intro hp|refine s_end hk ?_)<;>(clear hk a;intro a hk))|((first|refine wx3 ?_;intro w b|refine wx4 ?_;intro w|refine wx5 ?_;intro w v);clear hk hS a;intro hS a hk)|refine wx0 ?_|fail))
     rw [h1] at hm
     rw [once_in hm]
     exact done1 hk (h := ⟨rfl, hS.sub sbx⟩)
  ·rw [if_neg h1] at hopt
   by_cases h2 : nm = kLeave
   ·rw [if_pos h2] at hopt
    cases ok with
    | false =>
     rw [if_neg (by decide)] at hopt
     subst hopt
     (repeat' (first|((first|refine wx1 ?_|refine wx2 ?_ ?_<;>intro hp|refine s_end hk ?_)<;>(clear hk a;intro a hk))|((first|refine wx3 ?_;intro w b|refine wx4 ?_;intro w|refine wx5 ?_;intro w v);clear hk hS a;intro hS a hk)|refine wx0 ?_|fail))
     exact done1 hk (h := ⟨rfl, hS.sub sbx⟩)
    | true =>
     rw [if_pos rfl] at hopt
     subst hopt
     (repeat' (first|((first|refine wx1 ?_|refine wx2 ?_ ?_<;>intro hp|refine s_end hk ?_)<;>(clear hk a;intro a hk))|((first|refine wx3 ?_;intro w b|refine wx4 ?_;intro w|refine wx5 ?_;intro w v);clear hk hS a;intro hS a hk)|refine wx0 ?_|fail))
     refine sg hk (g_callO hk (hf := by kernel_rfl) (hc := once_any (l := M) (hS.sub (.cons atx .refl))) (h := ?_));clear hk hS a;intro vr w hS a hk
     obtain ⟨ok', rfl, ⟨rfl, hm, hS⟩ | ⟨rfl, hm, hS⟩⟩ := hS
     ·(repeat' (first|((first|refine wx1 ?_|refine wx2 ?_ ?_<;>intro hp|refine s_end hk ?_)<;>(clear hk a;intro a hk))|((first|refine wx3 ?_;intro w b|refine wx4 ?_;intro w|refine wx5 ?_;intro w v);clear hk hS a;intro hS a hk)|refine wx0 ?_|fail))
      rw [h2] at hm hS
      rw [once_out hm]
      exact done1 hk (h := ⟨rfl, hS.sub (.cons atx (.cons atx .refl))⟩)
     ·(repeat' (first|((first|refine wx1 ?_|refine wx2 ?_ ?_<;>intro hp|refine s_end hk ?_)<;>(clear hk a;intro a hk))|((first|refine wx3 ?_;intro w b|refine wx4 ?_;intro w|refine wx5 ?_;intro w v);clear hk hS a;intro hS a hk)|refine wx0 ?_|fail))
      rw [h2] at hm
      rw [once_in hm]
      exact done1 hk (h := ⟨rfl, hS.sub sbx⟩)
   ·rw [if_neg h2] at hopt
    by_cases h3 : nm = kMove
    ·rw [if_pos h3] at hopt
     cases ok with
     | false =>
      rw [if_neg (by decide)] at hopt
      subst hopt
      (repeat' (first|((first|refine wx1 ?_|refine wx2 ?_ ?_<;>intro hp|refine s_end hk ?_)<;>(clear hk a;intro a hk))|((first|refine wx3 ?_;intro w b|refine wx4 ?_;intro w|refine wx5 ?_;intro w v);clear hk hS a;intro hS a hk)|refine wx0 ?_|fail))
      exact done1 hk (h := ⟨rfl, hS.sub sbx⟩)
     | true =>
      rw [if_pos rfl] at hopt
      subst hopt
      (repeat' (first|((first|refine wx1 ?_|refine wx2 ?_ ?_<;>intro hp|refine s_end hk ?_)<;>(clear hk a;intro a hk))|((first|refine wx3 ?_;intro w b|refine wx4 ?_;intro w|refine wx5 ?_;intro w v);clear hk hS a;intro hS a hk)|refine wx0 ?_|fail))
      refine sg hk (g_callO hk (hf := by kernel_rfl) (hc := once_any (l := M) (hS.sub (.cons atx .refl))) (h := ?_));clear hk hS a;intro vr w hS a hk
      obtain ⟨ok', rfl, ⟨rfl, hm, hS⟩ | ⟨rfl, hm, hS⟩⟩ := hS
      ·(repeat' (first|((first|refine wx1 ?_|refine wx2 ?_ ?_<;>intro hp|refine s_end hk ?_)<;>(clear hk a;intro a hk))|((first|refine wx3 ?_;intro w b|refine wx4 ?_;intro w|refine wx5 ?_;intro w v);clear hk hS a;intro hS a hk)|refine wx0 ?_|fail))
       rw [h3] at hm hS
       rw [once_out hm]
       exact done1 hk (h := ⟨rfl, hS.sub (.cons atx (.cons atx .refl))⟩)
      ·(repeat' (first|((first|refine wx1 ?_|refine wx2 ?_ ?_<;>intro hp|refine s_end hk ?_)<;>(clear hk a;intro a hk))|((first|refine wx3 ?_;intro w b|refine wx4 ?_;intro w|refine wx5 ?_;intro w v);clear hk hS a;intro hS a hk)|refine wx0 ?_|fail))
       rw [h3] at hm
       rw [once_in hm]
       exact done1 hk (h := ⟨rfl, hS.sub sbx⟩)
    ·rw [if_neg h3] at hopt
     subst hopt
     (repeat' (first|((first|refine wx1 ?_|refine wx2 ?_ ?_<;>intro hp|refine s_end hk ?_)<;>(clear hk a;intro a hk))|((first|refine wx3 ?_;intro w b|refine wx4 ?_;intro w|refine wx5 ?_;intro w v);clear hk hS a;intro hS a hk)|refine wx0 ?_|fail))
     exact done1 hk (h := ⟨rfl, hS.sub sbx⟩)
 | false =>
  rw [if_neg (by decide)] at hopt
  by_cases h1 : r = kGroup
  ·rw [if_pos h1] at hopt
   subst hopt
   (repeat' (first|((first|refine wx1 ?_|refine wx2 ?_ ?_<;>intro hp|refine s_end hk ?_)<;>(clear hk a;intro a hk))|((first|refine wx3 ?_;intro w b|refine wx4 ?_;intro w|refine wx5 ?_;intro w v);clear hk hS a;intro hS a hk)|refine wx0 ?_|fail))
   refine sg hk (g_callO hk (hf := by kernel_rfl) (hc := once_any (l := M) (hS.sub (.cons atx .refl))) (h := ?_));clear hk hS a;intro vr w hS a hk
   obtain ⟨ok', rfl, ⟨rfl, hm, hS⟩ | ⟨rfl, hm, hS⟩⟩ := hS
   ·(repeat' (first|((first|refine wx1 ?_|refine wx2 ?_ ?_<;>intro hp|refine s_end hk ?_)<;>(clear hk a;intro a hk))|((first|refine wx3 ?_;intro w b|refine wx4 ?_;intro w|refine wx5 ?_;intro w v);clear hk hS a;intro hS a hk)|refine wx0 ?_|fail))
    rw [once_out hm]
    exact done1 hk (h := ⟨rfl, hS.sub (.cons atx (.cons atx .refl))⟩)
   ·(repeat' (first|((first|refine wx1 ?_|refine wx2 ?_ ?_<;>intro hp|refine s_end hk ?_)<;>(clear hk a;intro a hk))|((first|refine wx3 ?_;intro w b|refine wx4 ?_;intro w|refine wx5 ?_;intro w v);clear hk hS a;intro hS a hk)|refine wx0 ?_|fail))
    rw [once_in hm]
    exact done1 hk (h := ⟨rfl, hS.sub sbx⟩)
  ·rw [if_neg h1] at hopt
   by_cases h2 : r = kSlot
   ·rw [if_pos h2] at hopt
    subst hopt
    (repeat' (first|((first|refine wx1 ?_|refine wx2 ?_ ?_<;>intro hp|refine s_end hk ?_)<;>(clear hk a;intro a hk))|((first|refine wx3 ?_;intro w b|refine wx4 ?_;intro w|refine wx5 ?_;intro w v);clear hk hS a;intro hS a hk)|refine wx0 ?_|fail))
    refine sg hk (g_callO hk (hf := by kernel_rfl) (hc := once_any (l := M) (hS.sub (.cons atx .refl))) (h := ?_));clear hk hS a;intro vr w hS a hk
    obtain ⟨ok', rfl, ⟨rfl, hm, hS⟩ | ⟨rfl, hm, hS⟩⟩ := hS
    ·(repeat' (first|((first|refine wx1 ?_|refine wx2 ?_ ?_<;>intro hp|refine s_end hk ?_)<;>(clear hk a;intro a hk))|((first|refine wx3 ?_;intro w b|refine wx4 ?_;intro w|refine wx5 ?_;intro w v);clear hk hS a;intro hS a hk)|refine wx0 ?_|fail))
     rw [once_out hm]
     exact done1 hk (h := ⟨rfl, hS.sub (.cons atx (.cons atx .refl))⟩)
    ·(repeat' (first|((first|refine wx1 ?_|refine wx2 ?_ ?_<;>intro hp|refine s_end hk ?_)<;>(clear hk a;intro a hk))|((first|refine wx3 ?_;intro w b|refine wx4 ?_;intro w|refine wx5 ?_;intro w v);clear hk hS a;intro hS a hk)|refine wx0 ?_|fail))
     rw [once_in hm]
     exact done1 hk (h := ⟨rfl, hS.sub sbx⟩)
   ·rw [if_neg h2] at hopt
    by_cases h3 : r = kAppear
    ·rw [if_pos h3] at hopt
     subst hopt
     (repeat' (first|((first|refine wx1 ?_|refine wx2 ?_ ?_<;>intro hp|refine s_end hk ?_)<;>(clear hk a;intro a hk))|((first|refine wx3 ?_;intro w b|refine wx4 ?_;intro w|refine wx5 ?_;intro w v);clear hk hS a;intro hS a hk)|refine wx0 ?_|fail))
     refine sg hk (g_callO hk (hf := by kernel_rfl) (hc := once_any (l := M) (hS.sub (.cons atx .refl))) (h := ?_));clear hk hS a;intro vr w hS a hk
     obtain ⟨ok', rfl, ⟨rfl, hm, hS⟩ | ⟨rfl, hm, hS⟩⟩ := hS
     ·(repeat' (first|((first|refine wx1 ?_|refine wx2 ?_ ?_<;>intro hp|refine s_end hk ?_)<;>(clear hk a;intro a hk))|((first|refine wx3 ?_;intro w b|refine wx4 ?_;intro w|refine wx5 ?_;intro w v);clear hk hS a;intro hS a hk)|refine wx0 ?_|fail))
      rw [h3] at hm hS
      rw [once_out hm]
      exact done1 hk (h := ⟨rfl, hS.sub (.cons atx (.cons atx .refl))⟩)
     ·(repeat' (first|((first|refine wx1 ?_|refine wx2 ?_ ?_<;>intro hp|refine s_end hk ?_)<;>(clear hk a;intro a hk))|((first|refine wx3 ?_;intro w b|refine wx4 ?_;intro w|refine wx5 ?_;intro w v);clear hk hS a;intro hS a hk)|refine wx0 ?_|fail))
      rw [h3] at hm
      rw [once_in hm]
      exact done1 hk (h := ⟨rfl, hS.sub sbx⟩)
    ·rw [if_neg h3] at hopt
     by_cases h4 : r = kMoves
     ·rw [if_pos h4] at hopt
      subst hopt
      (repeat' (first|((first|refine wx1 ?_|refine wx2 ?_ ?_<;>intro hp|refine s_end hk ?_)<;>(clear hk a;intro a hk))|((first|refine wx3 ?_;intro w b|refine wx4 ?_;intro w|refine wx5 ?_;intro w v);clear hk hS a;intro hS a hk)|refine wx0 ?_|fail))
      refine sg hk (g_callO hk (hf := by kernel_rfl) (hc := once_any (l := M) (hS.sub (.cons atx .refl))) (h := ?_));clear hk hS a;intro vr w hS a hk
      obtain ⟨ok', rfl, ⟨rfl, hm, hS⟩ | ⟨rfl, hm, hS⟩⟩ := hS
      ·(repeat' (first|((first|refine wx1 ?_|refine wx2 ?_ ?_<;>intro hp|refine s_end hk ?_)<;>(clear hk a;intro a hk))|((first|refine wx3 ?_;intro w b|refine wx4 ?_;intro w|refine wx5 ?_;intro w v);clear hk hS a;intro hS a hk)|refine wx0 ?_|fail))
       rw [h4] at hm hS
       rw [once_out hm]
       exact done1 hk (h := ⟨rfl, hS.sub (.cons atx (.cons atx .refl))⟩)
      ·(repeat' (first|((first|refine wx1 ?_|refine wx2 ?_ ?_<;>intro hp|refine s_end hk ?_)<;>(clear hk a;intro a hk))|((first|refine wx3 ?_;intro w b|refine wx4 ?_;intro w|refine wx5 ?_;intro w v);clear hk hS a;intro hS a hk)|refine wx0 ?_|fail))
       rw [h4] at hm
       rw [once_in hm]
       exact done1 hk (h := ⟨rfl, hS.sub sbx⟩)
     ·rw [if_neg h4] at hopt
      by_cases h5 : r = kOutIn
      ·rw [if_pos h5] at hopt
       subst hopt
       (repeat' (first|((first|refine wx1 ?_|refine wx2 ?_ ?_<;>intro hp|refine s_end hk ?_)<;>(clear hk a;intro a hk))|((first|refine wx3 ?_;intro w b|refine wx4 ?_;intro w|refine wx5 ?_;intro w v);clear hk hS a;intro hS a hk)|refine wx0 ?_|fail))
       refine sg hk (g_callO hk (hf := by kernel_rfl) (hc := once_any (l := M) (hS.sub (.cons atx .refl))) (h := ?_));clear hk hS a;intro vr w hS a hk
       obtain ⟨ok', rfl, ⟨rfl, hm, hS⟩ | ⟨rfl, hm, hS⟩⟩ := hS
       ·(repeat' (first|((first|refine wx1 ?_|refine wx2 ?_ ?_<;>intro hp|refine s_end hk ?_)<;>(clear hk a;intro a hk))|((first|refine wx3 ?_;intro w b|refine wx4 ?_;intro w|refine wx5 ?_;intro w v);clear hk hS a;intro hS a hk)|refine wx0 ?_|fail))
        rw [once_out hm]
        exact done1 hk (h := ⟨rfl, hS.sub (.cons atx (.cons atx .refl))⟩)
       ·(repeat' (first|((first|refine wx1 ?_|refine wx2 ?_ ?_<;>intro hp|refine s_end hk ?_)<;>(clear hk a;intro a hk))|((first|refine wx3 ?_;intro w b|refine wx4 ?_;intro w|refine wx5 ?_;intro w v);clear hk hS a;intro hS a hk)|refine wx0 ?_|fail))
        rw [once_in hm]
        exact done1 hk (h := ⟨rfl, hS.sub sbx⟩)
      ·rw [if_neg h5] at hopt
       by_cases h6 : r = kInOut
       ·rw [if_pos h6] at hopt
        subst hopt
        (repeat' (first|((first|refine wx1 ?_|refine wx2 ?_ ?_<;>intro hp|refine s_end hk ?_)<;>(clear hk a;intro a hk))|((first|refine wx3 ?_;intro w b|refine wx4 ?_;intro w|refine wx5 ?_;intro w v);clear hk hS a;intro hS a hk)|refine wx0 ?_|fail))
        refine sg hk (g_callO hk (hf := by kernel_rfl) (hc := once_any (l := M) (hS.sub (.cons atx .refl))) (h := ?_));clear hk hS a;intro vr w hS a hk
        obtain ⟨ok', rfl, ⟨rfl, hm, hS⟩ | ⟨rfl, hm, hS⟩⟩ := hS
        ·(repeat' (first|((first|refine wx1 ?_|refine wx2 ?_ ?_<;>intro hp|refine s_end hk ?_)<;>(clear hk a;intro a hk))|((first|refine wx3 ?_;intro w b|refine wx4 ?_;intro w|refine wx5 ?_;intro w v);clear hk hS a;intro hS a hk)|refine wx0 ?_|fail))
         rw [once_out hm]
         exact done1 hk (h := ⟨rfl, hS.sub (.cons atx (.cons atx .refl))⟩)
        ·(repeat' (first|((first|refine wx1 ?_|refine wx2 ?_ ?_<;>intro hp|refine s_end hk ?_)<;>(clear hk a;intro a hk))|((first|refine wx3 ?_;intro w b|refine wx4 ?_;intro w|refine wx5 ?_;intro w v);clear hk hS a;intro hS a hk)|refine wx0 ?_|fail))
         rw [once_in hm]
         exact done1 hk (h := ⟨rfl, hS.sub sbx⟩)
       ·rw [if_neg h6] at hopt
        subst hopt
        (repeat' (first|((first|refine wx1 ?_|refine wx2 ?_ ?_<;>intro hp|refine s_end hk ?_)<;>(clear hk a;intro a hk))|((first|refine wx3 ?_;intro w b|refine wx4 ?_;intro w|refine wx5 ?_;intro w v);clear hk hS a;intro hS a hk)|refine wx0 ?_|fail))
        exact done1 hk (h := ⟨rfl, hS.sub sbx⟩)
end
end Go.Proofs.YtnjmonkehjlaoaaGreatDoor
namespace Go.Proofs.YtnjmonkehjlaoaaGreatDoor
open Go.RowKit
set_option maxRecDepth 100000
attribute [local irreducible] Go.Code.wpIn Go.wpListIn Go.Calls Gives Go.Exit.then Go.Exit.inBlock Done ObxE
section
variable {n : Itm} {w : ByteArray} {M : List ByteArray}
theorem itm_hd (h : 0 < w.size) : ∃ r, w.data.toList = w[0] :: r := ⟨_, by have := drop_cons h; rwa [List.drop_zero] at this⟩
theorem itm35 (h : 0 < w.size) (hc : w[0].toNat = 35) : itmP n w M = onceP (α := Itm) M (if keyS (w.extract 1 w.size) = true then some ({ n with key := w.extract 1 w.size }, ⟨#[35]⟩) else none) := by
 obtain ⟨r, hr⟩ := itm_hd h
 unfold itmP;rw [hr];simp only [hc];rfl
theorem itm46 (h : 0 < w.size) (hc : w[0].toNat = 46) : itmP n w M = if nameS (w.extract 1 w.size) = true then some ({ n with cl := n.cl ++ [w.extract 1 w.size] }, M) else none := by
 obtain ⟨r, hr⟩ := itm_hd h
 unfold itmP;rw [hr];simp only [hc];rfl
theorem itm64 (h : 0 < w.size) (hc : w[0].toNat = 64) : itmP n w M = onceP (α := Itm) M (if (cutR 61 (w.extract 1 w.size)).2.2 = true ∧ nameS (cutR 61 (w.extract 1 w.size)).1 = true ∧ valS (cutR 61 (w.extract 1 w.size)).2.1 = true then some ({ n with al := n.al ++ [((cutR 61 (w.extract 1 w.size)).1, (cutR 61 (w.extract 1 w.size)).2.1)] }, ⟨#[64]⟩ ++ (cutR 61 (w.extract 1 w.size)).1) else none) := by
 obtain ⟨r, hr⟩ := itm_hd h
 unfold itmP;rw [hr];simp only [hc];rfl
theorem itm33 (h : 0 < w.size) (hc : w[0].toNat = 33) : itmP n w M = onceP (α := Itm) M ((optP n.k n.o (w.extract 1 w.size)).map fun x => ({ n with k := x.1.1, o := x.1.2 }, x.2)) := by
 obtain ⟨r, hr⟩ := itm_hd h
 unfold itmP;rw [hr];simp only [hc];rfl
theorem itmS (h : 0 < w.size) (h1 : w[0].toNat ≠ 35) (h2 : w[0].toNat ≠ 46) (h3 : w[0].toNat ≠ 64) (h4 : w[0].toNat ≠ 33) :
  itmP n w M = onceP (α := Itm) M (if (cutR 61 w).2.2 = true ∧ (numP (cutR 61 w).2.1.data.toList).2 = true ∧ nameS (cutR 61 w).1 = true then some ({ n with sl := n.sl ++ [((cutR 61 w).1, (numP (cutR 61 w).2.1.data.toList).1)] }, ⟨#[61]⟩ ++ (cutR 61 w).1) else none) := by
 obtain ⟨r, hr⟩ := itm_hd h
 unfold itmP;rw [hr];simp only [if_neg h1, if_neg h2, if_neg h3, if_neg h4]
theorem once_map {α β : Type} (f : α → β) (x : Option (α × ByteArray)) : onceP M (x.map fun y => (f y.1, y.2)) = (onceP M x).map fun y => (f y.1, y.2) := by
 cases x with
 | none => rfl
 | some y =>
  obtain ⟨a, k⟩ := y
  simp only [Option.map_some, onceP]
  by_cases h : (M.any fun y => decide (y = k)) = true
  ·rw [if_pos h, if_pos h];rfl
  ·rw [if_neg h, if_neg h];rfl
end
abbrev nodL (bn : Nat) (k : Int) (tag key : ByteArray) (cl : List ByteArray) (al : List PrS) (sl : List PrI) (o : Opt) (hc ha hs hh : Hd) (vm : Value) (M : List ByteArray) (L : List HP) : List HP :=
 pts bn (ndC k tag key hc ha hs o hh) 31 :: OwT 9 cl hc.v :: OwT 139 (snapF nmS al) ha.v :: OwT 140 (snapF nmI sl) hs.v :: mapH encT vm (seenM M) :: L
section
variable {B : Bs} {L : List HP} {w : World}
set_option maxHeartbeats 8000000 in
theorem item_any (bn : Nat) (k : Int) (tag key : ByteArray) (cl : List ByteArray) (al : List PrS) (sl : List PrI) (hc ha hs hh : Hd) (o : Opt) (x : ByteArray) (M : List ByteArray) (vm : Value) (h0 : 0 < x.size) (hx : x.size ≤ 1000000)
  (hcl : cl.length ≤ 30000) (hal : al.length ≤ 30000) (hsl : sl.length ≤ 30000) (hS : St B (nodL bn k tag key cl al sl o hc ha hs hh vm M L) w) :
  Calls Tryz.prog 76 #[.pointer (some ⟨bn, 0, none⟩), .string x, vm] w (Ret fun v w' => match itmP ⟨k, tag, key, cl, al, sl, o⟩ x M with
   | none => v = .bool false ∧ St B L w'
   | some (n, M') => ∃ hc' ha' hs', v = .bool true ∧ St B (nodL bn n.k n.tag n.key n.cl n.al n.sl n.o hc' ha' hs' hh vm M' L) w') := by
 have hrs : (x.extract 1 x.size).size ≤ x.size := by rw [ByteArray.size_extract];omega
 have ha0 := snap_len nmS al
 have hs0 := snap_len nmI sl
 have h1 : ((1 : Int)).toNat = 1 := rfl
 refine enter Tryz.func76 rfl Tryz.ntmps76 rfl (fun a hk => ?_)
 by_cases c35 : x[0].toNat = 35
 ·rw [itm35 h0 c35]
  (repeat' (first|((first|refine wx1 ?_|refine wx2 ?_ ?_<;>intro hp|refine s_end hk ?_)<;>(clear hk a;intro a hk))|((first|refine wx3 ?_;intro w b|refine wx4 ?_;intro w|refine wx5 ?_;intro w v);clear hk hS a;intro hS a hk)|refine wx0 ?_|fail))
  simp only [h1] at hk;try simp only [h1] at hS
  generalize x.extract 1 x.size = r at *
  refine sg hk (g_callO hk (hf := by kernel_rfl) (hc := key_any r (by omega) _) (h := ?_));clear hk a;rintro _ w ⟨rfl, hS1⟩ a hk;replace hS := hS.call0 hS1;clear hS1
  cases hb : keyS r with
  | false =>
   rw [hb] at hk
   rw [if_neg (by decide)]
   (repeat' (first|((first|refine wx1 ?_|refine wx2 ?_ ?_<;>intro hp|refine s_end hk ?_)<;>(clear hk a;intro a hk))|((first|refine wx3 ?_;intro w b|refine wx4 ?_;intro w|refine wx5 ?_;intro w v);clear hk hS a;intro hS a hk)|refine wx0 ?_|fail))
   exact done1 hk (h := ⟨rfl, hS.sub sbx⟩)
  | true =>
   rw [hb] at hk
   rw [if_pos rfl]
   (repeat' (first|((first|refine wx1 ?_|refine wx2 ?_ ?_<;>intro hp|refine s_end hk ?_)<;>(clear hk a;intro a hk))|((first|refine wx3 ?_;intro w b|refine wx4 ?_;intro w|refine wx5 ?_;intro w v);clear hk hS a;intro hS a hk)|refine wx0 ?_|fail))
   refine sg hk (g_callO hk (hf := by kernel_rfl) (hc := once_any (l := M) (hS.sub (.cons atx .refl))) (h := ?_));clear hk hS a;intro vr w hS a hk
   obtain ⟨ok', rfl, ⟨rfl, hm, hS⟩ | ⟨rfl, hm, hS⟩⟩ := hS
   ·(repeat' (first|((first|refine wx1 ?_|refine wx2 ?_ ?_<;>intro hp|refine s_end hk ?_)<;>(clear hk a;intro a hk))|((first|refine wx3 ?_;intro w b|refine wx4 ?_;intro w|refine wx5 ?_;intro w v);clear hk hS a;intro hS a hk)|refine wx0 ?_|fail))
    rw [once_out hm]
    exact done1 hk (h := ⟨hc, ha, hs, rfl, hS.sub (.cons atx (.cons atx (.cons atx (.cons atx (.cons atx sbx)))))⟩)
   ·(repeat' (first|((first|refine wx1 ?_|refine wx2 ?_ ?_<;>intro hp|refine s_end hk ?_)<;>(clear hk a;intro a hk))|((first|refine wx3 ?_;intro w b|refine wx4 ?_;intro w|refine wx5 ?_;intro w v);clear hk hS a;intro hS a hk)|refine wx0 ?_|fail))
    rw [once_in hm]
    exact done1 hk (h := ⟨rfl, hS.sub sbx⟩)
 ·by_cases c46 : x[0].toNat = 46
  ·rw [itm46 h0 c46]
   (repeat' (first|((first|refine wx1 ?_|refine wx2 ?_ ?_<;>intro hp|refine s_end hk ?_)<;>(clear hk a;intro a hk))|((first|refine wx3 ?_;intro w b|refine wx4 ?_;intro w|refine wx5 ?_;intro w v);clear hk hS a;intro hS a hk)|refine wx0 ?_|fail))
   simp only [h1] at hk;try simp only [h1] at hS
   generalize x.extract 1 x.size = r at *
   rename Value => vn
   obtain ⟨aovn, cvn, hshp, _⟩ := (OwT.rd (hS.rd (A := OwT 9 _ vn) atx)).shape;subst hshp
   (repeat' (first|((first|refine wx1 ?_|refine wx2 ?_ ?_<;>intro hp|refine s_end hk ?_)<;>(clear hk a;intro a hk))|((first|refine wx3 ?_;intro w b|refine wx4 ?_;intro w|refine wx5 ?_;intro w v);clear hk hS a;intro hS a hk)|refine wx0 ?_|fail))
   refine sg hk (g_callO hk (hf := by kernel_rfl) (hc := name_any r (by omega) _) (h := ?_));clear hk a;rintro _ w ⟨rfl, hS1⟩ a hk;replace hS := hS.call0 hS1;clear hS1
   cases hb : nameS r with
   | false =>
    rw [hb] at hk
    rw [if_neg (by decide)]
    (repeat' (first|((first|refine wx1 ?_|refine wx2 ?_ ?_<;>intro hp|refine s_end hk ?_)<;>(clear hk a;intro a hk))|((first|refine wx3 ?_;intro w b|refine wx4 ?_;intro w|refine wx5 ?_;intro w v);clear hk hS a;intro hS a hk)|refine wx0 ?_|fail))
    exact done1 hk (h := ⟨rfl, hS.sub sbx⟩)
   | true =>
    rw [hb] at hk
    rw [if_pos rfl]
    (repeat' (first|((first|refine wx1 ?_|refine wx2 ?_ ?_<;>intro hp|refine s_end hk ?_)<;>(clear hk a;intro a hk))|((first|refine wx3 ?_;intro w b|refine wx4 ?_;intro w|refine wx5 ?_;intro w v);clear hk hS a;intro hS a hk)|refine wx0 ?_|fail))
    exact done1 hk (h := ⟨⟨aovn, (cl ++ [r]).length, cvn⟩, ha, hs, rfl, hS.sub (.cons atx (.cons atx (.cons atx (.cons atx (.cons atx sbx)))))⟩)
  ·by_cases c64 : x[0].toNat = 64
   ·rw [itm64 h0 c64]
    (repeat' (first|((first|refine wx1 ?_|refine wx2 ?_ ?_<;>intro hp|refine s_end hk ?_)<;>(clear hk a;intro a hk))|((first|refine wx3 ?_;intro w b|refine wx4 ?_;intro w|refine wx5 ?_;intro w v);clear hk hS a;intro hS a hk)|refine wx0 ?_|fail))
    simp only [h1] at hk;try simp only [h1] at hS
    generalize x.extract 1 x.size = r at *
    obtain ⟨hl1, hl2⟩ := cut_le 61 r
    refine sg hk (g_callO hk (hf := by kernel_rfl) (hc := scut_any r 61 (by omega) _) (h := ?_));clear hk a;rintro _ w ⟨rfl, hS1⟩ a hk;replace hS := hS.call0 hS1;clear hS1
    generalize (cutR 61 r).2.2 = is at *
    generalize (cutR 61 r).2.1 = va at *
    generalize (cutR 61 r).1 = nm at *
    (repeat' (first|((first|refine wx1 ?_|refine wx2 ?_ ?_<;>intro hp|refine s_end hk ?_)<;>(clear hk a;intro a hk))|((first|refine wx3 ?_;intro w b|refine wx4 ?_;intro w|refine wx5 ?_;intro w v);clear hk hS a;intro hS a hk)|refine wx0 ?_|fail))
    refine sg hk (g_callO hk (hf := by kernel_rfl) (hc := setS_any (snapF nmS al) nm va ha.v _ (by first | exact St.rdT hS (by assumption) | exact OwT.rd (hS.rd (A := OwT _ _ _) atx) | assumption) (by omega)) (h := ?_));clear hk a;rintro vp w hS1 a hk;replace hS := hS.call hS1;clear hS1
    rw [List.cons_append, List.nil_append, snap_snap, ← snap_snoc] at hS
    obtain ⟨aovp, cvp, hshp, _⟩ := (OwT.rd (hS.rd (A := OwT 139 _ vp) atx)).shape;subst hshp
    (repeat' (first|((first|refine wx1 ?_|refine wx2 ?_ ?_<;>intro hp|refine s_end hk ?_)<;>(clear hk a;intro a hk))|((first|refine wx3 ?_;intro w b|refine wx4 ?_;intro w|refine wx5 ?_;intro w v);clear hk hS a;intro hS a hk)|refine wx0 ?_|fail))
    cases is with
    | false =>
     rw [if_neg (by rintro ⟨h, -⟩;cases h)]
     (repeat' (first|((first|refine wx1 ?_|refine wx2 ?_ ?_<;>intro hp|refine s_end hk ?_)<;>(clear hk a;intro a hk))|((first|refine wx3 ?_;intro w b|refine wx4 ?_;intro w|refine wx5 ?_;intro w v);clear hk hS a;intro hS a hk)|refine wx0 ?_|fail))
     exact done1 hk (h := ⟨rfl, hS.sub sbx⟩)
    | true =>
     (repeat' (first|((first|refine wx1 ?_|refine wx2 ?_ ?_<;>intro hp|refine s_end hk ?_)<;>(clear hk a;intro a hk))|((first|refine wx3 ?_;intro w b|refine wx4 ?_;intro w|refine wx5 ?_;intro w v);clear hk hS a;intro hS a hk)|refine wx0 ?_|fail))
     refine sg hk (g_callO hk (hf := by kernel_rfl) (hc := name_any nm (by omega) _) (h := ?_));clear hk a;rintro _ w ⟨rfl, hS1⟩ a hk;replace hS := hS.call0 hS1;clear hS1
     cases hb : nameS nm with
     | false =>
      rw [hb] at hk
      rw [if_neg (by rintro ⟨-, h, -⟩;cases h)]
      (repeat' (first|((first|refine wx1 ?_|refine wx2 ?_ ?_<;>intro hp|refine s_end hk ?_)<;>(clear hk a;intro a hk))|((first|refine wx3 ?_;intro w b|refine wx4 ?_;intro w|refine wx5 ?_;intro w v);clear hk hS a;intro hS a hk)|refine wx0 ?_|fail))
      exact done1 hk (h := ⟨rfl, hS.sub sbx⟩)
     | true =>
      rw [hb] at hk
      (repeat' (first|((first|refine wx1 ?_|refine wx2 ?_ ?_<;>intro hp|refine s_end hk ?_)<;>(clear hk a;intro a hk))|((first|refine wx3 ?_;intro w b|refine wx4 ?_;intro w|refine wx5 ?_;intro w v);clear hk hS a;intro hS a hk)|refine wx0 ?_|fail))
      refine sg hk (g_callO hk (hf := by kernel_rfl) (hc := value_any va (by omega) _) (h := ?_));clear hk a;rintro _ w ⟨rfl, hS1⟩ a hk;replace hS := hS.call0 hS1;clear hS1
      cases hv : valS va with
      | false =>
       rw [hv] at hk
       rw [if_neg (by rintro ⟨-, -, h⟩;cases h)]
       (repeat' (first|((first|refine wx1 ?_|refine wx2 ?_ ?_<;>intro hp|refine s_end hk ?_)<;>(clear hk a;intro a hk))|((first|refine wx3 ?_;intro w b|refine wx4 ?_;intro w|refine wx5 ?_;intro w v);clear hk hS a;intro hS a hk)|refine wx0 ?_|fail))
       exact done1 hk (h := ⟨rfl, hS.sub sbx⟩)
      | true =>
       rw [hv] at hk
       rw [if_pos ⟨rfl, rfl, rfl⟩]
       (repeat' (first|((first|refine wx1 ?_|refine wx2 ?_ ?_<;>intro hp|refine s_end hk ?_)<;>(clear hk a;intro a hk))|((first|refine wx3 ?_;intro w b|refine wx4 ?_;intro w|refine wx5 ?_;intro w v);clear hk hS a;intro hS a hk)|refine wx0 ?_|fail))
       refine sg hk (g_cat hk ?_ (hl := by have : (⟨#[64]⟩ : ByteArray).size = 1 := rfl;simp only [maxLen];omega));clear hk a;intro a hk
       (repeat' (first|((first|refine wx1 ?_|refine wx2 ?_ ?_<;>intro hp|refine s_end hk ?_)<;>(clear hk a;intro a hk))|((first|refine wx3 ?_;intro w b|refine wx4 ?_;intro w|refine wx5 ?_;intro w v);clear hk hS a;intro hS a hk)|refine wx0 ?_|fail))
       refine sg hk (g_callO hk (hf := by kernel_rfl) (hc := once_any (l := M) (hS.sub (.cons atx .refl))) (h := ?_));clear hk hS a;intro vr w hS a hk
       obtain ⟨ok', rfl, ⟨rfl, hm, hS⟩ | ⟨rfl, hm, hS⟩⟩ := hS
       ·(repeat' (first|((first|refine wx1 ?_|refine wx2 ?_ ?_<;>intro hp|refine s_end hk ?_)<;>(clear hk a;intro a hk))|((first|refine wx3 ?_;intro w b|refine wx4 ?_;intro w|refine wx5 ?_;intro w v);clear hk hS a;intro hS a hk)|refine wx0 ?_|fail))
        rw [once_out hm]
        exact done1 hk (h := ⟨hc, ⟨aovp, (snapF nmS (al ++ [(nm, va)])).length, cvp⟩, hs, rfl, hS.sub (.cons atx (.cons atx (.cons atx (.cons atx (.cons atx sbx)))))⟩)
       ·(repeat' (first|((first|refine wx1 ?_|refine wx2 ?_ ?_<;>intro hp|refine s_end hk ?_)<;>(clear hk a;intro a hk))|((first|refine wx3 ?_;intro w b|refine wx4 ?_;intro w|refine wx5 ?_;intro w v);clear hk hS a;intro hS a hk)|refine wx0 ?_|fail))
        rw [once_in hm]
        exact done1 hk (h := ⟨rfl, hS.sub sbx⟩)
   ·by_cases c33 : x[0].toNat = 33
    ·rw [itm33 h0 c33, once_map (fun y : Int × Opt => ({ k := y.1, tag := tag, key := key, cl := cl, al := al, sl := sl, o := y.2 } : Itm))]
     (repeat' (first|((first|refine wx1 ?_|refine wx2 ?_ ?_<;>intro hp|refine s_end hk ?_)<;>(clear hk a;intro a hk))|((first|refine wx3 ?_;intro w b|refine wx4 ?_;intro w|refine wx5 ?_;intro w v);clear hk hS a;intro hS a hk)|refine wx0 ?_|fail))
     simp only [h1] at hk;try simp only [h1] at hS
     generalize x.extract 1 x.size = r at *
     refine sg hk (g_callO hk (hf := by kernel_rfl) (hc := option_any bn k tag key hc ha hs hh o r M vm (by omega) (hS.sub (.cons atx (.cons atx .refl)))) (h := ?_));clear hk hS a;intro vr w hS a hk
     cases hop : onceP M (optP k o r) with
     | none =>
      rw [hop] at hS
      obtain ⟨rfl, hS⟩ := hS
      (repeat' (first|((first|refine wx1 ?_|refine wx2 ?_ ?_<;>intro hp|refine s_end hk ?_)<;>(clear hk a;intro a hk))|((first|refine wx3 ?_;intro w b|refine wx4 ?_;intro w|refine wx5 ?_;intro w v);clear hk hS a;intro hS a hk)|refine wx0 ?_|fail))
      exact done1 hk (h := ⟨rfl, hS.sub sbx⟩)
     | some y =>
      obtain ⟨⟨k', o'⟩, M'⟩ := y
      rw [hop] at hS
      obtain ⟨rfl, hS⟩ := hS
      (repeat' (first|((first|refine wx1 ?_|refine wx2 ?_ ?_<;>intro hp|refine s_end hk ?_)<;>(clear hk a;intro a hk))|((first|refine wx3 ?_;intro w b|refine wx4 ?_;intro w|refine wx5 ?_;intro w v);clear hk hS a;intro hS a hk)|refine wx0 ?_|fail))
      exact done1 hk (h := ⟨hc, ha, hs, rfl, hS.sub (.cons atx (.cons atx (.cons atx (.cons atx (.cons atx sbx)))))⟩)
    ·rw [itmS h0 c35 c46 c64 c33]
     obtain ⟨hl1, hl2⟩ := cut_le 61 x
     (repeat' (first|((first|refine wx1 ?_|refine wx2 ?_ ?_<;>intro hp|refine s_end hk ?_)<;>(clear hk a;intro a hk))|((first|refine wx3 ?_;intro w b|refine wx4 ?_;intro w|refine wx5 ?_;intro w v);clear hk hS a;intro hS a hk)|refine wx0 ?_|fail))
     refine sg hk (g_callO hk (hf := by kernel_rfl) (hc := scut_any x 61 (by omega) _) (h := ?_));clear hk a;rintro _ w ⟨rfl, hS1⟩ a hk;replace hS := hS.call0 hS1;clear hS1
     generalize (cutR 61 x).2.2 = is at *
     generalize (cutR 61 x).2.1 = va at *
     generalize (cutR 61 x).1 = nm at *
     (repeat' (first|((first|refine wx1 ?_|refine wx2 ?_ ?_<;>intro hp|refine s_end hk ?_)<;>(clear hk a;intro a hk))|((first|refine wx3 ?_;intro w b|refine wx4 ?_;intro w|refine wx5 ?_;intro w v);clear hk hS a;intro hS a hk)|refine wx0 ?_|fail))
     refine sg hk (g_callO hk (hf := by kernel_rfl) (hc := number_any va (by omega) _) (h := ?_));clear hk a;rintro _ w ⟨rfl, hS1⟩ a hk;replace hS := hS.call0 hS1;clear hS1
     generalize (numP va.data.toList).1 = nu at *
     generalize (numP va.data.toList).2 = ok at *
     (repeat' (first|((first|refine wx1 ?_|refine wx2 ?_ ?_<;>intro hp|refine s_end hk ?_)<;>(clear hk a;intro a hk))|((first|refine wx3 ?_;intro w b|refine wx4 ?_;intro w|refine wx5 ?_;intro w v);clear hk hS a;intro hS a hk)|refine wx0 ?_|fail))
     refine sg hk (g_callO hk (hf := by kernel_rfl) (hc := setI_any (snapF nmI sl) nm nu hs.v _ (by first | exact St.rdT hS (by assumption) | exact OwT.rd (hS.rd (A := OwT _ _ _) atx) | assumption) (by omega)) (h := ?_));clear hk a;rintro vp w hS1 a hk;replace hS := hS.call hS1;clear hS1
     rw [List.cons_append, List.nil_append, snap_snap, ← snap_snoc] at hS
     obtain ⟨aovp, cvp, hshp, _⟩ := (OwT.rd (hS.rd (A := OwT 140 _ vp) atx)).shape;subst hshp
     (repeat' (first|((first|refine wx1 ?_|refine wx2 ?_ ?_<;>intro hp|refine s_end hk ?_)<;>(clear hk a;intro a hk))|((first|refine wx3 ?_;intro w b|refine wx4 ?_;intro w|refine wx5 ?_;intro w v);clear hk hS a;intro hS a hk)|refine wx0 ?_|fail))
     cases is with
     | false =>
      rw [if_neg (by rintro ⟨h, -⟩;cases h)]
      (repeat' (first|((first|refine wx1 ?_|refine wx2 ?_ ?_<;>intro hp|refine s_end hk ?_)<;>(clear hk a;intro a hk))|((first|refine wx3 ?_;intro w b|refine wx4 ?_;intro w|refine wx5 ?_;intro w v);clear hk hS a;intro hS a hk)|refine wx0 ?_|fail))
      exact done1 hk (h := ⟨rfl, hS.sub sbx⟩)
     | true =>
      cases ok with
      | false =>
       rw [if_neg (by rintro ⟨-, h, -⟩;cases h)]
       (repeat' (first|((first|refine wx1 ?_|refine wx2 ?_ ?_<;>intro hp|refine s_end hk ?_)<;>(clear hk a;intro a hk))|((first|refine wx3 ?_;intro w b|refine wx4 ?_;intro w|refine wx5 ?_;intro w v);clear hk hS a;intro hS a hk)|refine wx0 ?_|fail))
       exact done1 hk (h := ⟨rfl, hS.sub sbx⟩)
      | true =>
       (repeat' (first|((first|refine wx1 ?_|refine wx2 ?_ ?_<;>intro hp|refine s_end hk ?_)<;>(clear hk a;intro a hk))|((first|refine wx3 ?_;intro w b|refine wx4 ?_;intro w|refine wx5 ?_;intro w v);clear hk hS a;intro hS a hk)|refine wx0 ?_|fail))
       refine sg hk (g_callO hk (hf := by kernel_rfl) (hc := name_any nm (by omega) _) (h := ?_));clear hk a;rintro _ w ⟨rfl, hS1⟩ a hk;replace hS := hS.call0 hS1;clear hS1
       cases hb : nameS nm with
       | false =>
        rw [hb] at hk
        rw [if_neg (by rintro ⟨-, -, h⟩;cases h)]
        (repeat' (first|((first|refine wx1 ?_|refine wx2 ?_ ?_<;>intro hp|refine s_end hk ?_)<;>(clear hk a;intro a hk))|((first|refine wx3 ?_;intro w b|refine wx4 ?_;intro w|refine wx5 ?_;intro w v);clear hk hS a;intro hS a hk)|refine wx0 ?_|fail))
        exact done1 hk (h := ⟨rfl, hS.sub sbx⟩)
       | true =>
        rw [hb] at hk
        rw [if_pos ⟨rfl, rfl, rfl⟩]
        (repeat' (first|((first|refine wx1 ?_|refine wx2 ?_ ?_<;>intro hp|refine s_end hk ?_)<;>(clear hk a;intro a hk))|((first|refine wx3 ?_;intro w b|refine wx4 ?_;intro w|refine wx5 ?_;intro w v);clear hk hS a;intro hS a hk)|refine wx0 ?_|fail))
        refine sg hk (g_cat hk ?_ (hl := by have : (⟨#[61]⟩ : ByteArray).size = 1 := rfl;simp only [maxLen];omega));clear hk a;intro a hk
        (repeat' (first|((first|refine wx1 ?_|refine wx2 ?_ ?_<;>intro hp|refine s_end hk ?_)<;>(clear hk a;intro a hk))|((first|refine wx3 ?_;intro w b|refine wx4 ?_;intro w|refine wx5 ?_;intro w v);clear hk hS a;intro hS a hk)|refine wx0 ?_|fail))
        refine sg hk (g_callO hk (hf := by kernel_rfl) (hc := once_any (l := M) (hS.sub (.cons atx .refl))) (h := ?_));clear hk hS a;intro vr w hS a hk
        obtain ⟨ok', rfl, ⟨rfl, hm, hS⟩ | ⟨rfl, hm, hS⟩⟩ := hS
        ·(repeat' (first|((first|refine wx1 ?_|refine wx2 ?_ ?_<;>intro hp|refine s_end hk ?_)<;>(clear hk a;intro a hk))|((first|refine wx3 ?_;intro w b|refine wx4 ?_;intro w|refine wx5 ?_;intro w v);clear hk hS a;intro hS a hk)|refine wx0 ?_|fail))
         rw [once_out hm]
         exact done1 hk (h := ⟨hc, ha, ⟨aovp, (snapF nmI (sl ++ [(nm, nu)])).length, cvp⟩, rfl, hS.sub (.cons atx (.cons atx (.cons atx (.cons atx (.cons atx sbx)))))⟩)
        ·(repeat' (first|((first|refine wx1 ?_|refine wx2 ?_ ?_<;>intro hp|refine s_end hk ?_)<;>(clear hk a;intro a hk))|((first|refine wx3 ?_;intro w b|refine wx4 ?_;intro w|refine wx5 ?_;intro w v);clear hk hS a;intro hS a hk)|refine wx0 ?_|fail))
         rw [once_in hm]
         exact done1 hk (h := ⟨rfl, hS.sub sbx⟩)
end
end Go.Proofs.YtnjmonkehjlaoaaGreatDoor
namespace Go.Proofs.YtnjmonkehjlaoaaGreatDoor
open Go.RowKit
set_option maxRecDepth 100000
attribute [local irreducible] Go.Code.wpIn Go.wpListIn Go.Calls Gives Go.Exit.then Go.Exit.inBlock Done ObxE
theorem len_list (s : ByteArray) : s.data.toList.length = s.size := by simp
set_option maxHeartbeats 8000000 in
theorem rnumber_any (s : ByteArray) (hs : s.size ≤ 1000) (w0 : World) (ht : TabW w0) : Calls Tryz.prog 80 #[.string s] w0 (Ret fun v w => v = .tuple #[.int .i64 (numP s.data.toList).1, .bool (numP s.data.toList).2] ∧ St w0 [] w) := by
 have hD := dig_list s
 have hsg := pref_sgn s
 have hsl := len_list s
 have hdd : digS s = if sgnL s.data.toList then s.extract 1 s.size else s := by unfold digS;rw [hsg]
 have hds : (digS s).size = (digL s.data.toList).length := by rw [← hD];simp
 have hdl : (digS s).size ≤ s.size := by
  rw [hds, ← hsl]
  unfold digL
  split
  ·simp
  ·exact Nat.le_refl _
 have hs0 : sgnL s.data.toList = true ↔ ∃ h : 0 < s.size, (s[0]'h).toNat = 45 := by
  unfold sgnL
  rw [decide_eq_true_eq]
  constructor
  ·intro h
   have hp : 0 < s.size := by
    rw [← hsl]
    cases hl : s.data.toList with
    | nil => rw [hl] at h;cases h
    | cons x r => simp
   refine ⟨hp, ?_⟩
   have := byte_at hp
   rw [← List.head?_eq_getElem?, h] at this
   injection this with this
   rw [← this];rfl
  ·rintro ⟨hp, h⟩
   rw [List.head?_eq_getElem?, byte_at hp]
   exact congrArg some (u8_ext h)
 have hnum : numL s.data.toList = if sgnL s.data.toList then -((valL (digL s.data.toList) : Nat) : Int) else ((valL (digL s.data.toList) : Nat) : Int) := rfl
 have hbad : badD s.data.toList ↔ (digL s.data.toList = [] ∨ 10 < (digL s.data.toList).length ∨ (digL s.data.toList).all digB = false) := Iff.rfl
 have hito : ¬ badD s.data.toList → (itoS (numL s.data.toList) = s ↔ ¬ zerD s.data.toList) := fun h => ito_iff.trans (itoa_num h)
 have hnp1 : (badD s.data.toList ∨ zerD s.data.toList ∨ outR (numL s.data.toList)) → numP s.data.toList = (0, false) := fun h => by unfold numP;rw [if_pos h]
 have hnp2 : ¬ badD s.data.toList → ¬ zerD s.data.toList → ¬ outR (numL s.data.toList) → numP s.data.toList = (numL s.data.toList, true) := fun h1 h2 h3 => by
  unfold numP;rw [if_neg (by rintro (h | h | h);exact h1 h;exact h2 h;exact h3 h)]
 rw [← hD] at hnum hbad hds
 generalize numP s.data.toList = res at *
 generalize badD s.data.toList = bd at *
 generalize zerD s.data.toList = zd at *
 generalize numL s.data.toList = nu at *
 generalize sgnL s.data.toList = mi at *
 clear hD hsg
 refine enter Tryz.func80 rfl Tryz.ntmps80 rfl (fun a hk => ?_);have hS := St.refl w0
 have no : bd ∨ zd ∨ outR nu → ∀ (a : Act) (w : World) (l : List (Nat × Value)), Kn [] 72 a l → lk l 2 = some (.int .i64 0) → lk l 3 = some (.bool false) → St w0 [] w →
   Done Tryz.prog Tryz.f80 (fun v w => v = .tuple #[.int .i64 res.1, .bool res.2] ∧ St w0 [] w) .ret a w := fun h a w l hk g2 g3 hS =>
  done2 hk (hv := g2) (hv' := g3) (h := ⟨by rw [hnp1 h], hS⟩)
 cases mi with
 | true =>
  obtain ⟨hp, h45⟩ := hs0.1 rfl
  simp only [if_true] at hnum hdd
  have hde : s.extract (1 : Int).toNat s.size = digS s := hdd.symm
  have hx1 : (s.extract (1 : Int).toNat s.size).size = (digS s).size := by rw [hde]
  by_cases h1 : 1 ≤ (digS s).size
  ·by_cases h10 : (digS s).size ≤ 10
   ·(repeat' (first|((first|refine wx1 ?_|refine wx2 ?_ ?_<;>intro hp|refine s_end hk ?_)<;>(clear hk a;intro a hk))|((first|refine wx3 ?_;intro w b|refine wx4 ?_;intro w|refine wx5 ?_;intro w v);clear hk hS a;intro hS a hk)|refine wx0 ?_|fail))
    rw [hde] at hk
    clear hde hx1 hdd
    generalize digS s = d at *
    replace hk := Kn.kp [0, 2, 3, 4, 5, 6, 7] hk
    refine wp_for d.size (fun i _ => [(6, .int .i64 (valL (d.data.toList.take i) : Nat)), (7, .int .i64 (i : Int))]) (fun _ _ => []) (fun i _ => (d.data.toList.take i).all digB = true) () hk skx hS.sb (by simp) ?_
    clear hk hS a
    rintro i - a w hi hk hS hF
    have hvs := val_small (l := d.data.toList.take i) (by rw [List.length_take, ← hds];omega) hF
    by_cases hil : i < d.size
    ·have hvt := val_take hil
     have htk := all_take hil digB
     by_cases hdg : 48 ≤ d[i].toNat ∧ d[i].toNat ≤ 57
     ·have hb : digB d[i] = true := by unfold digB;rw [decide_eq_true hdg]
      (repeat' (first|((first|refine wx1 ?_|refine wx2 ?_ ?_<;>intro hp|refine s_end hk ?_)<;>(clear hk a;intro a hk))|((first|refine wx3 ?_;intro w b|refine wx4 ?_;intro w|refine wx5 ?_;intro w v);clear hk hS a;intro hS a hk)|refine wx0 ?_|fail))
      refine sg hk (g_mul hk ?_ (hlo := by omega) (hhi := by omega));clear hk a;intro a hk
      (repeat' (first|((first|refine wx1 ?_|refine wx2 ?_ ?_<;>intro hp|refine s_end hk ?_)<;>(clear hk a;intro a hk))|((first|refine wx3 ?_;intro w b|refine wx4 ?_;intro w|refine wx5 ?_;intro w v);clear hk hS a;intro hS a hk)|refine wx0 ?_|fail))
      rw [show (10 : Int) * ((valL (d.data.toList.take i) : Nat) : Int) + ((d[i].toNat : Nat) : Int) - 48 = ((valL (d.data.toList.take (i + 1)) : Nat) : Int) by omega] at hk
      exact ⟨hil, (), hk.sd, hS.sb, by rw [htk, hF, hb];rfl⟩
     ·have hb : digB d[i] = false := by unfold digB;rw [decide_eq_false hdg]
      have hbd := hbad.2 (.inr (.inr (all_no hil hb)))
      (repeat' (first|((first|refine wx1 ?_|refine wx2 ?_ ?_<;>intro hp|refine s_end hk ?_)<;>(clear hk a;intro a hk))|((first|refine wx3 ?_;intro w b|refine wx4 ?_;intro w|refine wx5 ?_;intro w v);clear hk hS a;intro hS a hk)|refine wx0 ?_|fail))
      all_goals first
       | exact no (.inl hbd) _ _ _ hk rfl rfl hS.nil
       | (exfalso;omega)
    ·have : i = d.size := by omega
     subst this
     rw [all_full] at hk hvs hF
     have hnb : ¬ bd := fun h => by
      rcases hbad.1 h with h | h | h
      ·exact absurd (hds.trans (by rw [h];rfl) : d.size = 0) (by omega)
      ·exact absurd h (by rw [← hds];omega)
      ·rw [hF] at h;cases h
     have hit := hito hnb
     (repeat' (first|((first|refine wx1 ?_|refine wx2 ?_ ?_<;>intro hp|refine s_end hk ?_)<;>(clear hk a;intro a hk))|((first|refine wx3 ?_;intro w b|refine wx4 ?_;intro w|refine wx5 ?_;intro w v);clear hk hS a;intro hS a hk)|refine wx0 ?_|fail))
     refine sg hk (g_mul hk ?_ (hlo := by omega) (hhi := by omega));clear hk a;intro a hk
     rw [show (-1 : Int) * ((valL d.data.toList : Nat) : Int) = nu by omega] at hk
     refine sg hk (g_callO hk (hf := by kernel_rfl) (hc := itoa_any nu (by omega) (by omega) _ (ht.mono hS.below)) (h := ?_));clear hk a;rintro _ w ⟨rfl, hS1⟩ a hk;replace hS := hS.call0 hS1;clear hS1
     by_cases hz : zd
     ·have hne : ¬ itoS nu = s := fun h => (hit.1 h) hz
      (repeat' (first|((first|refine wx1 ?_|refine wx2 ?_ ?_<;>intro hp|refine s_end hk ?_)<;>(clear hk a;intro a hk))|((first|refine wx3 ?_;intro w b|refine wx4 ?_;intro w|refine wx5 ?_;intro w v);clear hk hS a;intro hS a hk)|refine wx0 ?_|fail))
      all_goals first
       | exact no (.inr (.inl hz)) _ _ _ hk rfl rfl hS.nil
       | (exfalso;contradiction)
     ·have heq : itoS nu = s := hit.2 hz
      by_cases ho1 : 2147483647 < nu
      ·(repeat' (first|((first|refine wx1 ?_|refine wx2 ?_ ?_<;>intro hp|refine s_end hk ?_)<;>(clear hk a;intro a hk))|((first|refine wx3 ?_;intro w b|refine wx4 ?_;intro w|refine wx5 ?_;intro w v);clear hk hS a;intro hS a hk)|refine wx0 ?_|fail))
       all_goals first
        | (exfalso;contradiction)
        | skip
       refine sg hk (g_mul hk ?_ (hlo := by omega) (hhi := by omega));clear hk a;intro a hk
       rw [show (-1 : Int) * ((valL d.data.toList : Nat) : Int) = nu by omega] at hk
       (repeat' (first|((first|refine wx1 ?_|refine wx2 ?_ ?_<;>intro hp|refine s_end hk ?_)<;>(clear hk a;intro a hk))|((first|refine wx3 ?_;intro w b|refine wx4 ?_;intro w|refine wx5 ?_;intro w v);clear hk hS a;intro hS a hk)|refine wx0 ?_|fail))
       exact no (.inr (.inr (.inr ho1))) _ _ _ hk rfl rfl hS.nil
      ·(repeat' (first|((first|refine wx1 ?_|refine wx2 ?_ ?_<;>intro hp|refine s_end hk ?_)<;>(clear hk a;intro a hk))|((first|refine wx3 ?_;intro w b|refine wx4 ?_;intro w|refine wx5 ?_;intro w v);clear hk hS a;intro hS a hk)|refine wx0 ?_|fail))
       all_goals first
        | (exfalso;contradiction)
        | skip
       refine sg hk (g_mul hk ?_ (hlo := by omega) (hhi := by omega));clear hk a;intro a hk
       rw [show (-1 : Int) * ((valL d.data.toList : Nat) : Int) = nu by omega] at hk
       (repeat' (first|((first|refine wx1 ?_|refine wx2 ?_ ?_<;>intro hp|refine s_end hk ?_)<;>(clear hk a;intro a hk))|((first|refine wx3 ?_;intro w b|refine wx4 ?_;intro w|refine wx5 ?_;intro w v);clear hk hS a;intro hS a hk)|refine wx0 ?_|fail))
       refine sg hk (g_mul hk ?_ (hlo := by omega) (hhi := by omega));clear hk a;intro a hk
       rw [show (-1 : Int) * ((valL d.data.toList : Nat) : Int) = nu by omega] at hk
       by_cases ho2 : nu < -2147483648
       ·(repeat' (first|((first|refine wx1 ?_|refine wx2 ?_ ?_<;>intro hp|refine s_end hk ?_)<;>(clear hk a;intro a hk))|((first|refine wx3 ?_;intro w b|refine wx4 ?_;intro w|refine wx5 ?_;intro w v);clear hk hS a;intro hS a hk)|refine wx0 ?_|fail))
        exact no (.inr (.inr (.inl ho2))) _ _ _ hk rfl rfl hS.nil
       ·(repeat' (first|((first|refine wx1 ?_|refine wx2 ?_ ?_<;>intro hp|refine s_end hk ?_)<;>(clear hk a;intro a hk))|((first|refine wx3 ?_;intro w b|refine wx4 ?_;intro w|refine wx5 ?_;intro w v);clear hk hS a;intro hS a hk)|refine wx0 ?_|fail))
        refine sg hk (g_mul hk ?_ (hlo := by omega) (hhi := by omega));clear hk a;intro a hk
        rw [show (-1 : Int) * ((valL d.data.toList : Nat) : Int) = nu by omega] at hk
        (repeat' (first|((first|refine wx1 ?_|refine wx2 ?_ ?_<;>intro hp|refine s_end hk ?_)<;>(clear hk a;intro a hk))|((first|refine wx3 ?_;intro w b|refine wx4 ?_;intro w|refine wx5 ?_;intro w v);clear hk hS a;intro hS a hk)|refine wx0 ?_|fail))
        exact done2 hk (h := ⟨by rw [hnp2 hnb hz (by rintro (h | h) <;> omega)], hS.nil⟩)
   ·have hbd := hbad.2 (.inr (.inl (by rw [← hds];omega)))
    (repeat' (first|((first|refine wx1 ?_|refine wx2 ?_ ?_<;>intro hp|refine s_end hk ?_)<;>(clear hk a;intro a hk))|((first|refine wx3 ?_;intro w b|refine wx4 ?_;intro w|refine wx5 ?_;intro w v);clear hk hS a;intro hS a hk)|refine wx0 ?_|fail))
    exact no (.inl hbd) _ _ _ hk rfl rfl hS
  ·have hbd := hbad.2 (.inl (List.eq_nil_of_length_eq_zero (by rw [← hds];omega)))
   (repeat' (first|((first|refine wx1 ?_|refine wx2 ?_ ?_<;>intro hp|refine s_end hk ?_)<;>(clear hk a;intro a hk))|((first|refine wx3 ?_;intro w b|refine wx4 ?_;intro w|refine wx5 ?_;intro w v);clear hk hS a;intro hS a hk)|refine wx0 ?_|fail))
   exact no (.inl hbd) _ _ _ hk rfl rfl hS
 | false =>
  simp only [Bool.false_eq_true, if_false] at hnum hdd
  have hss : digS s = s := hdd
  rw [hss] at hnum hbad hds hdl
  clear hdd hss
  have h45 : ∀ h : 0 < s.size, ¬ (s[0]'h).toNat = 45 := fun hp h => absurd (hs0.2 ⟨hp, h⟩) (by simp)
  by_cases hp : 0 < s.size
  ·have h45 := h45 hp
   by_cases h1 : 1 ≤ s.size
   ·by_cases h10 : s.size ≤ 10
    ·(repeat' (first|((first|refine wx1 ?_|refine wx2 ?_ ?_<;>intro hp|refine s_end hk ?_)<;>(clear hk a;intro a hk))|((first|refine wx3 ?_;intro w b|refine wx4 ?_;intro w|refine wx5 ?_;intro w v);clear hk hS a;intro hS a hk)|refine wx0 ?_|fail))
     replace hk := Kn.kp [0, 2, 3, 4, 5, 6, 7] hk
     refine wp_for s.size (fun i _ => [(6, .int .i64 (valL (s.data.toList.take i) : Nat)), (7, .int .i64 (i : Int))]) (fun _ _ => []) (fun i _ => (s.data.toList.take i).all digB = true) () hk skx hS.sb (by simp) ?_
     clear hk hS a
     rintro i - a w hi hk hS hF
     have hvs := val_small (l := s.data.toList.take i) (by rw [List.length_take, ← hds];omega) hF
     by_cases hil : i < s.size
     ·have hvt := val_take hil
      have htk := all_take hil digB
      by_cases hdg : 48 ≤ s[i].toNat ∧ s[i].toNat ≤ 57
      ·have hb : digB s[i] = true := by unfold digB;rw [decide_eq_true hdg]
       (repeat' (first|((first|refine wx1 ?_|refine wx2 ?_ ?_<;>intro hp|refine s_end hk ?_)<;>(clear hk a;intro a hk))|((first|refine wx3 ?_;intro w b|refine wx4 ?_;intro w|refine wx5 ?_;intro w v);clear hk hS a;intro hS a hk)|refine wx0 ?_|fail))
       refine sg hk (g_mul hk ?_ (hlo := by omega) (hhi := by omega));clear hk a;intro a hk
       (repeat' (first|((first|refine wx1 ?_|refine wx2 ?_ ?_<;>intro hp|refine s_end hk ?_)<;>(clear hk a;intro a hk))|((first|refine wx3 ?_;intro w b|refine wx4 ?_;intro w|refine wx5 ?_;intro w v);clear hk hS a;intro hS a hk)|refine wx0 ?_|fail))
       rw [show (10 : Int) * ((valL (s.data.toList.take i) : Nat) : Int) + ((s[i].toNat : Nat) : Int) - 48 = ((valL (s.data.toList.take (i + 1)) : Nat) : Int) by omega] at hk
       exact ⟨hil, (), hk.sd, hS.sb, by rw [htk, hF, hb];rfl⟩
      ·have hb : digB s[i] = false := by unfold digB;rw [decide_eq_false hdg]
       have hbd := hbad.2 (.inr (.inr (all_no hil hb)))
       (repeat' (first|((first|refine wx1 ?_|refine wx2 ?_ ?_<;>intro hp|refine s_end hk ?_)<;>(clear hk a;intro a hk))|((first|refine wx3 ?_;intro w b|refine wx4 ?_;intro w|refine wx5 ?_;intro w v);clear hk hS a;intro hS a hk)|refine wx0 ?_|fail))
       all_goals first
        | exact no (.inl hbd) _ _ _ hk rfl rfl hS.nil
        | (exfalso;omega)
     ·have : i = s.size := by omega
      subst this
      rw [all_full] at hk hvs hF
      have hnb : ¬ bd := fun h => by
       rcases hbad.1 h with h | h | h
       ·exact absurd (hds.trans (by rw [h];rfl) : s.size = 0) (by omega)
       ·exact absurd h (by rw [← hds];omega)
       ·rw [hF] at h;cases h
      have hit := hito hnb
      (repeat' (first|((first|refine wx1 ?_|refine wx2 ?_ ?_<;>intro hp|refine s_end hk ?_)<;>(clear hk a;intro a hk))|((first|refine wx3 ?_;intro w b|refine wx4 ?_;intro w|refine wx5 ?_;intro w v);clear hk hS a;intro hS a hk)|refine wx0 ?_|fail))
      refine sg hk (g_mul hk ?_ (hlo := by omega) (hhi := by omega));clear hk a;intro a hk
      rw [show (1 : Int) * ((valL s.data.toList : Nat) : Int) = nu by omega] at hk
      refine sg hk (g_callO hk (hf := by kernel_rfl) (hc := itoa_any nu (by omega) (by omega) _ (ht.mono hS.below)) (h := ?_));clear hk a;rintro _ w ⟨rfl, hS1⟩ a hk;replace hS := hS.call0 hS1;clear hS1
      by_cases hz : zd
      ·have hne : ¬ itoS nu = s := fun h => (hit.1 h) hz
       (repeat' (first|((first|refine wx1 ?_|refine wx2 ?_ ?_<;>intro hp|refine s_end hk ?_)<;>(clear hk a;intro a hk))|((first|refine wx3 ?_;intro w b|refine wx4 ?_;intro w|refine wx5 ?_;intro w v);clear hk hS a;intro hS a hk)|refine wx0 ?_|fail))
       all_goals first
        | exact no (.inr (.inl hz)) _ _ _ hk rfl rfl hS.nil
        | (exfalso;contradiction)
      ·have heq : itoS nu = s := hit.2 hz
       by_cases ho1 : 2147483647 < nu
       ·(repeat' (first|((first|refine wx1 ?_|refine wx2 ?_ ?_<;>intro hp|refine s_end hk ?_)<;>(clear hk a;intro a hk))|((first|refine wx3 ?_;intro w b|refine wx4 ?_;intro w|refine wx5 ?_;intro w v);clear hk hS a;intro hS a hk)|refine wx0 ?_|fail))
        all_goals first
         | (exfalso;contradiction)
         | skip
        refine sg hk (g_mul hk ?_ (hlo := by omega) (hhi := by omega));clear hk a;intro a hk
        rw [show (1 : Int) * ((valL s.data.toList : Nat) : Int) = nu by omega] at hk
        (repeat' (first|((first|refine wx1 ?_|refine wx2 ?_ ?_<;>intro hp|refine s_end hk ?_)<;>(clear hk a;intro a hk))|((first|refine wx3 ?_;intro w b|refine wx4 ?_;intro w|refine wx5 ?_;intro w v);clear hk hS a;intro hS a hk)|refine wx0 ?_|fail))
        exact no (.inr (.inr (.inr ho1))) _ _ _ hk rfl rfl hS.nil
       ·(repeat' (first|((first|refine wx1 ?_|refine wx2 ?_ ?_<;>intro hp|refine s_end hk ?_)<;>(clear hk a;intro a hk))|((first|refine wx3 ?_;intro w b|refine wx4 ?_;intro w|refine wx5 ?_;intro w v);clear hk hS a;intro hS a hk)|refine wx0 ?_|fail))
        all_goals first
         | (exfalso;contradiction)
         | skip
        refine sg hk (g_mul hk ?_ (hlo := by omega) (hhi := by omega));clear hk a;intro a hk
        rw [show (1 : Int) * ((valL s.data.toList : Nat) : Int) = nu by omega] at hk
        (repeat' (first|((first|refine wx1 ?_|refine wx2 ?_ ?_<;>intro hp|refine s_end hk ?_)<;>(clear hk a;intro a hk))|((first|refine wx3 ?_;intro w b|refine wx4 ?_;intro w|refine wx5 ?_;intro w v);clear hk hS a;intro hS a hk)|refine wx0 ?_|fail))
        refine sg hk (g_mul hk ?_ (hlo := by omega) (hhi := by omega));clear hk a;intro a hk
        rw [show (1 : Int) * ((valL s.data.toList : Nat) : Int) = nu by omega] at hk
        by_cases ho2 : nu < -2147483648
        ·(repeat' (first|((first|refine wx1 ?_|refine wx2 ?_ ?_<;>intro hp|refine s_end hk ?_)<;>(clear hk a;intro a hk))|((first|refine wx3 ?_;intro w b|refine wx4 ?_;intro w|refine wx5 ?_;intro w v);clear hk hS a;intro hS a hk)|refine wx0 ?_|fail))
         exact no (.inr (.inr (.inl ho2))) _ _ _ hk rfl rfl hS.nil
        ·(repeat' (first|((first|refine wx1 ?_|refine wx2 ?_ ?_<;>intro hp|refine s_end hk ?_)<;>(clear hk a;intro a hk))|((first|refine wx3 ?_;intro w b|refine wx4 ?_;intro w|refine wx5 ?_;intro w v);clear hk hS a;intro hS a hk)|refine wx0 ?_|fail))
         refine sg hk (g_mul hk ?_ (hlo := by omega) (hhi := by omega));clear hk a;intro a hk
         rw [show (1 : Int) * ((valL s.data.toList : Nat) : Int) = nu by omega] at hk
         (repeat' (first|((first|refine wx1 ?_|refine wx2 ?_ ?_<;>intro hp|refine s_end hk ?_)<;>(clear hk a;intro a hk))|((first|refine wx3 ?_;intro w b|refine wx4 ?_;intro w|refine wx5 ?_;intro w v);clear hk hS a;intro hS a hk)|refine wx0 ?_|fail))
         exact done2 hk (h := ⟨by rw [hnp2 hnb hz (by rintro (h | h) <;> omega)], hS.nil⟩)
    ·have hbd := hbad.2 (.inr (.inl (by rw [← hds];omega)))
     (repeat' (first|((first|refine wx1 ?_|refine wx2 ?_ ?_<;>intro hp|refine s_end hk ?_)<;>(clear hk a;intro a hk))|((first|refine wx3 ?_;intro w b|refine wx4 ?_;intro w|refine wx5 ?_;intro w v);clear hk hS a;intro hS a hk)|refine wx0 ?_|fail))
     exact no (.inl hbd) _ _ _ hk rfl rfl hS
   ·have hbd := hbad.2 (.inl (List.eq_nil_of_length_eq_zero (by rw [← hds];omega)))
    (repeat' (first|((first|refine wx1 ?_|refine wx2 ?_ ?_<;>intro hp|refine s_end hk ?_)<;>(clear hk a;intro a hk))|((first|refine wx3 ?_;intro w b|refine wx4 ?_;intro w|refine wx5 ?_;intro w v);clear hk hS a;intro hS a hk)|refine wx0 ?_|fail))
    exact no (.inl hbd) _ _ _ hk rfl rfl hS
  ·have hb : bd := hbad.2 (.inl (List.eq_nil_of_length_eq_zero (by rw [← hds];omega)))
   (repeat' (first|((first|refine wx1 ?_|refine wx2 ?_ ?_<;>intro hp|refine s_end hk ?_)<;>(clear hk a;intro a hk))|((first|refine wx3 ?_;intro w b|refine wx4 ?_;intro w|refine wx5 ?_;intro w v);clear hk hS a;intro hS a hk)|refine wx0 ?_|fail))
   exact no (.inl hb) _ _ _ hk rfl rfl hS
end Go.Proofs.YtnjmonkehjlaoaaGreatDoor
namespace Go.Proofs.YtnjmonkehjlaoaaGreatDoor
open Go.RowKit
section
variable {P : Program} {Q : Exit → Act → World → Prop} {a : Act} {w w' : World} {n : Nat} {l : List (Nat × Value)} {df : List Deferred} {rr : Option Nat} {ops : Array Oper} {K : Act → World → Prop}
 {d : Nat} {dst : Option Nat} {ty : TypeId} {pos : String} {af : Array Edge} {g : Option (Nat × Bool)} {K1 : Act → World → Prop} {S1 : List PanicEntry → World → Prop}
def QX (df : List Deferred) (K1 : Act → World → Prop) (S1 : List PanicEntry → World → Prop) (e : Exit) (a : Act) (w : World) : Prop := (e = .normal ∧ K1 a w) ∨ ∃ ch, e = .panic ch ∧ a.defers = df ∧ S1 ch w
theorem QX.normal (h : K1 a w) : QX df K1 S1 .normal a w := .inl ⟨rfl, h⟩
theorem QX.panic {ch : List PanicEntry} (hk : Kn df n a l) (h : S1 ch w) : QX df K1 S1 (.panic ch) a w := .inr ⟨ch, rfl, hk.defers, h⟩
theorem qx_put {o : Option Nat} {v : Value} {c : List PanicEntry} (h : QX df K1 S1 (.panic c) (a.put o v) w) : QX df K1 S1 (.panic c) a w := by
 rcases h with ⟨h, _⟩ | ⟨ch, h1, h2, h3⟩
 ·cases h
 ·refine .inr ⟨ch, h1, ?_, h3⟩
  rw [← h2];cases o <;> rfl
theorem an_region {id : Nat} (K1 : Act → World → Prop) (S1 : List PanicEntry → World → Prop) (hk : Kn df n a l) (hm : P.follows .mixedOrders = true) (hn : ∀ a w, K1 a w → Q .normal a w) (hp : ∀ ch a w, a.defers = df → S1 ch w → Q (.panic ch) a w)
  (h : Any rr P ops (QX df K1 S1) ops.size (Array.replicate ops.size false) a w.drew) : (Code.region id ops true).wpIn (FR rr) 0 P Q a w := by
 refine wpIn_mono (wpIn_region_any (Q := QX df K1 S1) hm h) (fun e a w hq => ?_)
 rcases hq with ⟨rfl, h⟩ | ⟨ch, rfl, h1, h2⟩
 ·exact hn _ _ h
 ·exact hp _ _ _ h1 h2
theorem an_take {o : Op} {k i : Nat} {v : Value} {listed : Array Bool} (ho : ops[i]? = some ⟨some d, o, ty, pos, af, none⟩) (hk : Kn df n a l) (hs : Region.noSelect ops = true) (hf : Region.free .any ops listed i = true) (hr : (Region.ready .any ops listed).contains i = true)
  (hp : ∀ w, (execOp a.eval ⟨some d, o, ty, pos, af, none⟩).run P w = .ok (.value v) w) (hab : ∀ w, (⟨some d, o, ty, pos, af, none⟩ : Oper).about P w a.eval = none) (hd : Nat.blt d n = true)
  (h : ∀ a', Kn df n a' ((d, v) :: l) → Any rr P ops (QX df K1 S1) k (listed.setIfInBounds i true) a' w) (hro : rr = none) : Any rr P ops (QX df K1 S1) (k + 1) listed a w := by
 subst hro
 exact wpAnyIn_take (F := FR none) rfl ho hs hf hr (fun c a w => qx_put) ⟨.inl ⟨wanted_none rfl _, hp⟩, hab⟩ (h _ (hk.put (d := some d) hd v))
theorem an_cut {k0 : Nat} {l0 : Array Bool} (J : Act → World → Prop) (k : Nat) (listed : Array Bool) (hJ : ∀ a w, J a w → Any rr P ops Q k listed a w) (h : (∀ a w, J a w → Any rr P ops Q k listed a w) → Any rr P ops Q k0 l0 a w) : Any rr P ops Q k0 l0 a w := h hJ
theorem wp_mid {x y : Code} (R' : Act → World → Prop) (h1 : x.wpIn (FR rr) 0 P (Exit.then R' Q) a w) (h2 : ∀ a w, R' a w → y.wpIn (FR rr) 0 P Q a w) : (Code.seq x y).wpIn (FR rr) 0 P Q a w :=
 wpIn_seq (wpIn_mono h1 (fun e a w h => by cases e <;> first | exact h2 _ _ h | exact h))
theorem y_move {x : Operand} {v : Value} (hk : Kn df n a l) (hx : ev l x = some v) : ∀ w, (execOp a.eval ⟨dst, .move x, ty, pos, af, g⟩).run P w = .ok (.value v) w := fun w => by rw [← hk.eval hx]; rfl
theorem y_field {x : Operand} {T : TypeId} {f b o off sz : Nat} (hk : Kn df n a l) (hf : fldOf P T f = some (off, sz + 1)) (hx : ev l x = some (.pointer (some ⟨b, o, none⟩))) :
  ∀ w, (execOp a.eval ⟨dst, .fieldAddr T x f, ty, pos, af, g⟩).run P w = .ok (.value (.pointer (some ⟨b, o + off, none⟩))) w := fun w => by
 unfold fldOf at hf
 cases hu : P.underlying T with
 | none => rw [hu] at hf;simp at hf
 | some dsc =>
  rw [hu] at hf
  cases dsc <;> simp only [reduceCtorEq] at hf
  case struct fs =>
   cases hfs : fs[f]? with
   | none => rw [hfs] at hf;simp at hf
   | some fl =>
    rw [hfs] at hf
    simp only [Option.some.injEq, Prod.mk.injEq] at hf
    obtain ⟨h1, h2⟩ := hf
    have h3 : szOf P fl.type = some (sz + 1) := by
     cases hz : szOf P fl.type with
     | none => rw [hz] at h2;simp at h2
     | some z => rw [hz] at h2;simp at h2;rw [h2]
    simp [execOp, hk.eval hx, Instr.fieldAt, run_underlying hu, hfs, Instr.sureAddr, fieldPlace, szOf_run h3, h1, addr_add]
theorem y_len {x : Operand} {t E m c : Nat} {ao : Option Addr} (hk : Kn df n a l) (ht : elOf P t = some E) (hx : ev l x = some (.slice ao m c)) :
  ∀ w, (execOp a.eval ⟨dst, .call { callee := .builtin .len, args := #[x], argTypes := #[t] }, ty, pos, af, g⟩).run P w = .ok (.value (.int .i64 m)) w := fun w => by
 simp [execOp, resolve, invoke, builtin, hk.eval hx, Builtin.len_, run_underlying (elOf_und ht), goInt]
theorem ab_len {x : Operand} {ts : Array TypeId} {ρ : Operand → Value} : ∀ w, (⟨dst, .call { callee := .builtin .len, args := #[x], argTypes := ts }, ty, pos, af, g⟩ : Oper).about P w ρ = none := fun w => by
 simp [Oper.about, resolve, Target.leads]
end
end Go.Proofs.YtnjmonkehjlaoaaGreatDoor
