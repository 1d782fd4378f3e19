/- Layer 8: the program's reader: an option. Layer 8: the program's reader: a word of an element's. Layer 8, plain: a word of an element's: as the program takes it is as the reader has it. -/
import Derived.Test.YtipdgobplfkipaaGreatDoorP10
import Derived.KernelRfl
set_option linter.all false
namespace Go.Proofs.YtipdgobplfkipaaGreatDoor
open Go.RowKit
set_option maxRecDepth 100000
attribute [local irreducible] Go.Code.wpIn Go.wpListIn Go.Calls Gives Go.Exit.then Go.Exit.inBlock Done ObxE

abbrev ndC (k : Int) (tag key : ByteArray) (hc ha hs : Hd) (o : Opt) (hk : Hd) : List Value := [.int .i64 k, .string tag, .string key, .string ⟨#[]⟩, hc.v, ha.v, hs.v, .int .i64 o.1, .int .i64 o.2.1, .int .i64 o.2.2.1, .int .i64 o.2.2.2.1, .bool o.2.2.2.2.1, .bool o.2.2.2.2.2, hk.v]
section
variable {B : Bs} {L : List HP} {w : World}
set_option maxHeartbeats 4000000 in
theorem option_any (bn : Nat) (k : Int) (tag key : ByteArray) (hc ha hs hh : Hd) (o : Opt) (r : ByteArray) (M : List ByteArray) (vm : Value) (hr : r.size ≤ 1000000) (hS : St B (pts bn (ndC k tag key hc ha hs o hh) 33 :: mapH encT vm (seenM M) :: L) w) :
    Calls Tryz.prog 105 #[.pointer (some ⟨bn, 0, none⟩), .string r, vm] w (Ret fun v w' => match onceP M (optP k o r) with
      | none => v = .bool false ∧ St B L w'
      | some (x, M') => v = .bool true ∧ St B (pts bn (ndC x.1 tag key hc ha hs x.2 hh) 33 :: mapH encT vm (seenM M') :: L) w') := by
  obtain ⟨e, lv, m, d, p, q⟩ := o
  obtain ⟨hl1, hl2⟩ := cut_le 61 r
  have hopt : optP k (e, lv, m, d, p, q) r = optP k (e, lv, m, d, p, q) r := rfl
  conv at hopt => rhs; unfold optP
  refine enter Tryz.func105 rfl Tryz.ntmps105 rfl (fun a hk => ?_)
  (repeat' (first | (show wpListIn _ _ _ _ _ (_ :: _) _ _; first | (refine wx1 ?_; clear hk a; intro a hk) | (refine wx2 ?_ ?_ <;> (intro hp; clear hk a; intro a hk)) | (refine wx3 ?_; clear hk hS a; intro w b hS a hk) | (refine wx4 ?_; clear hk hS a; intro w hS a hk) | (refine wx5 ?_; clear hk hS a; intro w v hS a hk) | fail) | refine wx0 ?_ | (refine s_end hk ?_; clear hk a; intro a hk) | fail))
  refine sg hk (g_callO hk (hf := by kernel_rfl) (hc := scut_any r 61 (by omega) _) (h := ?_)); clear hk a; rintro _ w ⟨rfl, hS1⟩ a hk; replace hS := hS.call0 hS1; clear hS1
  generalize optP k (e, lv, m, d, p, q) r = res at *
  generalize (cutR 61 r).2.2 = is at *
  generalize (cutR 61 r).2.1 = va at *
  generalize (cutR 61 r).1 = nm at *
  cases is with
  | true =>
    rw [if_pos rfl] at hopt
    (repeat' (first | (show wpListIn _ _ _ _ _ (_ :: _) _ _; first | (refine wx1 ?_; clear hk a; intro a hk) | (refine wx2 ?_ ?_ <;> (intro hp; clear hk a; intro a hk)) | (refine wx3 ?_; clear hk hS a; intro w b hS a hk) | (refine wx4 ?_; clear hk hS a; intro w hS a hk) | (refine wx5 ?_; clear hk hS a; intro w v hS a hk) | fail) | refine wx0 ?_ | (refine s_end hk ?_; clear hk a; intro a hk) | fail))
    refine sg hk (g_callO hk (hf := by kernel_rfl) (hc := number_any va (by omega) _) (h := ?_)); clear hk a; rintro _ w ⟨rfl, hS1⟩ a hk; replace hS := hS.call0 hS1; clear hS1
    generalize (numP va.data.toList).1 = x at *
    generalize (numP va.data.toList).2 = ok at *
    by_cases h1 : nm = kEnter
    · rw [if_pos h1] at hopt
      cases ok with
      | false =>
        rw [if_neg (by decide)] at hopt
        subst hopt
        (repeat' (first | (show wpListIn _ _ _ _ _ (_ :: _) _ _; first | (refine wx1 ?_; clear hk a; intro a hk) | (refine wx2 ?_ ?_ <;> (intro hp; clear hk a; intro a hk)) | (refine wx3 ?_; clear hk hS a; intro w b hS a hk) | (refine wx4 ?_; clear hk hS a; intro w hS a hk) | (refine wx5 ?_; clear hk hS a; intro w v hS a hk) | fail) | refine wx0 ?_ | (refine s_end hk ?_; clear hk a; intro a hk) | fail))
        exact done1 hk (h := ⟨rfl, hS.sub (by (repeat (first | exact Sub.refl | apply Sub.under)))⟩)
      | true =>
        rw [if_pos rfl] at hopt
        subst hopt
        (repeat' (first | (show wpListIn _ _ _ _ _ (_ :: _) _ _; first | (refine wx1 ?_; clear hk a; intro a hk) | (refine wx2 ?_ ?_ <;> (intro hp; clear hk a; intro a hk)) | (refine wx3 ?_; clear hk hS a; intro w b hS a hk) | (refine wx4 ?_; clear hk hS a; intro w hS a hk) | (refine wx5 ?_; clear hk hS a; intro w v hS a hk) | fail) | refine wx0 ?_ | (refine s_end hk ?_; clear hk a; intro a hk) | fail))
        refine sg hk (g_callO hk (hf := by kernel_rfl) (hc := once_any (l := M) (hS.sub (.cons (by (repeat (first | exact At.here | apply At.there))) .refl))) (h := ?_)); clear hk hS a; intro vr w hS a hk
        obtain ⟨ok', rfl, ⟨rfl, hm, hS⟩ | ⟨rfl, hm, hS⟩⟩ := hS
        · (repeat' (first | (show wpListIn _ _ _ _ _ (_ :: _) _ _; first | (refine wx1 ?_; clear hk a; intro a hk) | (refine wx2 ?_ ?_ <;> (intro hp; clear hk a; intro a hk)) | (refine wx3 ?_; clear hk hS a; intro w b hS a hk) | (refine wx4 ?_; clear hk hS a; intro w hS a hk) | (refine wx5 ?_; clear hk hS a; intro w v hS a hk) | fail) | refine wx0 ?_ | (refine s_end hk ?_; clear hk a; intro a hk) | fail))
          rw [h1] at hm hS
          rw [once_out hm]
          exact done1 hk (h := ⟨rfl, hS.sub (.cons (by (repeat (first | exact At.here | apply At.there))) (.cons (by (repeat (first | exact At.here | apply At.there))) .refl))⟩)
        · (repeat' (first | (show wpListIn _ _ _ _ _ (_ :: _) _ _; first | (refine wx1 ?_; clear hk a; intro a hk) | (refine wx2 ?_ ?_ <;> (intro hp; clear hk a; intro a hk)) | (refine wx3 ?_; clear hk hS a; intro w b hS a hk) | (refine wx4 ?_; clear hk hS a; intro w hS a hk) | (refine wx5 ?_; clear hk hS a; intro w v hS a hk) | fail) | refine wx0 ?_ | (refine s_end hk ?_; clear hk a; intro a hk) | fail))
          rw [h1] at hm
          rw [once_in hm]
          exact done1 hk (h := ⟨rfl, hS.sub (by (repeat (first | exact Sub.refl | apply Sub.under)))⟩)
    · rw [if_neg h1] at hopt
      by_cases h2 : nm = kLeave
      · rw [if_pos h2] at hopt
        cases ok with
        | false =>
          rw [if_neg (by decide)] at hopt
          subst hopt
          (repeat' (first | (show wpListIn _ _ _ _ _ (_ :: _) _ _; first | (refine wx1 ?_; clear hk a; intro a hk) | (refine wx2 ?_ ?_ <;> (intro hp; clear hk a; intro a hk)) | (refine wx3 ?_; clear hk hS a; intro w b hS a hk) | (refine wx4 ?_; clear hk hS a; intro w hS a hk) | (refine wx5 ?_; clear hk hS a; intro w v hS a hk) | fail) | refine wx0 ?_ | (refine s_end hk ?_; clear hk a; intro a hk) | fail))
          exact done1 hk (h := ⟨rfl, hS.sub (by (repeat (first | exact Sub.refl | apply Sub.under)))⟩)
        | true =>
          rw [if_pos rfl] at hopt
          subst hopt
          (repeat' (first | (show wpListIn _ _ _ _ _ (_ :: _) _ _; first | (refine wx1 ?_; clear hk a; intro a hk) | (refine wx2 ?_ ?_ <;> (intro hp; clear hk a; intro a hk)) | (refine wx3 ?_; clear hk hS a; intro w b hS a hk) | (refine wx4 ?_; clear hk hS a; intro w hS a hk) | (refine wx5 ?_; clear hk hS a; intro w v hS a hk) | fail) | refine wx0 ?_ | (refine s_end hk ?_; clear hk a; intro a hk) | fail))
          refine sg hk (g_callO hk (hf := by kernel_rfl) (hc := once_any (l := M) (hS.sub (.cons (by (repeat (first | exact At.here | apply At.there))) .refl))) (h := ?_)); clear hk hS a; intro vr w hS a hk
          obtain ⟨ok', rfl, ⟨rfl, hm, hS⟩ | ⟨rfl, hm, hS⟩⟩ := hS
          · (repeat' (first | (show wpListIn _ _ _ _ _ (_ :: _) _ _; first | (refine wx1 ?_; clear hk a; intro a hk) | (refine wx2 ?_ ?_ <;> (intro hp; clear hk a; intro a hk)) | (refine wx3 ?_; clear hk hS a; intro w b hS a hk) | (refine wx4 ?_; clear hk hS a; intro w hS a hk) | (refine wx5 ?_; clear hk hS a; intro w v hS a hk) | fail) | refine wx0 ?_ | (refine s_end hk ?_; clear hk a; intro a hk) | fail))
            rw [h2] at hm hS
            rw [once_out hm]
            exact done1 hk (h := ⟨rfl, hS.sub (.cons (by (repeat (first | exact At.here | apply At.there))) (.cons (by (repeat (first | exact At.here | apply At.there))) .refl))⟩)
          · (repeat' (first | (show wpListIn _ _ _ _ _ (_ :: _) _ _; first | (refine wx1 ?_; clear hk a; intro a hk) | (refine wx2 ?_ ?_ <;> (intro hp; clear hk a; intro a hk)) | (refine wx3 ?_; clear hk hS a; intro w b hS a hk) | (refine wx4 ?_; clear hk hS a; intro w hS a hk) | (refine wx5 ?_; clear hk hS a; intro w v hS a hk) | fail) | refine wx0 ?_ | (refine s_end hk ?_; clear hk a; intro a hk) | fail))
            rw [h2] at hm
            rw [once_in hm]
            exact done1 hk (h := ⟨rfl, hS.sub (by (repeat (first | exact Sub.refl | apply Sub.under)))⟩)
      · rw [if_neg h2] at hopt
        by_cases h3 : nm = kMove
        · rw [if_pos h3] at hopt
          cases ok with
          | false =>
            rw [if_neg (by decide)] at hopt
            subst hopt
            (repeat' (first | (show wpListIn _ _ _ _ _ (_ :: _) _ _; first | (refine wx1 ?_; clear hk a; intro a hk) | (refine wx2 ?_ ?_ <;> (intro hp; clear hk a; intro a hk)) | (refine wx3 ?_; clear hk hS a; intro w b hS a hk) | (refine wx4 ?_; clear hk hS a; intro w hS a hk) | (refine wx5 ?_; clear hk hS a; intro w v hS a hk) | fail) | refine wx0 ?_ | (refine s_end hk ?_; clear hk a; intro a hk) | fail))
            exact done1 hk (h := ⟨rfl, hS.sub (by (repeat (first | exact Sub.refl | apply Sub.under)))⟩)
          | true =>
            rw [if_pos rfl] at hopt
            subst hopt
            (repeat' (first | (show wpListIn _ _ _ _ _ (_ :: _) _ _; first | (refine wx1 ?_; clear hk a; intro a hk) | (refine wx2 ?_ ?_ <;> (intro hp; clear hk a; intro a hk)) | (refine wx3 ?_; clear hk hS a; intro w b hS a hk) | (refine wx4 ?_; clear hk hS a; intro w hS a hk) | (refine wx5 ?_; clear hk hS a; intro w v hS a hk) | fail) | refine wx0 ?_ | (refine s_end hk ?_; clear hk a; intro a hk) | fail))
            refine sg hk (g_callO hk (hf := by kernel_rfl) (hc := once_any (l := M) (hS.sub (.cons (by (repeat (first | exact At.here | apply At.there))) .refl))) (h := ?_)); clear hk hS a; intro vr w hS a hk
            obtain ⟨ok', rfl, ⟨rfl, hm, hS⟩ | ⟨rfl, hm, hS⟩⟩ := hS
            · (repeat' (first | (show wpListIn _ _ _ _ _ (_ :: _) _ _; first | (refine wx1 ?_; clear hk a; intro a hk) | (refine wx2 ?_ ?_ <;> (intro hp; clear hk a; intro a hk)) | (refine wx3 ?_; clear hk hS a; intro w b hS a hk) | (refine wx4 ?_; clear hk hS a; intro w hS a hk) | (refine wx5 ?_; clear hk hS a; intro w v hS a hk) | fail) | refine wx0 ?_ | (refine s_end hk ?_; clear hk a; intro a hk) | fail))
              rw [h3] at hm hS
              rw [once_out hm]
              exact done1 hk (h := ⟨rfl, hS.sub (.cons (by (repeat (first | exact At.here | apply At.there))) (.cons (by (repeat (first | exact At.here | apply At.there))) .refl))⟩)
            · (repeat' (first | (show wpListIn _ _ _ _ _ (_ :: _) _ _; first | (refine wx1 ?_; clear hk a; intro a hk) | (refine wx2 ?_ ?_ <;> (intro hp; clear hk a; intro a hk)) | (refine wx3 ?_; clear hk hS a; intro w b hS a hk) | (refine wx4 ?_; clear hk hS a; intro w hS a hk) | (refine wx5 ?_; clear hk hS a; intro w v hS a hk) | fail) | refine wx0 ?_ | (refine s_end hk ?_; clear hk a; intro a hk) | fail))
              rw [h3] at hm
              rw [once_in hm]
              exact done1 hk (h := ⟨rfl, hS.sub (by (repeat (first | exact Sub.refl | apply Sub.under)))⟩)
        · rw [if_neg h3] at hopt
          subst hopt
          (repeat' (first | (show wpListIn _ _ _ _ _ (_ :: _) _ _; first | (refine wx1 ?_; clear hk a; intro a hk) | (refine wx2 ?_ ?_ <;> (intro hp; clear hk a; intro a hk)) | (refine wx3 ?_; clear hk hS a; intro w b hS a hk) | (refine wx4 ?_; clear hk hS a; intro w hS a hk) | (refine wx5 ?_; clear hk hS a; intro w v hS a hk) | fail) | refine wx0 ?_ | (refine s_end hk ?_; clear hk a; intro a hk) | fail))
          exact done1 hk (h := ⟨rfl, hS.sub (by (repeat (first | exact Sub.refl | apply Sub.under)))⟩)
  | false =>
    rw [if_neg (by decide)] at hopt
    by_cases h1 : r = kGroup
    · rw [if_pos h1] at hopt
      subst hopt
      (repeat' (first | (show wpListIn _ _ _ _ _ (_ :: _) _ _; first | (refine wx1 ?_; clear hk a; intro a hk) | (refine wx2 ?_ ?_ <;> (intro hp; clear hk a; intro a hk)) | (refine wx3 ?_; clear hk hS a; intro w b hS a hk) | (refine wx4 ?_; clear hk hS a; intro w hS a hk) | (refine wx5 ?_; clear hk hS a; intro w v hS a hk) | fail) | refine wx0 ?_ | (refine s_end hk ?_; clear hk a; intro a hk) | fail))
      refine sg hk (g_callO hk (hf := by kernel_rfl) (hc := once_any (l := M) (hS.sub (.cons (by (repeat (first | exact At.here | apply At.there))) .refl))) (h := ?_)); clear hk hS a; intro vr w hS a hk
      obtain ⟨ok', rfl, ⟨rfl, hm, hS⟩ | ⟨rfl, hm, hS⟩⟩ := hS
      · (repeat' (first | (show wpListIn _ _ _ _ _ (_ :: _) _ _; first | (refine wx1 ?_; clear hk a; intro a hk) | (refine wx2 ?_ ?_ <;> (intro hp; clear hk a; intro a hk)) | (refine wx3 ?_; clear hk hS a; intro w b hS a hk) | (refine wx4 ?_; clear hk hS a; intro w hS a hk) | (refine wx5 ?_; clear hk hS a; intro w v hS a hk) | fail) | refine wx0 ?_ | (refine s_end hk ?_; clear hk a; intro a hk) | fail))
        rw [once_out hm]
        exact done1 hk (h := ⟨rfl, hS.sub (.cons (by (repeat (first | exact At.here | apply At.there))) (.cons (by (repeat (first | exact At.here | apply At.there))) .refl))⟩)
      · (repeat' (first | (show wpListIn _ _ _ _ _ (_ :: _) _ _; first | (refine wx1 ?_; clear hk a; intro a hk) | (refine wx2 ?_ ?_ <;> (intro hp; clear hk a; intro a hk)) | (refine wx3 ?_; clear hk hS a; intro w b hS a hk) | (refine wx4 ?_; clear hk hS a; intro w hS a hk) | (refine wx5 ?_; clear hk hS a; intro w v hS a hk) | fail) | refine wx0 ?_ | (refine s_end hk ?_; clear hk a; intro a hk) | fail))
        rw [once_in hm]
        exact done1 hk (h := ⟨rfl, hS.sub (by (repeat (first | exact Sub.refl | apply Sub.under)))⟩)
    · rw [if_neg h1] at hopt
      by_cases h2 : r = kSlot
      · rw [if_pos h2] at hopt
        subst hopt
        (repeat' (first | (show wpListIn _ _ _ _ _ (_ :: _) _ _; first | (refine wx1 ?_; clear hk a; intro a hk) | (refine wx2 ?_ ?_ <;> (intro hp; clear hk a; intro a hk)) | (refine wx3 ?_; clear hk hS a; intro w b hS a hk) | (refine wx4 ?_; clear hk hS a; intro w hS a hk) | (refine wx5 ?_; clear hk hS a; intro w v hS a hk) | fail) | refine wx0 ?_ | (refine s_end hk ?_; clear hk a; intro a hk) | fail))
        refine sg hk (g_callO hk (hf := by kernel_rfl) (hc := once_any (l := M) (hS.sub (.cons (by (repeat (first | exact At.here | apply At.there))) .refl))) (h := ?_)); clear hk hS a; intro vr w hS a hk
        obtain ⟨ok', rfl, ⟨rfl, hm, hS⟩ | ⟨rfl, hm, hS⟩⟩ := hS
        · (repeat' (first | (show wpListIn _ _ _ _ _ (_ :: _) _ _; first | (refine wx1 ?_; clear hk a; intro a hk) | (refine wx2 ?_ ?_ <;> (intro hp; clear hk a; intro a hk)) | (refine wx3 ?_; clear hk hS a; intro w b hS a hk) | (refine wx4 ?_; clear hk hS a; intro w hS a hk) | (refine wx5 ?_; clear hk hS a; intro w v hS a hk) | fail) | refine wx0 ?_ | (refine s_end hk ?_; clear hk a; intro a hk) | fail))
          rw [once_out hm]
          exact done1 hk (h := ⟨rfl, hS.sub (.cons (by (repeat (first | exact At.here | apply At.there))) (.cons (by (repeat (first | exact At.here | apply At.there))) .refl))⟩)
        · (repeat' (first | (show wpListIn _ _ _ _ _ (_ :: _) _ _; first | (refine wx1 ?_; clear hk a; intro a hk) | (refine wx2 ?_ ?_ <;> (intro hp; clear hk a; intro a hk)) | (refine wx3 ?_; clear hk hS a; intro w b hS a hk) | (refine wx4 ?_; clear hk hS a; intro w hS a hk) | (refine wx5 ?_; clear hk hS a; intro w v hS a hk) | fail) | refine wx0 ?_ | (refine s_end hk ?_; clear hk a; intro a hk) | fail))
          rw [once_in hm]
          exact done1 hk (h := ⟨rfl, hS.sub (by (repeat (first | exact Sub.refl | apply Sub.under)))⟩)
      · rw [if_neg h2] at hopt
        by_cases h3 : r = kAppear
        · rw [if_pos h3] at hopt
          subst hopt
          (repeat' (first | (show wpListIn _ _ _ _ _ (_ :: _) _ _; first | (refine wx1 ?_; clear hk a; intro a hk) | (refine wx2 ?_ ?_ <;> (intro hp; clear hk a; intro a hk)) | (refine wx3 ?_; clear hk hS a; intro w b hS a hk) | (refine wx4 ?_; clear hk hS a; intro w hS a hk) | (refine wx5 ?_; clear hk hS a; intro w v hS a hk) | fail) | refine wx0 ?_ | (refine s_end hk ?_; clear hk a; intro a hk) | fail))
          refine sg hk (g_callO hk (hf := by kernel_rfl) (hc := once_any (l := M) (hS.sub (.cons (by (repeat (first | exact At.here | apply At.there))) .refl))) (h := ?_)); clear hk hS a; intro vr w hS a hk
          obtain ⟨ok', rfl, ⟨rfl, hm, hS⟩ | ⟨rfl, hm, hS⟩⟩ := hS
          · (repeat' (first | (show wpListIn _ _ _ _ _ (_ :: _) _ _; first | (refine wx1 ?_; clear hk a; intro a hk) | (refine wx2 ?_ ?_ <;> (intro hp; clear hk a; intro a hk)) | (refine wx3 ?_; clear hk hS a; intro w b hS a hk) | (refine wx4 ?_; clear hk hS a; intro w hS a hk) | (refine wx5 ?_; clear hk hS a; intro w v hS a hk) | fail) | refine wx0 ?_ | (refine s_end hk ?_; clear hk a; intro a hk) | fail))
            rw [h3] at hm hS
            rw [once_out hm]
            exact done1 hk (h := ⟨rfl, hS.sub (.cons (by (repeat (first | exact At.here | apply At.there))) (.cons (by (repeat (first | exact At.here | apply At.there))) .refl))⟩)
          · (repeat' (first | (show wpListIn _ _ _ _ _ (_ :: _) _ _; first | (refine wx1 ?_; clear hk a; intro a hk) | (refine wx2 ?_ ?_ <;> (intro hp; clear hk a; intro a hk)) | (refine wx3 ?_; clear hk hS a; intro w b hS a hk) | (refine wx4 ?_; clear hk hS a; intro w hS a hk) | (refine wx5 ?_; clear hk hS a; intro w v hS a hk) | fail) | refine wx0 ?_ | (refine s_end hk ?_; clear hk a; intro a hk) | fail))
            rw [h3] at hm
            rw [once_in hm]
            exact done1 hk (h := ⟨rfl, hS.sub (by (repeat (first | exact Sub.refl | apply Sub.under)))⟩)
        · rw [if_neg h3] at hopt
          by_cases h4 : r = kMoves
          · rw [if_pos h4] at hopt
            subst hopt
            (repeat' (first | (show wpListIn _ _ _ _ _ (_ :: _) _ _; first | (refine wx1 ?_; clear hk a; intro a hk) | (refine wx2 ?_ ?_ <;> (intro hp; clear hk a; intro a hk)) | (refine wx3 ?_; clear hk hS a; intro w b hS a hk) | (refine wx4 ?_; clear hk hS a; intro w hS a hk) | (refine wx5 ?_; clear hk hS a; intro w v hS a hk) | fail) | refine wx0 ?_ | (refine s_end hk ?_; clear hk a; intro a hk) | fail))
            refine sg hk (g_callO hk (hf := by kernel_rfl) (hc := once_any (l := M) (hS.sub (.cons (by (repeat (first | exact At.here | apply At.there))) .refl))) (h := ?_)); clear hk hS a; intro vr w hS a hk
            obtain ⟨ok', rfl, ⟨rfl, hm, hS⟩ | ⟨rfl, hm, hS⟩⟩ := hS
            · (repeat' (first | (show wpListIn _ _ _ _ _ (_ :: _) _ _; first | (refine wx1 ?_; clear hk a; intro a hk) | (refine wx2 ?_ ?_ <;> (intro hp; clear hk a; intro a hk)) | (refine wx3 ?_; clear hk hS a; intro w b hS a hk) | (refine wx4 ?_; clear hk hS a; intro w hS a hk) | (refine wx5 ?_; clear hk hS a; intro w v hS a hk) | fail) | refine wx0 ?_ | (refine s_end hk ?_; clear hk a; intro a hk) | fail))
              rw [h4] at hm hS
              rw [once_out hm]
              exact done1 hk (h := ⟨rfl, hS.sub (.cons (by (repeat (first | exact At.here | apply At.there))) (.cons (by (repeat (first | exact At.here | apply At.there))) .refl))⟩)
            · (repeat' (first | (show wpListIn _ _ _ _ _ (_ :: _) _ _; first | (refine wx1 ?_; clear hk a; intro a hk) | (refine wx2 ?_ ?_ <;> (intro hp; clear hk a; intro a hk)) | (refine wx3 ?_; clear hk hS a; intro w b hS a hk) | (refine wx4 ?_; clear hk hS a; intro w hS a hk) | (refine wx5 ?_; clear hk hS a; intro w v hS a hk) | fail) | refine wx0 ?_ | (refine s_end hk ?_; clear hk a; intro a hk) | fail))
              rw [h4] at hm
              rw [once_in hm]
              exact done1 hk (h := ⟨rfl, hS.sub (by (repeat (first | exact Sub.refl | apply Sub.under)))⟩)
          · rw [if_neg h4] at hopt
            by_cases h5 : r = kOutIn
            · rw [if_pos h5] at hopt
              subst hopt
              (repeat' (first | (show wpListIn _ _ _ _ _ (_ :: _) _ _; first | (refine wx1 ?_; clear hk a; intro a hk) | (refine wx2 ?_ ?_ <;> (intro hp; clear hk a; intro a hk)) | (refine wx3 ?_; clear hk hS a; intro w b hS a hk) | (refine wx4 ?_; clear hk hS a; intro w hS a hk) | (refine wx5 ?_; clear hk hS a; intro w v hS a hk) | fail) | refine wx0 ?_ | (refine s_end hk ?_; clear hk a; intro a hk) | fail))
              refine sg hk (g_callO hk (hf := by kernel_rfl) (hc := once_any (l := M) (hS.sub (.cons (by (repeat (first | exact At.here | apply At.there))) .refl))) (h := ?_)); clear hk hS a; intro vr w hS a hk
              obtain ⟨ok', rfl, ⟨rfl, hm, hS⟩ | ⟨rfl, hm, hS⟩⟩ := hS
              · (repeat' (first | (show wpListIn _ _ _ _ _ (_ :: _) _ _; first | (refine wx1 ?_; clear hk a; intro a hk) | (refine wx2 ?_ ?_ <;> (intro hp; clear hk a; intro a hk)) | (refine wx3 ?_; clear hk hS a; intro w b hS a hk) | (refine wx4 ?_; clear hk hS a; intro w hS a hk) | (refine wx5 ?_; clear hk hS a; intro w v hS a hk) | fail) | refine wx0 ?_ | (refine s_end hk ?_; clear hk a; intro a hk) | fail))
                rw [once_out hm]
                exact done1 hk (h := ⟨rfl, hS.sub (.cons (by (repeat (first | exact At.here | apply At.there))) (.cons (by (repeat (first | exact At.here | apply At.there))) .refl))⟩)
              · (repeat' (first | (show wpListIn _ _ _ _ _ (_ :: _) _ _; first | (refine wx1 ?_; clear hk a; intro a hk) | (refine wx2 ?_ ?_ <;> (intro hp; clear hk a; intro a hk)) | (refine wx3 ?_; clear hk hS a; intro w b hS a hk) | (refine wx4 ?_; clear hk hS a; intro w hS a hk) | (refine wx5 ?_; clear hk hS a; intro w v hS a hk) | fail) | refine wx0 ?_ | (refine s_end hk ?_; clear hk a; intro a hk) | fail))
                rw [once_in hm]
                exact done1 hk (h := ⟨rfl, hS.sub (by (repeat (first | exact Sub.refl | apply Sub.under)))⟩)
            · rw [if_neg h5] at hopt
              by_cases h6 : r = kInOut
              · rw [if_pos h6] at hopt
                subst hopt
                (repeat' (first | (show wpListIn _ _ _ _ _ (_ :: _) _ _; first | (refine wx1 ?_; clear hk a; intro a hk) | (refine wx2 ?_ ?_ <;> (intro hp; clear hk a; intro a hk)) | (refine wx3 ?_; clear hk hS a; intro w b hS a hk) | (refine wx4 ?_; clear hk hS a; intro w hS a hk) | (refine wx5 ?_; clear hk hS a; intro w v hS a hk) | fail) | refine wx0 ?_ | (refine s_end hk ?_; clear hk a; intro a hk) | fail))
                refine sg hk (g_callO hk (hf := by kernel_rfl) (hc := once_any (l := M) (hS.sub (.cons (by (repeat (first | exact At.here | apply At.there))) .refl))) (h := ?_)); clear hk hS a; intro vr w hS a hk
                obtain ⟨ok', rfl, ⟨rfl, hm, hS⟩ | ⟨rfl, hm, hS⟩⟩ := hS
                · (repeat' (first | (show wpListIn _ _ _ _ _ (_ :: _) _ _; first | (refine wx1 ?_; clear hk a; intro a hk) | (refine wx2 ?_ ?_ <;> (intro hp; clear hk a; intro a hk)) | (refine wx3 ?_; clear hk hS a; intro w b hS a hk) | (refine wx4 ?_; clear hk hS a; intro w hS a hk) | (refine wx5 ?_; clear hk hS a; intro w v hS a hk) | fail) | refine wx0 ?_ | (refine s_end hk ?_; clear hk a; intro a hk) | fail))
                  rw [once_out hm]
                  exact done1 hk (h := ⟨rfl, hS.sub (.cons (by (repeat (first | exact At.here | apply At.there))) (.cons (by (repeat (first | exact At.here | apply At.there))) .refl))⟩)
                · (repeat' (first | (show wpListIn _ _ _ _ _ (_ :: _) _ _; first | (refine wx1 ?_; clear hk a; intro a hk) | (refine wx2 ?_ ?_ <;> (intro hp; clear hk a; intro a hk)) | (refine wx3 ?_; clear hk hS a; intro w b hS a hk) | (refine wx4 ?_; clear hk hS a; intro w hS a hk) | (refine wx5 ?_; clear hk hS a; intro w v hS a hk) | fail) | refine wx0 ?_ | (refine s_end hk ?_; clear hk a; intro a hk) | fail))
                  rw [once_in hm]
                  exact done1 hk (h := ⟨rfl, hS.sub (by (repeat (first | exact Sub.refl | apply Sub.under)))⟩)
              · rw [if_neg h6] at hopt
                subst hopt
                (repeat' (first | (show wpListIn _ _ _ _ _ (_ :: _) _ _; first | (refine wx1 ?_; clear hk a; intro a hk) | (refine wx2 ?_ ?_ <;> (intro hp; clear hk a; intro a hk)) | (refine wx3 ?_; clear hk hS a; intro w b hS a hk) | (refine wx4 ?_; clear hk hS a; intro w hS a hk) | (refine wx5 ?_; clear hk hS a; intro w v hS a hk) | fail) | refine wx0 ?_ | (refine s_end hk ?_; clear hk a; intro a hk) | fail))
                exact done1 hk (h := ⟨rfl, hS.sub (by (repeat (first | exact Sub.refl | apply Sub.under)))⟩)
end
end Go.Proofs.YtipdgobplfkipaaGreatDoor
namespace Go.Proofs.YtipdgobplfkipaaGreatDoor
open Go.RowKit
set_option maxRecDepth 100000
attribute [local irreducible] Go.Code.wpIn Go.wpListIn Go.Calls Gives Go.Exit.then Go.Exit.inBlock Done ObxE

section
variable {n : Itm} {w : ByteArray} {M : List ByteArray}
theorem itm_hd (h : 0 < w.size) : ∃ r, w.data.toList = w[0] :: r := ⟨_, by have := drop_cons h; rwa [List.drop_zero] at this⟩
theorem itm35 (h : 0 < w.size) (hc : w[0].toNat = 35) : itmP n w M = onceP (α := Itm) M (if keyS (w.extract 1 w.size) = true then some ({ n with key := w.extract 1 w.size }, ⟨#[35]⟩) else none) := by
  obtain ⟨r, hr⟩ := itm_hd h
  unfold itmP; rw [hr]; simp only [hc]; rfl
theorem itm46 (h : 0 < w.size) (hc : w[0].toNat = 46) : itmP n w M = if nameS (w.extract 1 w.size) = true then some ({ n with cl := n.cl ++ [w.extract 1 w.size] }, M) else none := by
  obtain ⟨r, hr⟩ := itm_hd h
  unfold itmP; rw [hr]; simp only [hc]; rfl
theorem itm64 (h : 0 < w.size) (hc : w[0].toNat = 64) : itmP n w M = onceP (α := Itm) M (if (cutR 61 (w.extract 1 w.size)).2.2 = true ∧ nameS (cutR 61 (w.extract 1 w.size)).1 = true ∧ valS (cutR 61 (w.extract 1 w.size)).2.1 = true then some ({ n with al := n.al ++ [((cutR 61 (w.extract 1 w.size)).1, (cutR 61 (w.extract 1 w.size)).2.1)] }, ⟨#[64]⟩ ++ (cutR 61 (w.extract 1 w.size)).1) else none) := by
  obtain ⟨r, hr⟩ := itm_hd h
  unfold itmP; rw [hr]; simp only [hc]; rfl
theorem itm33 (h : 0 < w.size) (hc : w[0].toNat = 33) : itmP n w M = onceP (α := Itm) M ((optP n.k n.o (w.extract 1 w.size)).map fun x => ({ n with k := x.1.1, o := x.1.2 }, x.2)) := by
  obtain ⟨r, hr⟩ := itm_hd h
  unfold itmP; rw [hr]; simp only [hc]; rfl
theorem itmS (h : 0 < w.size) (h1 : w[0].toNat ≠ 35) (h2 : w[0].toNat ≠ 46) (h3 : w[0].toNat ≠ 64) (h4 : w[0].toNat ≠ 33) :
    itmP n w M = onceP (α := Itm) M (if (cutR 61 w).2.2 = true ∧ (numP (cutR 61 w).2.1.data.toList).2 = true ∧ nameS (cutR 61 w).1 = true then some ({ n with sl := n.sl ++ [((cutR 61 w).1, (numP (cutR 61 w).2.1.data.toList).1)] }, ⟨#[61]⟩ ++ (cutR 61 w).1) else none) := by
  obtain ⟨r, hr⟩ := itm_hd h
  unfold itmP; rw [hr]; simp only [if_neg h1, if_neg h2, if_neg h3, if_neg h4]
theorem once_map {α β : Type} (f : α → β) (x : Option (α × ByteArray)) : onceP M (x.map fun y => (f y.1, y.2)) = (onceP M x).map fun y => (f y.1, y.2) := by
  cases x with
  | none => rfl
  | some y =>
    obtain ⟨a, k⟩ := y
    simp only [Option.map_some, onceP]
    by_cases h : (M.any fun y => decide (y = k)) = true
    · rw [if_pos h, if_pos h]; rfl
    · rw [if_neg h, if_neg h]; rfl
end

abbrev nodL (bn : Nat) (k : Int) (tag key : ByteArray) (cl : List ByteArray) (al : List PrS) (sl : List PrI) (o : Opt) (hc ha hs hh : Hd) (vm : Value) (M : List ByteArray) (L : List HP) : List HP :=
  pts bn (ndC k tag key hc ha hs o hh) 33 :: OwT 9 cl hc.v :: OwT 76 (snapF nmS al) ha.v :: OwT 77 (snapF nmI sl) hs.v :: mapH encT vm (seenM M) :: L
section
variable {B : Bs} {L : List HP} {w : World}
set_option maxHeartbeats 8000000 in
theorem item_any (bn : Nat) (k : Int) (tag key : ByteArray) (cl : List ByteArray) (al : List PrS) (sl : List PrI) (hc ha hs hh : Hd) (o : Opt) (x : ByteArray) (M : List ByteArray) (vm : Value) (h0 : 0 < x.size) (hx : x.size ≤ 1000000)
    (hcl : cl.length ≤ 30000) (hal : al.length ≤ 30000) (hsl : sl.length ≤ 30000) (hS : St B (nodL bn k tag key cl al sl o hc ha hs hh vm M L) w) :
    Calls Tryz.prog 76 #[.pointer (some ⟨bn, 0, none⟩), .string x, vm] w (Ret fun v w' => match itmP ⟨k, tag, key, cl, al, sl, o⟩ x M with
      | none => v = .bool false ∧ St B L w'
      | some (n, M') => ∃ hc' ha' hs', v = .bool true ∧ St B (nodL bn n.k n.tag n.key n.cl n.al n.sl n.o hc' ha' hs' hh vm M' L) w') := by
  have hrs : (x.extract 1 x.size).size ≤ x.size := by rw [ByteArray.size_extract]; omega
  have ha0 := snap_len nmS al
  have hs0 := snap_len nmI sl
  have h1 : ((1 : Int)).toNat = 1 := rfl
  refine enter Tryz.func76 rfl Tryz.ntmps76 rfl (fun a hk => ?_)
  by_cases c35 : x[0].toNat = 35
  · rw [itm35 h0 c35]
    (repeat' (first | (show wpListIn _ _ _ _ _ (_ :: _) _ _; first | (refine wx1 ?_; clear hk a; intro a hk) | (refine wx2 ?_ ?_ <;> (intro hp; clear hk a; intro a hk)) | (refine wx3 ?_; clear hk hS a; intro w b hS a hk) | (refine wx4 ?_; clear hk hS a; intro w hS a hk) | (refine wx5 ?_; clear hk hS a; intro w v hS a hk) | fail) | refine wx0 ?_ | (refine s_end hk ?_; clear hk a; intro a hk) | fail))
    simp only [h1] at hk; try simp only [h1] at hS
    generalize x.extract 1 x.size = r at *
    refine sg hk (g_callO hk (hf := by kernel_rfl) (hc := key_any r (by omega) _) (h := ?_)); clear hk a; rintro _ w ⟨rfl, hS1⟩ a hk; replace hS := hS.call0 hS1; clear hS1
    cases hb : keyS r with
    | false =>
      rw [hb] at hk
      rw [if_neg (by decide)]
      (repeat' (first | (show wpListIn _ _ _ _ _ (_ :: _) _ _; first | (refine wx1 ?_; clear hk a; intro a hk) | (refine wx2 ?_ ?_ <;> (intro hp; clear hk a; intro a hk)) | (refine wx3 ?_; clear hk hS a; intro w b hS a hk) | (refine wx4 ?_; clear hk hS a; intro w hS a hk) | (refine wx5 ?_; clear hk hS a; intro w v hS a hk) | fail) | refine wx0 ?_ | (refine s_end hk ?_; clear hk a; intro a hk) | fail))
      exact done1 hk (h := ⟨rfl, hS.sub (by (repeat (first | exact Sub.refl | apply Sub.under)))⟩)
    | true =>
      rw [hb] at hk
      rw [if_pos rfl]
      (repeat' (first | (show wpListIn _ _ _ _ _ (_ :: _) _ _; first | (refine wx1 ?_; clear hk a; intro a hk) | (refine wx2 ?_ ?_ <;> (intro hp; clear hk a; intro a hk)) | (refine wx3 ?_; clear hk hS a; intro w b hS a hk) | (refine wx4 ?_; clear hk hS a; intro w hS a hk) | (refine wx5 ?_; clear hk hS a; intro w v hS a hk) | fail) | refine wx0 ?_ | (refine s_end hk ?_; clear hk a; intro a hk) | fail))
      refine sg hk (g_callO hk (hf := by kernel_rfl) (hc := once_any (l := M) (hS.sub (.cons (by (repeat (first | exact At.here | apply At.there))) .refl))) (h := ?_)); clear hk hS a; intro vr w hS a hk
      obtain ⟨ok', rfl, ⟨rfl, hm, hS⟩ | ⟨rfl, hm, hS⟩⟩ := hS
      · (repeat' (first | (show wpListIn _ _ _ _ _ (_ :: _) _ _; first | (refine wx1 ?_; clear hk a; intro a hk) | (refine wx2 ?_ ?_ <;> (intro hp; clear hk a; intro a hk)) | (refine wx3 ?_; clear hk hS a; intro w b hS a hk) | (refine wx4 ?_; clear hk hS a; intro w hS a hk) | (refine wx5 ?_; clear hk hS a; intro w v hS a hk) | fail) | refine wx0 ?_ | (refine s_end hk ?_; clear hk a; intro a hk) | fail))
        rw [once_out hm]
        exact done1 hk (h := ⟨hc, ha, hs, rfl, hS.sub (.cons (by (repeat (first | exact At.here | apply At.there))) (.cons (by (repeat (first | exact At.here | apply At.there))) (.cons (by (repeat (first | exact At.here | apply At.there))) (.cons (by (repeat (first | exact At.here | apply At.there))) (.cons (by (repeat (first | exact At.here | apply At.there))) (by (repeat (first | exact Sub.refl | apply Sub.under))))))))⟩)
      · (repeat' (first | (show wpListIn _ _ _ _ _ (_ :: _) _ _; first | (refine wx1 ?_; clear hk a; intro a hk) | (refine wx2 ?_ ?_ <;> (intro hp; clear hk a; intro a hk)) | (refine wx3 ?_; clear hk hS a; intro w b hS a hk) | (refine wx4 ?_; clear hk hS a; intro w hS a hk) | (refine wx5 ?_; clear hk hS a; intro w v hS a hk) | fail) | refine wx0 ?_ | (refine s_end hk ?_; clear hk a; intro a hk) | fail))
        rw [once_in hm]
        exact done1 hk (h := ⟨rfl, hS.sub (by (repeat (first | exact Sub.refl | apply Sub.under)))⟩)
  · by_cases c46 : x[0].toNat = 46
    · rw [itm46 h0 c46]
      (repeat' (first | (show wpListIn _ _ _ _ _ (_ :: _) _ _; first | (refine wx1 ?_; clear hk a; intro a hk) | (refine wx2 ?_ ?_ <;> (intro hp; clear hk a; intro a hk)) | (refine wx3 ?_; clear hk hS a; intro w b hS a hk) | (refine wx4 ?_; clear hk hS a; intro w hS a hk) | (refine wx5 ?_; clear hk hS a; intro w v hS a hk) | fail) | refine wx0 ?_ | (refine s_end hk ?_; clear hk a; intro a hk) | fail))
      simp only [h1] at hk; try simp only [h1] at hS
      generalize x.extract 1 x.size = r at *
      rename Value => vn
      obtain ⟨aovn, cvn, hshp, _⟩ := (OwT.rd (hS.rd (A := OwT 9 _ vn) (by (repeat (first | exact At.here | apply At.there))))).shape; subst hshp
      (repeat' (first | (show wpListIn _ _ _ _ _ (_ :: _) _ _; first | (refine wx1 ?_; clear hk a; intro a hk) | (refine wx2 ?_ ?_ <;> (intro hp; clear hk a; intro a hk)) | (refine wx3 ?_; clear hk hS a; intro w b hS a hk) | (refine wx4 ?_; clear hk hS a; intro w hS a hk) | (refine wx5 ?_; clear hk hS a; intro w v hS a hk) | fail) | refine wx0 ?_ | (refine s_end hk ?_; clear hk a; intro a hk) | fail))
      refine sg hk (g_callO hk (hf := by kernel_rfl) (hc := name_any r (by omega) _) (h := ?_)); clear hk a; rintro _ w ⟨rfl, hS1⟩ a hk; replace hS := hS.call0 hS1; clear hS1
      cases hb : nameS r with
      | false =>
        rw [hb] at hk
        rw [if_neg (by decide)]
        (repeat' (first | (show wpListIn _ _ _ _ _ (_ :: _) _ _; first | (refine wx1 ?_; clear hk a; intro a hk) | (refine wx2 ?_ ?_ <;> (intro hp; clear hk a; intro a hk)) | (refine wx3 ?_; clear hk hS a; intro w b hS a hk) | (refine wx4 ?_; clear hk hS a; intro w hS a hk) | (refine wx5 ?_; clear hk hS a; intro w v hS a hk) | fail) | refine wx0 ?_ | (refine s_end hk ?_; clear hk a; intro a hk) | fail))
        exact done1 hk (h := ⟨rfl, hS.sub (by (repeat (first | exact Sub.refl | apply Sub.under)))⟩)
      | true =>
        rw [hb] at hk
        rw [if_pos rfl]
        (repeat' (first | (show wpListIn _ _ _ _ _ (_ :: _) _ _; first | (refine wx1 ?_; clear hk a; intro a hk) | (refine wx2 ?_ ?_ <;> (intro hp; clear hk a; intro a hk)) | (refine wx3 ?_; clear hk hS a; intro w b hS a hk) | (refine wx4 ?_; clear hk hS a; intro w hS a hk) | (refine wx5 ?_; clear hk hS a; intro w v hS a hk) | fail) | refine wx0 ?_ | (refine s_end hk ?_; clear hk a; intro a hk) | fail))
        exact done1 hk (h := ⟨⟨aovn, (cl ++ [r]).length, cvn⟩, ha, hs, rfl, hS.sub (.cons (by (repeat (first | exact At.here | apply At.there))) (.cons (by (repeat (first | exact At.here | apply At.there))) (.cons (by (repeat (first | exact At.here | apply At.there))) (.cons (by (repeat (first | exact At.here | apply At.there))) (.cons (by (repeat (first | exact At.here | apply At.there))) (by (repeat (first | exact Sub.refl | apply Sub.under))))))))⟩)
    · by_cases c64 : x[0].toNat = 64
      · rw [itm64 h0 c64]
        (repeat' (first | (show wpListIn _ _ _ _ _ (_ :: _) _ _; first | (refine wx1 ?_; clear hk a; intro a hk) | (refine wx2 ?_ ?_ <;> (intro hp; clear hk a; intro a hk)) | (refine wx3 ?_; clear hk hS a; intro w b hS a hk) | (refine wx4 ?_; clear hk hS a; intro w hS a hk) | (refine wx5 ?_; clear hk hS a; intro w v hS a hk) | fail) | refine wx0 ?_ | (refine s_end hk ?_; clear hk a; intro a hk) | fail))
        simp only [h1] at hk; try simp only [h1] at hS
        generalize x.extract 1 x.size = r at *
        obtain ⟨hl1, hl2⟩ := cut_le 61 r
        refine sg hk (g_callO hk (hf := by kernel_rfl) (hc := scut_any r 61 (by omega) _) (h := ?_)); clear hk a; rintro _ w ⟨rfl, hS1⟩ a hk; replace hS := hS.call0 hS1; clear hS1
        generalize (cutR 61 r).2.2 = is at *
        generalize (cutR 61 r).2.1 = va at *
        generalize (cutR 61 r).1 = nm at *
        (repeat' (first | (show wpListIn _ _ _ _ _ (_ :: _) _ _; first | (refine wx1 ?_; clear hk a; intro a hk) | (refine wx2 ?_ ?_ <;> (intro hp; clear hk a; intro a hk)) | (refine wx3 ?_; clear hk hS a; intro w b hS a hk) | (refine wx4 ?_; clear hk hS a; intro w hS a hk) | (refine wx5 ?_; clear hk hS a; intro w v hS a hk) | fail) | refine wx0 ?_ | (refine s_end hk ?_; clear hk a; intro a hk) | fail))
        refine sg hk (g_callO hk (hf := by kernel_rfl) (hc := setS_any (snapF nmS al) nm va ha.v _ (by first | exact St.rdT hS (by assumption) | exact OwT.rd (hS.rd (A := OwT _ _ _) (by (repeat (first | exact At.here | apply At.there)))) | assumption) (by omega)) (h := ?_)); clear hk a; rintro vp w hS1 a hk; replace hS := hS.call hS1; clear hS1
        rw [List.cons_append, List.nil_append, snap_snap, ← snap_snoc] at hS
        obtain ⟨aovp, cvp, hshp, _⟩ := (OwT.rd (hS.rd (A := OwT 76 _ vp) (by (repeat (first | exact At.here | apply At.there))))).shape; subst hshp
        (repeat' (first | (show wpListIn _ _ _ _ _ (_ :: _) _ _; first | (refine wx1 ?_; clear hk a; intro a hk) | (refine wx2 ?_ ?_ <;> (intro hp; clear hk a; intro a hk)) | (refine wx3 ?_; clear hk hS a; intro w b hS a hk) | (refine wx4 ?_; clear hk hS a; intro w hS a hk) | (refine wx5 ?_; clear hk hS a; intro w v hS a hk) | fail) | refine wx0 ?_ | (refine s_end hk ?_; clear hk a; intro a hk) | fail))
        cases is with
        | false =>
          rw [if_neg (by rintro ⟨h, -⟩; cases h)]
          (repeat' (first | (show wpListIn _ _ _ _ _ (_ :: _) _ _; first | (refine wx1 ?_; clear hk a; intro a hk) | (refine wx2 ?_ ?_ <;> (intro hp; clear hk a; intro a hk)) | (refine wx3 ?_; clear hk hS a; intro w b hS a hk) | (refine wx4 ?_; clear hk hS a; intro w hS a hk) | (refine wx5 ?_; clear hk hS a; intro w v hS a hk) | fail) | refine wx0 ?_ | (refine s_end hk ?_; clear hk a; intro a hk) | fail))
          exact done1 hk (h := ⟨rfl, hS.sub (by (repeat (first | exact Sub.refl | apply Sub.under)))⟩)
        | true =>
          (repeat' (first | (show wpListIn _ _ _ _ _ (_ :: _) _ _; first | (refine wx1 ?_; clear hk a; intro a hk) | (refine wx2 ?_ ?_ <;> (intro hp; clear hk a; intro a hk)) | (refine wx3 ?_; clear hk hS a; intro w b hS a hk) | (refine wx4 ?_; clear hk hS a; intro w hS a hk) | (refine wx5 ?_; clear hk hS a; intro w v hS a hk) | fail) | refine wx0 ?_ | (refine s_end hk ?_; clear hk a; intro a hk) | fail))
          refine sg hk (g_callO hk (hf := by kernel_rfl) (hc := name_any nm (by omega) _) (h := ?_)); clear hk a; rintro _ w ⟨rfl, hS1⟩ a hk; replace hS := hS.call0 hS1; clear hS1
          cases hb : nameS nm with
          | false =>
            rw [hb] at hk
            rw [if_neg (by rintro ⟨-, h, -⟩; cases h)]
            (repeat' (first | (show wpListIn _ _ _ _ _ (_ :: _) _ _; first | (refine wx1 ?_; clear hk a; intro a hk) | (refine wx2 ?_ ?_ <;> (intro hp; clear hk a; intro a hk)) | (refine wx3 ?_; clear hk hS a; intro w b hS a hk) | (refine wx4 ?_; clear hk hS a; intro w hS a hk) | (refine wx5 ?_; clear hk hS a; intro w v hS a hk) | fail) | refine wx0 ?_ | (refine s_end hk ?_; clear hk a; intro a hk) | fail))
            exact done1 hk (h := ⟨rfl, hS.sub (by (repeat (first | exact Sub.refl | apply Sub.under)))⟩)
          | true =>
            rw [hb] at hk
            (repeat' (first | (show wpListIn _ _ _ _ _ (_ :: _) _ _; first | (refine wx1 ?_; clear hk a; intro a hk) | (refine wx2 ?_ ?_ <;> (intro hp; clear hk a; intro a hk)) | (refine wx3 ?_; clear hk hS a; intro w b hS a hk) | (refine wx4 ?_; clear hk hS a; intro w hS a hk) | (refine wx5 ?_; clear hk hS a; intro w v hS a hk) | fail) | refine wx0 ?_ | (refine s_end hk ?_; clear hk a; intro a hk) | fail))
            refine sg hk (g_callO hk (hf := by kernel_rfl) (hc := value_any va (by omega) _) (h := ?_)); clear hk a; rintro _ w ⟨rfl, hS1⟩ a hk; replace hS := hS.call0 hS1; clear hS1
            cases hv : valS va with
            | false =>
              rw [hv] at hk
              rw [if_neg (by rintro ⟨-, -, h⟩; cases h)]
              (repeat' (first | (show wpListIn _ _ _ _ _ (_ :: _) _ _; first | (refine wx1 ?_; clear hk a; intro a hk) | (refine wx2 ?_ ?_ <;> (intro hp; clear hk a; intro a hk)) | (refine wx3 ?_; clear hk hS a; intro w b hS a hk) | (refine wx4 ?_; clear hk hS a; intro w hS a hk) | (refine wx5 ?_; clear hk hS a; intro w v hS a hk) | fail) | refine wx0 ?_ | (refine s_end hk ?_; clear hk a; intro a hk) | fail))
              exact done1 hk (h := ⟨rfl, hS.sub (by (repeat (first | exact Sub.refl | apply Sub.under)))⟩)
            | true =>
              rw [hv] at hk
              rw [if_pos ⟨rfl, rfl, rfl⟩]
              (repeat' (first | (show wpListIn _ _ _ _ _ (_ :: _) _ _; first | (refine wx1 ?_; clear hk a; intro a hk) | (refine wx2 ?_ ?_ <;> (intro hp; clear hk a; intro a hk)) | (refine wx3 ?_; clear hk hS a; intro w b hS a hk) | (refine wx4 ?_; clear hk hS a; intro w hS a hk) | (refine wx5 ?_; clear hk hS a; intro w v hS a hk) | fail) | refine wx0 ?_ | (refine s_end hk ?_; clear hk a; intro a hk) | fail))
              refine sg hk (g_cat hk ?_ (hl := by have : (⟨#[64]⟩ : ByteArray).size = 1 := rfl; simp only [maxLen]; omega)); clear hk a; intro a hk
              (repeat' (first | (show wpListIn _ _ _ _ _ (_ :: _) _ _; first | (refine wx1 ?_; clear hk a; intro a hk) | (refine wx2 ?_ ?_ <;> (intro hp; clear hk a; intro a hk)) | (refine wx3 ?_; clear hk hS a; intro w b hS a hk) | (refine wx4 ?_; clear hk hS a; intro w hS a hk) | (refine wx5 ?_; clear hk hS a; intro w v hS a hk) | fail) | refine wx0 ?_ | (refine s_end hk ?_; clear hk a; intro a hk) | fail))
              refine sg hk (g_callO hk (hf := by kernel_rfl) (hc := once_any (l := M) (hS.sub (.cons (by (repeat (first | exact At.here | apply At.there))) .refl))) (h := ?_)); clear hk hS a; intro vr w hS a hk
              obtain ⟨ok', rfl, ⟨rfl, hm, hS⟩ | ⟨rfl, hm, hS⟩⟩ := hS
              · (repeat' (first | (show wpListIn _ _ _ _ _ (_ :: _) _ _; first | (refine wx1 ?_; clear hk a; intro a hk) | (refine wx2 ?_ ?_ <;> (intro hp; clear hk a; intro a hk)) | (refine wx3 ?_; clear hk hS a; intro w b hS a hk) | (refine wx4 ?_; clear hk hS a; intro w hS a hk) | (refine wx5 ?_; clear hk hS a; intro w v hS a hk) | fail) | refine wx0 ?_ | (refine s_end hk ?_; clear hk a; intro a hk) | fail))
                rw [once_out hm]
                exact done1 hk (h := ⟨hc, ⟨aovp, (snapF nmS (al ++ [(nm, va)])).length, cvp⟩, hs, rfl, hS.sub (.cons (by (repeat (first | exact At.here | apply At.there))) (.cons (by (repeat (first | exact At.here | apply At.there))) (.cons (by (repeat (first | exact At.here | apply At.there))) (.cons (by (repeat (first | exact At.here | apply At.there))) (.cons (by (repeat (first | exact At.here | apply At.there))) (by (repeat (first | exact Sub.refl | apply Sub.under))))))))⟩)
              · (repeat' (first | (show wpListIn _ _ _ _ _ (_ :: _) _ _; first | (refine wx1 ?_; clear hk a; intro a hk) | (refine wx2 ?_ ?_ <;> (intro hp; clear hk a; intro a hk)) | (refine wx3 ?_; clear hk hS a; intro w b hS a hk) | (refine wx4 ?_; clear hk hS a; intro w hS a hk) | (refine wx5 ?_; clear hk hS a; intro w v hS a hk) | fail) | refine wx0 ?_ | (refine s_end hk ?_; clear hk a; intro a hk) | fail))
                rw [once_in hm]
                exact done1 hk (h := ⟨rfl, hS.sub (by (repeat (first | exact Sub.refl | apply Sub.under)))⟩)
      · by_cases c33 : x[0].toNat = 33
        · rw [itm33 h0 c33, once_map (fun y : Int × Opt => ({ k := y.1, tag := tag, key := key, cl := cl, al := al, sl := sl, o := y.2 } : Itm))]
          (repeat' (first | (show wpListIn _ _ _ _ _ (_ :: _) _ _; first | (refine wx1 ?_; clear hk a; intro a hk) | (refine wx2 ?_ ?_ <;> (intro hp; clear hk a; intro a hk)) | (refine wx3 ?_; clear hk hS a; intro w b hS a hk) | (refine wx4 ?_; clear hk hS a; intro w hS a hk) | (refine wx5 ?_; clear hk hS a; intro w v hS a hk) | fail) | refine wx0 ?_ | (refine s_end hk ?_; clear hk a; intro a hk) | fail))
          simp only [h1] at hk; try simp only [h1] at hS
          generalize x.extract 1 x.size = r at *
          refine sg hk (g_callO hk (hf := by kernel_rfl) (hc := option_any bn k tag key hc ha hs hh o r M vm (by omega) (hS.sub (.cons (by (repeat (first | exact At.here | apply At.there))) (.cons (by (repeat (first | exact At.here | apply At.there))) .refl)))) (h := ?_)); clear hk hS a; intro vr w hS a hk
          cases hop : onceP M (optP k o r) with
          | none =>
            rw [hop] at hS
            obtain ⟨rfl, hS⟩ := hS
            (repeat' (first | (show wpListIn _ _ _ _ _ (_ :: _) _ _; first | (refine wx1 ?_; clear hk a; intro a hk) | (refine wx2 ?_ ?_ <;> (intro hp; clear hk a; intro a hk)) | (refine wx3 ?_; clear hk hS a; intro w b hS a hk) | (refine wx4 ?_; clear hk hS a; intro w hS a hk) | (refine wx5 ?_; clear hk hS a; intro w v hS a hk) | fail) | refine wx0 ?_ | (refine s_end hk ?_; clear hk a; intro a hk) | fail))
            exact done1 hk (h := ⟨rfl, hS.sub (by (repeat (first | exact Sub.refl | apply Sub.under)))⟩)
          | some y =>
            obtain ⟨⟨k', o'⟩, M'⟩ := y
            rw [hop] at hS
            obtain ⟨rfl, hS⟩ := hS
            (repeat' (first | (show wpListIn _ _ _ _ _ (_ :: _) _ _; first | (refine wx1 ?_; clear hk a; intro a hk) | (refine wx2 ?_ ?_ <;> (intro hp; clear hk a; intro a hk)) | (refine wx3 ?_; clear hk hS a; intro w b hS a hk) | (refine wx4 ?_; clear hk hS a; intro w hS a hk) | (refine wx5 ?_; clear hk hS a; intro w v hS a hk) | fail) | refine wx0 ?_ | (refine s_end hk ?_; clear hk a; intro a hk) | fail))
            exact done1 hk (h := ⟨hc, ha, hs, rfl, hS.sub (.cons (by (repeat (first | exact At.here | apply At.there))) (.cons (by (repeat (first | exact At.here | apply At.there))) (.cons (by (repeat (first | exact At.here | apply At.there))) (.cons (by (repeat (first | exact At.here | apply At.there))) (.cons (by (repeat (first | exact At.here | apply At.there))) (by (repeat (first | exact Sub.refl | apply Sub.under))))))))⟩)
        · rw [itmS h0 c35 c46 c64 c33]
          obtain ⟨hl1, hl2⟩ := cut_le 61 x
          (repeat' (first | (show wpListIn _ _ _ _ _ (_ :: _) _ _; first | (refine wx1 ?_; clear hk a; intro a hk) | (refine wx2 ?_ ?_ <;> (intro hp; clear hk a; intro a hk)) | (refine wx3 ?_; clear hk hS a; intro w b hS a hk) | (refine wx4 ?_; clear hk hS a; intro w hS a hk) | (refine wx5 ?_; clear hk hS a; intro w v hS a hk) | fail) | refine wx0 ?_ | (refine s_end hk ?_; clear hk a; intro a hk) | fail))
          refine sg hk (g_callO hk (hf := by kernel_rfl) (hc := scut_any x 61 (by omega) _) (h := ?_)); clear hk a; rintro _ w ⟨rfl, hS1⟩ a hk; replace hS := hS.call0 hS1; clear hS1
          generalize (cutR 61 x).2.2 = is at *
          generalize (cutR 61 x).2.1 = va at *
          generalize (cutR 61 x).1 = nm at *
          (repeat' (first | (show wpListIn _ _ _ _ _ (_ :: _) _ _; first | (refine wx1 ?_; clear hk a; intro a hk) | (refine wx2 ?_ ?_ <;> (intro hp; clear hk a; intro a hk)) | (refine wx3 ?_; clear hk hS a; intro w b hS a hk) | (refine wx4 ?_; clear hk hS a; intro w hS a hk) | (refine wx5 ?_; clear hk hS a; intro w v hS a hk) | fail) | refine wx0 ?_ | (refine s_end hk ?_; clear hk a; intro a hk) | fail))
          refine sg hk (g_callO hk (hf := by kernel_rfl) (hc := number_any va (by omega) _) (h := ?_)); clear hk a; rintro _ w ⟨rfl, hS1⟩ a hk; replace hS := hS.call0 hS1; clear hS1
          generalize (numP va.data.toList).1 = nu at *
          generalize (numP va.data.toList).2 = ok at *
          (repeat' (first | (show wpListIn _ _ _ _ _ (_ :: _) _ _; first | (refine wx1 ?_; clear hk a; intro a hk) | (refine wx2 ?_ ?_ <;> (intro hp; clear hk a; intro a hk)) | (refine wx3 ?_; clear hk hS a; intro w b hS a hk) | (refine wx4 ?_; clear hk hS a; intro w hS a hk) | (refine wx5 ?_; clear hk hS a; intro w v hS a hk) | fail) | refine wx0 ?_ | (refine s_end hk ?_; clear hk a; intro a hk) | fail))
          refine sg hk (g_callO hk (hf := by kernel_rfl) (hc := setI_any (snapF nmI sl) nm nu hs.v _ (by first | exact St.rdT hS (by assumption) | exact OwT.rd (hS.rd (A := OwT _ _ _) (by (repeat (first | exact At.here | apply At.there)))) | assumption) (by omega)) (h := ?_)); clear hk a; rintro vp w hS1 a hk; replace hS := hS.call hS1; clear hS1
          rw [List.cons_append, List.nil_append, snap_snap, ← snap_snoc] at hS
          obtain ⟨aovp, cvp, hshp, _⟩ := (OwT.rd (hS.rd (A := OwT 77 _ vp) (by (repeat (first | exact At.here | apply At.there))))).shape; subst hshp
          (repeat' (first | (show wpListIn _ _ _ _ _ (_ :: _) _ _; first | (refine wx1 ?_; clear hk a; intro a hk) | (refine wx2 ?_ ?_ <;> (intro hp; clear hk a; intro a hk)) | (refine wx3 ?_; clear hk hS a; intro w b hS a hk) | (refine wx4 ?_; clear hk hS a; intro w hS a hk) | (refine wx5 ?_; clear hk hS a; intro w v hS a hk) | fail) | refine wx0 ?_ | (refine s_end hk ?_; clear hk a; intro a hk) | fail))
          cases is with
          | false =>
            rw [if_neg (by rintro ⟨h, -⟩; cases h)]
            (repeat' (first | (show wpListIn _ _ _ _ _ (_ :: _) _ _; first | (refine wx1 ?_; clear hk a; intro a hk) | (refine wx2 ?_ ?_ <;> (intro hp; clear hk a; intro a hk)) | (refine wx3 ?_; clear hk hS a; intro w b hS a hk) | (refine wx4 ?_; clear hk hS a; intro w hS a hk) | (refine wx5 ?_; clear hk hS a; intro w v hS a hk) | fail) | refine wx0 ?_ | (refine s_end hk ?_; clear hk a; intro a hk) | fail))
            exact done1 hk (h := ⟨rfl, hS.sub (by (repeat (first | exact Sub.refl | apply Sub.under)))⟩)
          | true =>
            cases ok with
            | false =>
              rw [if_neg (by rintro ⟨-, h, -⟩; cases h)]
              (repeat' (first | (show wpListIn _ _ _ _ _ (_ :: _) _ _; first | (refine wx1 ?_; clear hk a; intro a hk) | (refine wx2 ?_ ?_ <;> (intro hp; clear hk a; intro a hk)) | (refine wx3 ?_; clear hk hS a; intro w b hS a hk) | (refine wx4 ?_; clear hk hS a; intro w hS a hk) | (refine wx5 ?_; clear hk hS a; intro w v hS a hk) | fail) | refine wx0 ?_ | (refine s_end hk ?_; clear hk a; intro a hk) | fail))
              exact done1 hk (h := ⟨rfl, hS.sub (by (repeat (first | exact Sub.refl | apply Sub.under)))⟩)
            | true =>
              (repeat' (first | (show wpListIn _ _ _ _ _ (_ :: _) _ _; first | (refine wx1 ?_; clear hk a; intro a hk) | (refine wx2 ?_ ?_ <;> (intro hp; clear hk a; intro a hk)) | (refine wx3 ?_; clear hk hS a; intro w b hS a hk) | (refine wx4 ?_; clear hk hS a; intro w hS a hk) | (refine wx5 ?_; clear hk hS a; intro w v hS a hk) | fail) | refine wx0 ?_ | (refine s_end hk ?_; clear hk a; intro a hk) | fail))
              refine sg hk (g_callO hk (hf := by kernel_rfl) (hc := name_any nm (by omega) _) (h := ?_)); clear hk a; rintro _ w ⟨rfl, hS1⟩ a hk; replace hS := hS.call0 hS1; clear hS1
              cases hb : nameS nm with
              | false =>
                rw [hb] at hk
                rw [if_neg (by rintro ⟨-, -, h⟩; cases h)]
                (repeat' (first | (show wpListIn _ _ _ _ _ (_ :: _) _ _; first | (refine wx1 ?_; clear hk a; intro a hk) | (refine wx2 ?_ ?_ <;> (intro hp; clear hk a; intro a hk)) | (refine wx3 ?_; clear hk hS a; intro w b hS a hk) | (refine wx4 ?_; clear hk hS a; intro w hS a hk) | (refine wx5 ?_; clear hk hS a; intro w v hS a hk) | fail) | refine wx0 ?_ | (refine s_end hk ?_; clear hk a; intro a hk) | fail))
                exact done1 hk (h := ⟨rfl, hS.sub (by (repeat (first | exact Sub.refl | apply Sub.under)))⟩)
              | true =>
                rw [hb] at hk
                rw [if_pos ⟨rfl, rfl, rfl⟩]
                (repeat' (first | (show wpListIn _ _ _ _ _ (_ :: _) _ _; first | (refine wx1 ?_; clear hk a; intro a hk) | (refine wx2 ?_ ?_ <;> (intro hp; clear hk a; intro a hk)) | (refine wx3 ?_; clear hk hS a; intro w b hS a hk) | (refine wx4 ?_; clear hk hS a; intro w hS a hk) | (refine wx5 ?_; clear hk hS a; intro w v hS a hk) | fail) | refine wx0 ?_ | (refine s_end hk ?_; clear hk a; intro a hk) | fail))
                refine sg hk (g_cat hk ?_ (hl := by have : (⟨#[61]⟩ : ByteArray).size = 1 := rfl; simp only [maxLen]; omega)); clear hk a; intro a hk
                (repeat' (first | (show wpListIn _ _ _ _ _ (_ :: _) _ _; first | (refine wx1 ?_; clear hk a; intro a hk) | (refine wx2 ?_ ?_ <;> (intro hp; clear hk a; intro a hk)) | (refine wx3 ?_; clear hk hS a; intro w b hS a hk) | (refine wx4 ?_; clear hk hS a; intro w hS a hk) | (refine wx5 ?_; clear hk hS a; intro w v hS a hk) | fail) | refine wx0 ?_ | (refine s_end hk ?_; clear hk a; intro a hk) | fail))
                refine sg hk (g_callO hk (hf := by kernel_rfl) (hc := once_any (l := M) (hS.sub (.cons (by (repeat (first | exact At.here | apply At.there))) .refl))) (h := ?_)); clear hk hS a; intro vr w hS a hk
                obtain ⟨ok', rfl, ⟨rfl, hm, hS⟩ | ⟨rfl, hm, hS⟩⟩ := hS
                · (repeat' (first | (show wpListIn _ _ _ _ _ (_ :: _) _ _; first | (refine wx1 ?_; clear hk a; intro a hk) | (refine wx2 ?_ ?_ <;> (intro hp; clear hk a; intro a hk)) | (refine wx3 ?_; clear hk hS a; intro w b hS a hk) | (refine wx4 ?_; clear hk hS a; intro w hS a hk) | (refine wx5 ?_; clear hk hS a; intro w v hS a hk) | fail) | refine wx0 ?_ | (refine s_end hk ?_; clear hk a; intro a hk) | fail))
                  rw [once_out hm]
                  exact done1 hk (h := ⟨hc, ha, ⟨aovp, (snapF nmI (sl ++ [(nm, nu)])).length, cvp⟩, rfl, hS.sub (.cons (by (repeat (first | exact At.here | apply At.there))) (.cons (by (repeat (first | exact At.here | apply At.there))) (.cons (by (repeat (first | exact At.here | apply At.there))) (.cons (by (repeat (first | exact At.here | apply At.there))) (.cons (by (repeat (first | exact At.here | apply At.there))) (by (repeat (first | exact Sub.refl | apply Sub.under))))))))⟩)
                · (repeat' (first | (show wpListIn _ _ _ _ _ (_ :: _) _ _; first | (refine wx1 ?_; clear hk a; intro a hk) | (refine wx2 ?_ ?_ <;> (intro hp; clear hk a; intro a hk)) | (refine wx3 ?_; clear hk hS a; intro w b hS a hk) | (refine wx4 ?_; clear hk hS a; intro w hS a hk) | (refine wx5 ?_; clear hk hS a; intro w v hS a hk) | fail) | refine wx0 ?_ | (refine s_end hk ?_; clear hk a; intro a hk) | fail))
                  rw [once_in hm]
                  exact done1 hk (h := ⟨rfl, hS.sub (by (repeat (first | exact Sub.refl | apply Sub.under)))⟩)
end
end Go.Proofs.YtipdgobplfkipaaGreatDoor
namespace Go.Proofs.YtipdgobplfkipaaGreatDoor

theorem baeq {a b : ByteArray} (h : a.data.toList = b.data.toList) : a = b := ByteArray.ext (Array.ext' h)
theorem good_inj {x y : ByteArray} (hx : GoodK x) (hy : GoodK y) (h : keyP x = keyP y) : x = y := by
  have k1 : ∀ {z : ByteArray}, z = ⟨#[35]⟩ → keyP z = z ∧ z.data.toList = [35] := fun {z} e => by subst e; exact ⟨rfl, rfl⟩
  have k2 : ∀ {z : ByteArray} {c : UInt8} {r : List UInt8}, c ≠ 33 → z.data.toList = c :: r → keyP z = z := fun {z c r} hc e => by
    unfold keyP; rw [e]; split
    · rename_i h; injection h with h _; exact absurd h hc
    · rfl
  have k3 : ∀ {z : ByteArray} {r : List UInt8}, z.data.toList = 33 :: r → (keyP z).data.toList = r := fun {z r} e => by
    unfold keyP; rw [e]; show (⟨r.toArray⟩ : ByteArray).data.toList = r; simp
  have n64 : (64 : UInt8) ≠ 33 := by decide
  have n61 : (61 : UInt8) ≠ 33 := by decide
  have plain : ∀ {z : ByteArray}, GoodK z → (keyP z = z ∧ ∃ c r, z.data.toList = c :: r ∧ (c.toNat = 35 ∨ c.toNat = 64 ∨ c.toNat = 61)) ∨ (∃ c q, z.data.toList = 33 :: c :: q ∧ (keyP z).data.toList = c :: q ∧ c.toNat ≠ 35 ∧ c.toNat ≠ 64 ∧ c.toNat ≠ 61) := by
    intro z hz
    rcases hz with hz | ⟨r, hz⟩ | ⟨r, hz⟩ | ⟨r, hz, c, q, hr, h1, h2, h3, _⟩
    · exact .inl ⟨(k1 hz).1, 35, [], (k1 hz).2, .inl rfl⟩
    · exact .inl ⟨k2 n64 hz, 64, r, hz, .inr (.inl rfl)⟩
    · exact .inl ⟨k2 n61 hz, 61, r, hz, .inr (.inr rfl)⟩
    · subst hr; exact .inr ⟨c, q, hz, k3 hz, h1, h2, h3⟩
  rcases plain hx with ⟨a1, c, r, a2, a3⟩ | ⟨c, q, a1, a2, a3, a4, a5⟩
  · rcases plain hy with ⟨b1, _⟩ | ⟨c', q', b1, b2, b3, b4, b5⟩
    · rw [a1, b1] at h; exact h
    · rw [a1] at h
      rw [← h, a2] at b2
      injection b2 with e _
      subst e
      omega
  · rcases plain hy with ⟨b1, c', r', b2, b3⟩ | ⟨c', q', b1, b2, _⟩
    · rw [b1] at h
      rw [h, b2] at a2
      injection a2 with e _
      subst e
      omega
    · rw [h, b2] at a2
      exact baeq (by rw [a1, b1, a2])
theorem key_mem {seen : List ByteArray} {x : ByteArray} (hs : ∀ y ∈ seen, GoodK y) (hx : GoodK x) : keyP x ∈ seen.map keyP ↔ x ∈ seen := by
  constructor
  · intro h
    obtain ⟨y, hy, e⟩ := List.mem_map.1 h
    rw [← good_inj (hs y hy) hx e]; exact hy
  · exact fun h => List.mem_map.2 ⟨x, h, rfl⟩
abbrev toP (y : Itm × List ByteArray) : Itm × List ByteArray := (y.1, y.2.map keyP)
def fromO (seen : List ByteArray) (m : Option Itm) (x : Option ByteArray) : Option (Itm × List ByteArray) := match m with
  | none => none
  | some m => match x with
    | none => some (m, seen)
    | some x => if seen.any (fun y => decide (y = x)) = true then none else some (m, seen ++ [x])
theorem item_from (n : Itm) (w : ByteArray) (seen : List ByteArray) : itemF n w seen = fromO seen (addF n w) (whatF w) := rfl
theorem from_once {seen : List ByteArray} {m : Itm} {x : ByteArray} (hs : ∀ y ∈ seen, GoodK y) (hx : GoodK x) : (fromO seen (some m) (some x)).map toP = onceP (seen.map keyP) (some (m, keyP x)) := by
  show (if seen.any (fun y => decide (y = x)) = true then none else some (m, seen ++ [x])).map toP = _
  by_cases h : x ∈ seen
  · rw [if_pos (any_mem.2 h), once_in ((key_mem hs hx).2 h)]; rfl
  · rw [if_neg (fun h' => h (any_mem.1 h')), once_out (fun h' => h ((key_mem hs hx).1 h'))]; simp [toP]
theorem cut_cons {w : ByteArray} {c : UInt8} {r : List UInt8} (hw : w.data.toList = c :: r) (hc : c.toNat ≠ 61) : cutR 61 w = (⟨#[c]⟩ ++ (cutR 61 (w.extract 1 w.size)).1, (cutR 61 (w.extract 1 w.size)).2) := by
  have hsz : w.size = r.length + 1 := by have : w.data.toList.length = w.size := by simp
                                         rw [← this, hw]; rfl
  have h0 : 0 < w.size := by omega
  have hw0 : w[0] = c := by have := drop_cons h0; rw [List.drop_zero, hw] at this; injection this with e _; exact e.symm
  have h1 := scan_ext (notB 61) w 1 (by omega) _ 0 (Nat.le_refl _)
  have h2 : scan (notB 61) w 0 = scan (notB 61) w 1 := scan_yes h0 (by rw [hw0]; simp only [notB, Bool.not_eq_true', decide_eq_false_iff_not]; exact hc)
  have hz : (w.extract 1 w.size).size = w.size - 1 := by rw [ByteArray.size_extract]; omega
  unfold cutR
  rw [h2, hz]
  rw [show 1 + 0 = 1 from rfl] at h1
  generalize scan (notB 61) (w.extract 1 w.size) 0 = j at *
  rw [← h1]
  by_cases h : j + 1 < w.size
  · rw [if_pos h, if_pos (by omega)]
    refine Prod.ext ?_ (Prod.ext ?_ rfl)
    · apply baeq
      simp [ByteArray.data_append, ByteArray.data_extract, hw]
      omega
    · apply baeq
      show (w.extract (j + 1 + 1) w.size).data.toList = ((w.extract 1 w.size).extract (j + 1) (w.size - 1)).data.toList
      rw [ByteArray.extract_extract, show 1 + (j + 1) = j + 1 + 1 by omega, show min (1 + (w.size - 1)) w.size = w.size by omega]
  · have h' : ¬ j < w.size - 1 := fun hh => h (by omega)
    rw [if_neg h, if_neg h']
    refine Prod.ext ?_ rfl
    apply baeq
    simp [ByteArray.data_append, ByteArray.data_extract, hw, hsz]
theorem mark_eq {w : ByteArray} {r : List UInt8} (hw : w.data.toList = 33 :: r) (k : List UInt8) : w = ⟨⟨33 :: k⟩⟩ ↔ w.extract 1 w.size = ⟨⟨k⟩⟩ := by
  have hsz : w.size = r.length + 1 := by have : w.data.toList.length = w.size := by simp
                                         rw [← this, hw]; rfl
  have he : (w.extract 1 w.size).data.toList = r := by simp [ByteArray.data_extract, hw, hsz]
  constructor
  · intro e
    apply baeq
    rw [he]
    have : w.data.toList = 33 :: k := by rw [e]
    rw [hw] at this
    injection this
  · intro e
    apply baeq
    rw [hw]
    have : (w.extract 1 w.size).data.toList = k := by rw [e]
    rw [he] at this
    rw [this]
end Go.Proofs.YtipdgobplfkipaaGreatDoor
