/- Layer 9, plain: trees that are told apart by their texts. Layer 9, plain: without what is reserved. Layer 7: how great, how deep a view is, in plain words. Layer 7: which views may be, in plain words. -/
import Derived.Test.YtkcjkbnbblpomaaGreatDoorS21
import Derived.Test.YtkcjkbnbblpomaaGreatDoorS19
import Derived.Test.YtkcjkbnbblpomaaGreatDoorS20
import Derived.Test.YtkcjkbnbblpomaaGreatDoorS29
import Derived.Test.YtkcjkbnbblpomaaGreatDoorS23
import Derived.Test.YtkcjkbnbblpomaaGreatDoorS17
set_option linter.all false
namespace Go.Proofs.YtkcjkbnbblpomaaGreatDoor
open Go.RowKit

theorem span_eq (p : UInt8 → Bool) : ∀ (x y : List UInt8) (c d : UInt8) (r r' : List UInt8), x.all p = true → y.all p = true → p c = false → p d = false → x ++ c :: r = y ++ d :: r' → x = y ∧ c = d ∧ r = r'
  | [], [], c, d, r, r', _, _, _, _, h => by simpa using h
  | [], b :: y, c, d, r, r', _, hy, hc, _, h => by
    simp only [List.nil_append, List.cons_append, List.cons.injEq] at h
    rw [List.all_cons, ← h.1, hc] at hy
    simp at hy
  | a :: x, [], c, d, r, r', hx, _, _, hd, h => by
    simp only [List.nil_append, List.cons_append, List.cons.injEq] at h
    rw [List.all_cons, h.1, hd] at hx
    simp at hx
  | a :: x, b :: y, c, d, r, r', hx, hy, hc, hd, h => by
    simp only [List.cons_append, List.cons.injEq] at h
    rw [List.all_cons, Bool.and_eq_true] at hx hy
    obtain ⟨h1, h2, h3⟩ := span_eq p x y c d r r' hx.2 hy.2 hc hd h.2
    exact ⟨by rw [h.1, h1], h2, h3⟩
def Stp (r : List UInt8) : Prop := ∃ c q, r = c :: q ∧ (c = 32 ∨ c = 41)
theorem span_stp (p : UInt8 → Bool) (h1 : p 32 = false) (h2 : p 41 = false) {x y r r' : List UInt8} (hx : x.all p = true) (hy : y.all p = true) (hr : Stp r) (hr' : Stp r') (h : x ++ r = y ++ r') : x = y ∧ r = r' := by
  obtain ⟨c, q, rfl, hc⟩ := hr
  obtain ⟨d, q', rfl, hd⟩ := hr'
  have e1 : p c = false := by rcases hc with rfl | rfl <;> assumption
  have e2 : p d = false := by rcases hd with rfl | rfl <;> assumption
  obtain ⟨h3, h4, h5⟩ := span_eq p x y c d q q' hx hy e1 e2 h
  exact ⟨h3, by rw [h4, h5]⟩
def joinF {α : Type} (f : α → List UInt8) (l : List α) : List UInt8 := l.flatMap (fun x => 32 :: f x)
theorem joinF_cons {α : Type} (f : α → List UInt8) (x : α) (l : List α) : joinF f (x :: l) = 32 :: (f x ++ joinF f l) := by simp [joinF]
theorem joinF_stp {α : Type} (f : α → List UInt8) (l : List α) {r : List UInt8} (hr : Stp r) : Stp (joinF f l ++ r) := by
  cases l with
  | nil => exact hr
  | cons x l => rw [joinF_cons]; exact ⟨32, _, rfl, .inl rfl⟩
def NSt (q : UInt8 → Bool) (r : List UInt8) : Prop := ∀ c t, r = 32 :: c :: t → q c = false
theorem joinF_nst {α : Type} {q : UInt8 → Bool} {f : α → List UInt8} {l : List α} {r : List UInt8} (hl : ∀ x ∈ l, ∃ c t, f x = c :: t ∧ q c = false) (hr : NSt q r) : NSt q (joinF f l ++ r) := by
  cases l with
  | nil => exact hr
  | cons x l =>
    obtain ⟨c, t, e, hc⟩ := hl x (by simp)
    intro c' t' e'
    rw [joinF_cons, e] at e'
    simp only [List.cons_append, List.cons.injEq, true_and] at e'
    rw [← e'.1]; exact hc
def all2 {α : Type} (R : α → α → Prop) : List α → List α → Prop
  | [], [] => True
  | x :: l, y :: m => R x y ∧ all2 R l m
  | [], _ :: _ => False
  | _ :: _, [] => False
theorem all2_eq {α : Type} : ∀ {l m : List α}, all2 (· = ·) l m → l = m
  | [], [], _ => rfl
  | x :: l, y :: m, h => by rw [h.1, all2_eq h.2]
theorem items_eq {α : Type} (f : α → List UInt8) (q : UInt8 → Bool) (R : α → α → Prop) : ∀ (l m : List α) (r r' : List UInt8),
    (∀ x ∈ l, ∃ c t, f x = c :: t ∧ q c = true) → (∀ x ∈ m, ∃ c t, f x = c :: t ∧ q c = true) →
    (∀ x ∈ l, ∀ y ∈ m, ∀ s s', Stp s → Stp s' → f x ++ s = f y ++ s' → R x y ∧ s = s') →
    Stp r → Stp r' → NSt q r → NSt q r' → joinF f l ++ r = joinF f m ++ r' → all2 R l m ∧ r = r'
  | [], [], r, r', _, _, _, _, _, _, _, h => ⟨trivial, h⟩
  | [], y :: m, r, r', _, hm, _, _, _, hn, _, h => by
    obtain ⟨c, t, e, hc⟩ := hm y (by simp)
    rw [joinF_cons, e] at h
    have := hn c _ h
    rw [hc] at this
    exact absurd this (by decide)
  | x :: l, [], r, r', hl, _, _, _, _, _, hn, h => by
    obtain ⟨c, t, e, hc⟩ := hl x (by simp)
    rw [joinF_cons, e] at h
    have := hn c _ h.symm
    rw [hc] at this
    exact absurd this (by decide)
  | x :: l, y :: m, r, r', hl, hm, hu, h1, h2, h3, h4, h => by
    rw [joinF_cons, joinF_cons] at h
    simp only [List.cons_append, List.cons.injEq, true_and, List.append_assoc] at h
    obtain ⟨h5, h6⟩ := hu x (by simp) y (by simp) _ _ (joinF_stp f l h1) (joinF_stp f m h2) h
    obtain ⟨h7, h8⟩ := items_eq f q R l m r r' (fun x hx => hl x (by simp [hx])) (fun x hx => hm x (by simp [hx])) (fun x hx y hy => hu x (by simp [hx]) y (by simp [hy])) h1 h2 h3 h4 h6
    exact ⟨⟨h5, h7⟩, h8⟩

inductive VT : STree → Prop
  | mk {id k : Int} {tag text : ByteArray} {cl : List ByteArray} {al : List (ByteArray × ByteArray)} {sl : List (ByteArray × Int)} {kids : List STree}
    (h : (k = 1 ∧ text.data.toList.all priB = true ∧ tag = ⟨#[]⟩ ∧ cl = [] ∧ al = [] ∧ sl = [] ∧ kids = []) ∨
      (k = 2 ∧ text = ⟨#[]⟩ ∧ tag.data.toList.all plaB = true ∧ (∀ c ∈ cl, c.data.toList.all plaB = true) ∧ (∀ x ∈ al, x.1.data.toList.all plaB = true ∧ x.2.data.toList.all visB = true) ∧ (∀ x ∈ sl, nameS x.1 = true)))
    (hk : ∀ t ∈ kids, VT t) : VT (.mk id k tag text cl al sl kids)
def shB (t : STree) : List UInt8 := (showT false t).data.toList
def dotB (c : ByteArray) : List UInt8 := 46 :: c.data.toList
def attB (x : ByteArray × ByteArray) : List UInt8 := 64 :: (x.1.data.toList ++ 61 :: x.2.data.toList)
def styB (x : ByteArray × Int) : List UInt8 := x.1.data.toList ++ 61 :: Lib.itoa x.2
theorem bs_app (a b : ByteArray) : (a ++ b).data.toList = a.data.toList ++ b.data.toList := by rw [ByteArray.data_append, Array.toList_append]
theorem joinT_app (a b : List ByteArray) : joinT (a ++ b) = joinT a ++ joinT b := by simp [joinT]
theorem joinT_F {α : Type} (g : α → ByteArray) (l : List α) : joinT (l.map g) = joinF (fun x => (g x).data.toList) l := by
  unfold joinT joinF
  rw [List.flatMap_map]
theorem shB_txt {id : Int} {tag text : ByteArray} {cl : List ByteArray} {al : List (ByteArray × ByteArray)} {sl : List (ByteArray × Int)} {kids : List STree} :
    shB (.mk id 1 tag text cl al sl kids) = 39 :: (text.data.toList ++ [39]) := by
  unfold shB
  rw [showT, if_pos rfl]
  simp only [bs_app, lblS]
  rfl
theorem shB_elm {id k : Int} {tag text : ByteArray} {cl : List ByteArray} {al : List (ByteArray × ByteArray)} {sl : List (ByteArray × Int)} {kids : List STree} (hk : k ≠ 1) :
    shB (.mk id k tag text cl al sl kids) = 40 :: (tag.data.toList ++ (joinF dotB cl ++ (joinF attB al ++ (joinF styB sl ++ (joinF shB kids ++ [41]))))) := by
  have e1 : (fun c => (dotS c).data.toList) = dotB := by funext c; simp only [dotS, bs_app]; rfl
  have e2 : (fun x => (attS x).data.toList) = attB := by funext c; simp only [attS, bs_app, attB]; simp
  have e3 : (fun x => (styS x).data.toList) = styB := by funext c; simp only [styS, bs_app, styB, ito_list]; simp
  unfold shB
  rw [showT, if_neg hk, hdL, showL_map]
  simp only [bs_app, List.cons_append, joinL, joinT_app, joinT_F, lblS, e1, e2, e3]
  simp [shB]
theorem ito_chars (n : Int) : (Lib.itoa n).all (fun b => digB b || decide (b = 45)) = true := by
  obtain ⟨-, f2, -⟩ := dec_facts n.natAbs
  have h : (Lib.decDigits n.natAbs).all (fun b => digB b || decide (b = 45)) = true := by
    rw [List.all_eq_true] at f2 ⊢
    intro b hb
    rw [f2 b hb]; rfl
  unfold Lib.itoa
  split
  · rw [List.all_cons, h]; rfl
  · rw [show n.toNat = n.natAbs by omega]; exact h
theorem ba_ext {a b : ByteArray} (h : a.data.toList = b.data.toList) : a = b := by
  cases a; cases b
  congr 1
  exact Array.toList_inj.1 h
theorem ito_eq {n m : Int} (h : Lib.itoa n = Lib.itoa m) : n = m := by rw [← num_ito n, h, num_ito]
theorem all2_samSL {l m : List STree} (h : all2 (fun t u => eqS t u = true) l m) : eqSL l m = true := by
  induction l generalizing m with
  | nil => cases m with
    | nil => simp [eqSL]
    | cons => exact h.elim
  | cons x l ih => cases m with
    | nil => exact h.elim
    | cons y m => rw [eqSL, h.1, ih h.2]; rfl
theorem sh_first (t : STree) : ∃ c r, shB t = c :: r ∧ (c = 39 ∨ c = 40) := by
  cases t with
  | mk id k tag text cl al sl kids =>
    by_cases hk : k = 1
    · subst hk; exact ⟨39, _, shB_txt, .inl rfl⟩
    · exact ⟨40, _, shB_elm hk, .inr rfl⟩
theorem sty_first {x : ByteArray × Int} (h : nameS x.1 = true) : ∃ c t, styB x = c :: t ∧ letB c = true := by
  unfold nameS at h
  unfold styB
  cases hl : x.1.data.toList with
  | nil => rw [hl] at h; simp at h
  | cons a r =>
    rw [hl] at h
    simp only [Bool.and_eq_true] at h
    exact ⟨a, _, rfl, h.2⟩
theorem name_plain {s : ByteArray} (h : nameS s = true) : s.data.toList.all plaB = true := by
  unfold nameS keyS at h
  simp only [Bool.and_eq_true] at h
  exact h.1.2
theorem showsP : ∀ (n : Nat) (t u : STree), SizeOf.sizeOf t < n → VT t → VT u → ∀ r r', shB t ++ r = shB u ++ r' → eqS t u = true ∧ r = r'
  | 0, _, _, h, _, _, _, _, _ => by omega
  | n + 1, .mk id k tag text cl al sl kids, .mk id' k' tag' text' cl' al' sl' kids', hn, ht, hu, r, r', h => by
    obtain ⟨h1, hk⟩ := ht
    obtain ⟨h2, hk'⟩ := hu
    rcases h1 with ⟨rfl, a1, rfl, rfl, rfl, rfl, rfl⟩ | ⟨rfl, rfl, a2, a3, a4, a5⟩
    · rcases h2 with ⟨rfl, b1, rfl, rfl, rfl, rfl, rfl⟩ | ⟨rfl, rfl, b2, b3, b4, b5⟩
      · rw [shB_txt, shB_txt] at h
        simp only [List.cons_append, List.cons.injEq, true_and, List.append_assoc, List.nil_append] at h
        obtain ⟨c1, -, c2⟩ := span_eq priB _ _ _ _ _ _ a1 b1 (by decide) (by decide) h
        exact ⟨eqS_iff.2 ⟨⟨rfl, rfl, ba_ext c1, rfl, rfl, rfl⟩, by simp [eqSL]⟩, c2⟩
      · rw [shB_txt, shB_elm (by decide)] at h
        simp only [List.cons_append, List.cons.injEq] at h
        exact absurd h.1 (by decide)
    · rcases h2 with ⟨rfl, b1, rfl, rfl, rfl, rfl, rfl⟩ | ⟨rfl, rfl, b2, b3, b4, b5⟩
      · rw [shB_txt, shB_elm (by decide)] at h
        simp only [List.cons_append, List.cons.injEq] at h
        exact absurd h.1 (by decide)
      · rw [shB_elm (by decide), shB_elm (by decide)] at h
        simp only [List.cons_append, List.cons.injEq, true_and, List.append_assoc, List.nil_append] at h
        have s0 : ∀ q : List UInt8, Stp (41 :: q) := fun q => ⟨41, q, rfl, .inr rfl⟩
        have n0 : ∀ (q : UInt8 → Bool) (z : List UInt8), NSt q (41 :: z) := fun q z c t e => by simp at e
        have nK : ∀ (q : UInt8 → Bool) (ks : List STree) (z : List UInt8), q 39 = false → q 40 = false → NSt q (joinF shB ks ++ 41 :: z) := fun q ks z q1 q2 =>
          joinF_nst (fun x _ => by obtain ⟨c, t, e, hc⟩ := sh_first x; exact ⟨c, t, e, by rcases hc with rfl | rfl <;> assumption⟩) (n0 q z)
        have nS : ∀ (q : UInt8 → Bool) (l : List (ByteArray × Int)) (z : List UInt8), (∀ x ∈ l, nameS x.1 = true) → (∀ c, letB c = true → q c = false) → NSt q z → NSt q (joinF styB l ++ z) := fun q l z hl hq hz =>
          joinF_nst (fun x hx => by obtain ⟨c, t, e, hc⟩ := sty_first (hl x hx); exact ⟨c, t, e, hq c hc⟩) hz
        have nA : ∀ (q : UInt8 → Bool) (l : List (ByteArray × ByteArray)) (z : List UInt8), q 64 = false → NSt q z → NSt q (joinF attB l ++ z) := fun q l z hq hz =>
          joinF_nst (fun x _ => ⟨64, _, rfl, hq⟩) hz
        obtain ⟨c1, h⟩ := span_stp plaB (by decide) (by decide) a2 b2 (joinF_stp _ _ (joinF_stp _ _ (joinF_stp _ _ (joinF_stp _ _ (s0 _))))) (joinF_stp _ _ (joinF_stp _ _ (joinF_stp _ _ (joinF_stp _ _ (s0 _))))) h
        have hl46 : ∀ c, letB c = true → (fun b : UInt8 => decide (b = 46)) c = false := by
          intro c hc
          simp only [decide_eq_false_iff_not]
          rintro rfl
          exact absurd hc (by decide)
        have hl64 : ∀ c, letB c = true → (fun b : UInt8 => decide (b = 64)) c = false := by
          intro c hc
          simp only [decide_eq_false_iff_not]
          rintro rfl
          exact absurd hc (by decide)
        obtain ⟨c2, h⟩ := items_eq dotB (fun b => decide (b = 46)) (· = ·) cl cl' _ _ (fun x _ => ⟨46, _, rfl, rfl⟩) (fun x _ => ⟨46, _, rfl, rfl⟩)
          (fun x hx y hy s s' hs hs' e => by
            simp only [dotB, List.cons_append, List.cons.injEq, true_and] at e
            obtain ⟨e1, e2⟩ := span_stp plaB (by decide) (by decide) (a3 x hx) (b3 y hy) hs hs' e
            exact ⟨ba_ext e1, e2⟩)
          (joinF_stp _ _ (joinF_stp _ _ (joinF_stp _ _ (s0 _)))) (joinF_stp _ _ (joinF_stp _ _ (joinF_stp _ _ (s0 _))))
          (nA _ _ _ (by decide) (nS _ _ _ a5 hl46 (nK _ _ _ (by decide) (by decide)))) (nA _ _ _ (by decide) (nS _ _ _ b5 hl46 (nK _ _ _ (by decide) (by decide)))) h
        obtain ⟨c3, h⟩ := items_eq attB (fun b => decide (b = 64)) (· = ·) al al' _ _ (fun x _ => ⟨64, _, rfl, rfl⟩) (fun x _ => ⟨64, _, rfl, rfl⟩)
          (fun x hx y hy s s' hs hs' e => by
            simp only [attB, List.cons_append, List.cons.injEq, true_and, List.append_assoc] at e
            obtain ⟨e1, -, e2⟩ := span_eq plaB _ _ _ _ _ _ (a4 x hx).1 (b4 y hy).1 (by decide) (by decide) e
            obtain ⟨e3, e4⟩ := span_stp visB (by decide) (by decide) (a4 x hx).2 (b4 y hy).2 hs hs' e2
            exact ⟨Prod.ext (ba_ext e1) (ba_ext e3), e4⟩)
          (joinF_stp _ _ (joinF_stp _ _ (s0 _))) (joinF_stp _ _ (joinF_stp _ _ (s0 _)))
          (nS _ _ _ a5 hl64 (nK _ _ _ (by decide) (by decide))) (nS _ _ _ b5 hl64 (nK _ _ _ (by decide) (by decide))) h
        obtain ⟨c4, h⟩ := items_eq styB letB (· = ·) sl sl' _ _ (fun x hx => sty_first (a5 x hx)) (fun x hx => sty_first (b5 x hx))
          (fun x hx y hy s s' hs hs' e => by
            simp only [styB, List.cons_append, List.append_assoc] at e
            obtain ⟨e1, -, e2⟩ := span_eq plaB _ _ _ _ _ _ (name_plain (a5 x hx)) (name_plain (b5 y hy)) (by decide) (by decide) e
            obtain ⟨e3, e4⟩ := span_stp (fun b => digB b || decide (b = 45)) (by decide) (by decide) (ito_chars _) (ito_chars _) hs hs' e2
            exact ⟨Prod.ext (ba_ext e1) (ito_eq e3), e4⟩)
          (joinF_stp _ _ (s0 _)) (joinF_stp _ _ (s0 _))
          (nK _ _ _ (by decide) (by decide)) (nK _ _ _ (by decide) (by decide)) h
        obtain ⟨c5, h⟩ := items_eq shB (fun b => decide (b = 39 ∨ b = 40)) (fun t u => eqS t u = true) kids kids' (41 :: r) (41 :: r')
          (fun x _ => by obtain ⟨c, t, e, hc⟩ := sh_first x; exact ⟨c, t, e, by simpa using hc⟩) (fun x _ => by obtain ⟨c, t, e, hc⟩ := sh_first x; exact ⟨c, t, e, by simpa using hc⟩)
          (fun x hx y hy s s' _ _ e => showsP n x y (by have := skid_lt (id := id) (k := 2) (tag := tag) (text := ⟨#[]⟩) (cl := cl) (at_ := al) (st := sl) hx; omega) (hk x hx) (hk' y hy) s s' e)
          (s0 _) (s0 _) (n0 _ _) (n0 _ _) h
        simp only [List.cons.injEq, true_and] at h
        exact ⟨eqS_iff.2 ⟨⟨rfl, ba_ext c1, rfl, all2_eq c2, all2_eq c3, all2_eq c4⟩, all2_samSL c5⟩, h⟩
inductive SRis : STree → Prop
  | mk {id k : Int} {tag text : ByteArray} {cl : List ByteArray} {al : List (ByteArray × ByteArray)} {sl : List (ByteArray × Int)} {kids : List STree}
    (h1 : snapF nmS al = al) (h2 : snapF nmI sl = sl) (hk : ∀ t ∈ kids, SRis t) : SRis (.mk id k tag text cl al sl kids)
theorem sam_eqS : ∀ (n : Nat) (t u : STree), SizeOf.sizeOf t < n → SRis t → SRis u → samS t u = eqS t u
  | 0, _, _, h, _, _ => by omega
  | n + 1, .mk id k tag text cl al sl kids, .mk id' k' tag' text' cl' al' sl' kids', hn, ht, hu => by
    obtain ⟨h1, h2, hk⟩ := ht
    obtain ⟨h3, h4, hk'⟩ := hu
    rw [Bool.eq_iff_iff, samS_iff, eqS_iff, h1, h2, h3, h4, samSL_iff, eqSL_iff]
    constructor
    · rintro ⟨e1, e2, e3⟩
      refine ⟨e1, e2, fun i a b ha hb => ?_⟩
      rw [← sam_eqS n a b (by have := skid_lt (id := id) (k := k) (tag := tag) (text := text) (cl := cl) (at_ := al) (st := sl) (List.mem_of_getElem? ha); omega) (hk a (List.mem_of_getElem? ha)) (hk' b (List.mem_of_getElem? hb))]
      exact e3 i a b ha hb
    · rintro ⟨e1, e2, e3⟩
      refine ⟨e1, e2, fun i a b ha hb => ?_⟩
      rw [sam_eqS n a b (by have := skid_lt (id := id) (k := k) (tag := tag) (text := text) (cl := cl) (at_ := al) (st := sl) (List.mem_of_getElem? ha); omega) (hk a (List.mem_of_getElem? ha)) (hk' b (List.mem_of_getElem? hb))]
      exact e3 i a b ha hb
theorem same_eqS {t u : STree} (ht : SRis t) (hu : SRis u) : samS t u = eqS t u := sam_eqS _ t u (Nat.lt_succ_self _) ht hu
theorem eq_show : ∀ (n : Nat) (t u : STree), SizeOf.sizeOf t < n → eqS t u = true → showT false t = showT false u
  | 0, _, _, h, _ => by omega
  | n + 1, .mk id k tag text cl al sl kids, .mk id' k' tag' text' cl' al' sl' kids', hn, he => by
    obtain ⟨⟨rfl, rfl, rfl, rfl, rfl, rfl⟩, hL⟩ := eqS_iff.1 he
    obtain ⟨h1, h2⟩ := (eqSL_iff _ _).1 hL
    have hs : showL false kids = showL false kids' := by
      rw [showL_map, showL_map]
      apply List.ext_getElem?
      intro i
      rw [List.getElem?_map, List.getElem?_map]
      rcases Nat.lt_or_ge i kids.length with hi | hi
      · obtain ⟨a, ha⟩ : ∃ a, kids[i]? = some a := ⟨_, List.getElem?_eq_getElem hi⟩
        obtain ⟨b, hb⟩ : ∃ b, kids'[i]? = some b := ⟨_, List.getElem?_eq_getElem (by omega)⟩
        rw [ha, hb]
        simp only [Option.map_some]
        rw [eq_show n a b (by have := skid_lt (id := id) (k := k) (tag := tag) (text := text) (cl := cl) (at_ := al) (st := sl) (List.mem_of_getElem? ha); omega) (h2 i a b ha hb)]
      · rw [List.getElem?_eq_none hi, List.getElem?_eq_none (by omega)]
    rw [showT, showT, hs]
    simp only [hdL, lblS, Bool.false_eq_true, if_false]
theorem show_sam {t u : STree} (ht : VT t) (hu : VT u) (hr : SRis t) (hr' : SRis u) : (showT false t = showT false u) ↔ samS t u = true := by
  rw [same_eqS hr hr']
  constructor
  · intro h
    exact (showsP _ t u (Nat.lt_succ_self _) ht hu [] [] (by unfold shB; rw [h])).1
  · exact eq_show _ t u (Nat.lt_succ_self _)
end Go.Proofs.YtkcjkbnbblpomaaGreatDoor
namespace Go.Proofs.YtkcjkbnbblpomaaGreatDoor
open Go.RowKit

def ghS : ByteArray := ⟨#[116, 45, 103, 104, 111, 115, 116]⟩
def ghB (al : List (ByteArray × ByteArray)) : Bool := al.any (fun x => decide (x.1 = ghS))
def STree.ghost : STree → Bool
  | .mk _ _ _ _ _ al _ _ => ghB al
mutual
def erT : STree → STree
  | .mk id k tag text cl al sl kids => .mk id k tag text (mineC cl) (mineS al) (mineI sl) (erL kids)
def erL : List STree → List STree
  | [] => []
  | t :: ts => if t.ghost = true then erL ts else erT t :: erL ts
end
theorem erL_app : ∀ (a b : List STree), erL (a ++ b) = erL a ++ erL b
  | [], b => by simp [erL]
  | t :: a, b => by
    rw [List.cons_append, erL, erL, erL_app a b]
    split <;> rfl
theorem erL_snoc (a : List STree) (t : STree) : erL (a ++ [t]) = if t.ghost = true then erL a else erL a ++ [erT t] := by
  rw [erL_app, erL, erL]
  split <;> simp
theorem erL_mem : ∀ {l : List STree} {x : STree}, x ∈ erL l → ∃ t ∈ l, t.ghost = false ∧ x = erT t
  | t :: ts, x, h => by
    rw [erL] at h
    split at h
    · obtain ⟨u, hu, e⟩ := erL_mem h
      exact ⟨u, by simp [hu], e⟩
    · rename_i hg
      rcases List.mem_cons.1 h with rfl | h
      · exact ⟨t, by simp, by simpa using hg, rfl⟩
      · obtain ⟨u, hu, e⟩ := erL_mem h
        exact ⟨u, by simp [hu], e⟩
theorem erL_len (l : List STree) : (erL l).length ≤ l.length := by
  induction l with
  | nil => simp [erL]
  | cons t ts ih => rw [erL]; split <;> simp <;> omega
theorem mineC_len (l : List ByteArray) : (mineC l).length ≤ l.length := List.length_filter_le _ _
theorem mineS_len (l : List PrS) : (mineS l).length ≤ l.length := Nat.le_trans (List.length_filter_le _ _) (snap_len nmS l)
theorem mineI_len (l : List PrI) : (mineI l).length ≤ l.length := Nat.le_trans (List.length_filter_le _ _) (snap_len nmI l)
theorem erT_fits {t : STree} (h : SFits t) : SFits (erT t) := by
  induction h with
  | mk h1 h2 h3 h4 _ ih =>
    rw [erT]
    refine .mk (Nat.le_trans (mineC_len _) h1) (Nat.le_trans (mineS_len _) h2) (Nat.le_trans (mineI_len _) h3) (Nat.le_trans (erL_len _) h4) fun x hx => ?_
    obtain ⟨t, ht, -, rfl⟩ := erL_mem hx
    exact ih t ht
theorem mineC_mineC (l : List ByteArray) : mineC (mineC l) = mineC l := by unfold mineC; rw [List.filter_filter]; simp
theorem mineS_rises (l : List PrS) : Rises nmS (mineS l) := filter_rises nmS (snap_rises nmS l) _
theorem mineI_rises (l : List PrI) : Rises nmI (mineI l) := filter_rises nmI (snap_rises nmI l) _
theorem mineS_mineS (l : List PrS) : mineS (mineS l) = mineS l := by
  conv => lhs; unfold mineS
  rw [show snapF nmS (List.filter (fun x => !rsvS x.1) (snapF nmS l)) = List.filter (fun x => !rsvS x.1) (snapF nmS l) from snap_of_rises nmS (mineS_rises l), List.filter_filter]
  unfold mineS
  simp
theorem mineI_mineI (l : List PrI) : mineI (mineI l) = mineI l := by
  conv => lhs; unfold mineI
  rw [show snapF nmI (List.filter (fun x => !rsvS x.1) (snapF nmI l)) = List.filter (fun x => !rsvS x.1) (snapF nmI l) from snap_of_rises nmI (mineI_rises l), List.filter_filter]
  unfold mineI
  simp
theorem gh_rsv : rsvS ghS = true := by decide +kernel
theorem mineS_ghost (l : List PrS) : ghB (mineS l) = false := by
  unfold ghB
  rw [List.any_eq_false]
  intro x hx
  have h2 := (List.mem_filter.1 hx).2
  simp only [decide_eq_true_eq]
  intro e
  rw [e, gh_rsv] at h2
  exact absurd h2 (by decide)
theorem erT_ghost (t : STree) : (erT t).ghost = false := by cases t; exact mineS_ghost _
theorem erL_fix : ∀ (l : List STree), (∀ t ∈ l, t.ghost = false ∧ erT t = t) → erL l = l
  | [], _ => by simp [erL]
  | t :: ts, h => by
    rw [erL, if_neg (by simp [(h t (by simp)).1]), (h t (by simp)).2, erL_fix ts fun u hu => h u (by simp [hu])]
theorem erT_erT : ∀ (n : Nat) (t : STree), SizeOf.sizeOf t < n → erT (erT t) = erT t
  | 0, _, h => by omega
  | n + 1, .mk id k tag text cl al sl kids, h => by
    rw [erT, erT, mineC_mineC, mineS_mineS, mineI_mineI, erL_fix (erL kids) fun x hx => ?_]
    obtain ⟨t, ht, -, rfl⟩ := erL_mem hx
    exact ⟨erT_ghost t, erT_erT n t (by have := skid_lt (id := id) (k := k) (tag := tag) (text := text) (cl := cl) (at_ := al) (st := sl) ht; omega)⟩
theorem er_er (t : STree) : erT (erT t) = erT t := erT_erT _ t (Nat.lt_succ_self _)
mutual
theorem erT_pre : ∀ (t : STree), (preT (erT t)).length ≤ (preT t).length
  | .mk id k tag text cl al sl kids => by
    rw [erT, preT, preT, List.length_cons, List.length_cons]
    have := erL_pre kids
    omega
theorem erL_pre : ∀ (l : List STree), (preL (erL l)).length ≤ (preL l).length
  | [] => by simp [erL]
  | t :: ts => by
    have h1 := erT_pre t
    have h2 := erL_pre ts
    rw [erL]
    split
    · rw [preL, List.length_append]; omega
    · rw [preL, preL, List.length_append, List.length_append]; omega
end
theorem frm_ris : ∀ (k : Nat) (t : Tree) (n : Int), SizeOf.sizeOf t < k → SRis (frm t n)
  | 0, _, _, h => by omega
  | k + 1, .mk ki tag key text cl al sl o kids, n, h => by
    rw [frm]
    refine .mk (snap_snap nmS al) (snap_snap nmI sl) fun x hx => ?_
    obtain ⟨t, ht, m, rfl⟩ := frmL_mem hx
    exact frm_ris k t m (by have := kid_lt (k := ki) (tag := tag) (key := key) (text := text) (cl := cl) (at_ := al) (st := sl) (o := o) ht; omega)
theorem frm_sris (t : Tree) (n : Int) : SRis (frm t n) := frm_ris _ t n (Nat.lt_succ_self _)
end Go.Proofs.YtkcjkbnbblpomaaGreatDoor
namespace Go.Proofs.YtkcjkbnbblpomaaGreatDoor
open Go.RowKit

mutual
def dep : Tree → Nat
  | .mk _ _ _ _ _ _ _ _ kids => depL kids + 1
def depL : List Tree → Nat
  | [] => 0
  | t :: ts => max (dep t) (depL ts)
end
mutual
def lng : Tree → Int
  | .mk _ _ _ _ _ _ _ (e, lv, m, _) kids => max (max 0 (max e (max lv m))) (lngL kids)
def lngL : List Tree → Int
  | [] => 0
  | t :: ts => max (lng t) (lngL ts)
end
def sumN (l : List Nat) : Nat := l.foldl (· + ·) 0
theorem sumN_snoc (l : List Nat) (x : Nat) : sumN (l ++ [x]) = sumN l + x := by simp [sumN]
theorem cntL_sum (ts : List Tree) : sumN (ts.map cnt) = cntL ts := by
  have : ∀ (ts : List Tree) (n : Nat), (ts.map cnt).foldl (· + ·) n = n + cntL ts := by
    intro ts
    induction ts with
    | nil => intro n; simp [cntL]
    | cons t ts ih => intro n; simp only [List.map_cons, List.foldl_cons, cntL]; rw [ih]; omega
  have := this ts 0
  simpa [sumN] using this
def mxI (l : List Int) : Int := l.foldl max 0
theorem cntL_snoc (ts : List Tree) (t : Tree) : cntL (ts ++ [t]) = cntL ts + cnt t := by rw [cntL_app]; simp [cntL]
theorem depL_snoc (ts : List Tree) (t : Tree) : depL (ts ++ [t]) = max (depL ts) (dep t) := by
  induction ts with
  | nil => simp [depL]
  | cons x ts ih => simp only [List.cons_append, depL, ih]; omega
end Go.Proofs.YtkcjkbnbblpomaaGreatDoor
namespace Go.Proofs.YtkcjkbnbblpomaaGreatDoor
open Go.RowKit

def namesL (cl : List ByteArray) (al : List PrS) (sl : List PrI) : List ByteArray := cl ++ al.map (·.1) ++ sl.map (·.1)
def lasts (n : Int) : Bool := decide (0 ≤ n ∧ n ≤ 1000)
def optsB (o : Opt) (k : Int) : Bool :=
  if k = 3 then lasts o.1 && lasts o.2.1 && lasts o.2.2.1 && decide (o.2.2.2.1 = 0)
  else if k = 4 then lasts o.1 && lasts o.2.1 && decide (o.2.2.1 = 0) && !o.2.2.2.2.2 && decide (0 ≤ o.2.2.2.1 ∧ o.2.2.2.1 ≤ 2)
  else decide (o = (0, 0, 0, 0, false, false))
def bareB (tag key : ByteArray) (cl : List ByteArray) (al : List PrS) (sl : List PrI) (o : Opt) (kids : List Tree) : Bool :=
  decide (tag = ⟨#[]⟩ ∧ key = ⟨#[]⟩ ∧ cl.length + al.length + sl.length + kids.length = 0 ∧ o = (0, 0, 0, 0, false, false))
def valB (al : List PrS) (sl : List PrI) : Bool := al.all (fun x => valS x.2) && sl.all (fun x => decide (-2147483648 ≤ x.2 ∧ x.2 ≤ 2147483647))
def Tree.key : Tree → ByteArray
  | .mk _ _ y _ _ _ _ _ _ => y
def kidB (t : Tree) : Bool := decide (t.kind = 2 ∧ t.key ≠ ⟨#[]⟩)
def keptB (k : Int) (kids : List Tree) : Bool := decide (k = 2) || (kids.all kidB && (decide (k = 3) || decide (kids.length ≤ 1)))
def mayB (k : Int) (tag key text : ByteArray) (cl : List ByteArray) (al : List PrS) (sl : List PrI) (o : Opt) (kids : List Tree) : Bool :=
  if k = 1 then bareB tag key cl al sl o kids && txtS text
  else if k = 2 ∨ k = 3 ∨ k = 4 then decide (text = ⟨#[]⟩) && nameS tag && (namesL cl al sl).all nameS && (decide (key = ⟨#[]⟩) || keyS key) && valB al sl && optsB o k && keptB k kids
  else false
def cntK (c : ByteArray) (ks : List ByteArray) : Nat := ks.countP (fun x => decide (x = c))
def twcB (ks : List ByteArray) : Bool := ks.any (fun c => decide (c ≠ ⟨#[]⟩ ∧ 1 < cntK c ks))

mutual
def chkT : Tree → Int → Int → Int → Int × Int
  | .mk k tag key text cl al sl o kids, deep, depth, left =>
    if depth < deep then (7, left - 1)
    else if left - 1 < 0 then (8, left - 1)
    else if mayB k tag key text cl al sl o kids = false then (4, left - 1)
    else if (namesL cl al sl).any rsvS = true then (6, left - 1)
    else if twcB (kids.map Tree.key) = true then (5, left - 1)
    else chkL kids (deep + 1) depth (left - 1)
def chkL : List Tree → Int → Int → Int → Int × Int
  | [], _, _, left => (0, left)
  | t :: ts, deep, depth, left => if (chkT t deep depth left).1 = 0 then chkL ts deep depth (chkT t deep depth left).2 else chkT t deep depth left
end
theorem chkL_app : ∀ (ts us : List Tree) (deep depth left : Int), chkL (ts ++ us) deep depth left = if (chkL ts deep depth left).1 = 0 then chkL us deep depth (chkL ts deep depth left).2 else chkL ts deep depth left
  | [], us, deep, depth, left => by simp [chkL]
  | t :: ts, us, deep, depth, left => by
    rw [List.cons_append, chkL, chkL, chkL_app ts us]
    by_cases h : (chkT t deep depth left).1 = 0
    · rw [if_pos h, if_pos h]
    · rw [if_neg h, if_neg h, if_neg h]
theorem chkL_snoc (ts : List Tree) (t : Tree) (deep depth left : Int) (h : (chkL ts deep depth left).1 = 0) : chkL (ts ++ [t]) deep depth left = chkT t deep depth (chkL ts deep depth left).2 := by
  rw [chkL_app, if_pos h, chkL, chkL]
  split
  · rename_i h2
    exact Prod.ext h2.symm rfl
  · rfl
inductive Siz (X : Nat) : Tree → Prop
  | mk {k : Int} {tag key text : ByteArray} {cl : List ByteArray} {al : List (ByteArray × ByteArray)} {sl : List (ByteArray × Int)} {o : Opt} {kids : List Tree}
    (h1 : tag.size ≤ X) (h2 : key.size ≤ X) (h3 : text.size ≤ X) (h4 : ∀ c ∈ cl, c.size ≤ X) (h5 : ∀ x ∈ al, x.1.size ≤ X ∧ x.2.size ≤ X) (h6 : ∀ x ∈ sl, x.1.size ≤ X) (h7 : ∀ t ∈ kids, Siz X t) : Siz X (.mk k tag key text cl al sl o kids)
theorem Siz.names {X : Nat} {cl : List ByteArray} {al : List PrS} {sl : List PrI} (h4 : ∀ c ∈ cl, c.size ≤ X) (h5 : ∀ x ∈ al, x.1.size ≤ X ∧ x.2.size ≤ X) (h6 : ∀ x ∈ sl, x.1.size ≤ X) : ∀ c ∈ namesL cl al sl, c.size ≤ X := by
  intro c hc
  unfold namesL at hc
  rcases List.mem_append.1 hc with h | h
  · rcases List.mem_append.1 h with h | h
    · exact h4 c h
    · obtain ⟨x, hx, rfl⟩ := List.mem_map.1 h; exact (h5 x hx).1
  · obtain ⟨x, hx, rfl⟩ := List.mem_map.1 h; exact h6 x hx
theorem Small.siz {t : Tree} (h : Small t) : Siz 70 t := by
  induction h with
  | mk h hk ih =>
    obtain ⟨_, h2, h3, h4, _, h5, _, h6, _, h7, _⟩ := h
    exact .mk (by omega) (by omega) h4 (fun c hc => by have := h5 c hc; omega) (fun x hx => by have := h6 x hx; omega) (fun x hx => by have := (h7 x hx).1; omega) ih
end Go.Proofs.YtkcjkbnbblpomaaGreatDoor
