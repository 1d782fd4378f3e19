/- Layer 2: digits and the numbers that they are; which texts may be what: in plain words. -/
import Derived.Test.YteoedhkppmbkoaaDoorL18
import Derived.Lib.ItoaNum
namespace Go.Proofs.YteoedhkppmbkoaaDoor
open Lib (decDigits itoa)

/-! ## Digits -/
def digB (b : UInt8) : Bool := decide (48 ≤ b.toNat ∧ b.toNat ≤ 57)
def valL (l : List UInt8) : Nat := l.foldl (fun n b => 10 * n + (b.toNat - 48)) 0
theorem val_snoc (l : List UInt8) (b : UInt8) : valL (l ++ [b]) = 10 * valL l + (b.toNat - 48) := by
  unfold valL
  rw [List.foldl_append]; rfl
theorem head_app {a c : List UInt8} (h : a ≠ []) : (a ++ c).head? = a.head? := by
  cases a with
  | nil => exact absurd rfl h
  | cons x r => rfl
theorem u8_of {k : Nat} (h : k < 10) : (UInt8.ofNat (48 + k)).toNat = 48 + k := by
  rw [UInt8.toNat_ofNat']
  omega
theorem dec_small {u : Nat} (h : u < 10) : decDigits u = [UInt8.ofNat (48 + u)] := Lib.decDigits_one h
theorem dec_big {u : Nat} (h : ¬ u < 10) : decDigits u = decDigits (u / 10) ++ [UInt8.ofNat (48 + u % 10)] := by
  rw [decDigits, dif_neg h]
theorem dec_facts : ∀ u : Nat, valL (decDigits u) = u ∧ (decDigits u).all digB = true ∧ decDigits u ≠ [] ∧ ((decDigits u).head? = some 48 → u = 0) := by
  intro u
  induction u using Nat.strongRecOn with
  | _ u ih =>
    by_cases h : u < 10
    · rw [dec_small h]
      have e := u8_of h
      refine ⟨?_, ?_, by simp, fun hh => ?_⟩
      · show 10 * 0 + ((UInt8.ofNat (48 + u)).toNat - 48) = u
        rw [e]; omega
      · simp only [List.all_cons, List.all_nil, Bool.and_true, digB, e, decide_eq_true_eq]; omega
      · simp only [List.head?_cons, Option.some.injEq] at hh
        rw [hh] at e
        have : (48 : UInt8).toNat = 48 := rfl
        omega
    · obtain ⟨h1, h2, h3, h4⟩ := ih (u / 10) (by omega)
      rw [dec_big h]
      have e := u8_of (k := u % 10) (by omega)
      refine ⟨?_, ?_, by simp, fun hh => ?_⟩
      · rw [val_snoc, h1, e]; omega
      · rw [List.all_append, h2]
        simp only [List.all_cons, List.all_nil, Bool.and_true, digB, e, decide_eq_true_eq, Bool.true_and]; omega
      · rw [head_app h3] at hh
        have := h4 hh
        omega
theorem u8_ext {a c : UInt8} (h : a.toNat = c.toNat) : a = c := UInt8.toNat_inj.1 h
theorem val_pos : ∀ (n : Nat) (d : List UInt8), d.length = n → d.all digB = true → d ≠ [] → d.head? ≠ some 48 → 1 ≤ valL d
  | 0, d, hl, _, hne, _ => absurd (List.eq_nil_of_length_eq_zero hl) hne
  | n + 1, d, hl, hd, hne, hh => by
    rcases List.eq_nil_or_concat d with rfl | ⟨e, b, rfl⟩
    · exact absurd rfl hne
    · rw [List.concat_eq_append] at *
      rw [List.all_append] at hd
      simp only [Bool.and_eq_true, List.all_cons, List.all_nil, Bool.and_true] at hd
      rw [val_snoc]
      by_cases he : e = []
      · subst he
        have hb := hd.2
        simp only [digB, decide_eq_true_eq] at hb
        have : b.toNat ≠ 48 := fun h => hh (by simp only [List.nil_append, List.head?_cons, Option.some.injEq]; exact u8_ext h)
        omega
      · rw [head_app he] at hh
        have := val_pos n e (by simp at hl; exact hl) hd.1 he hh
        omega
/-- The digits of a number that is written without an idle zero. -/
theorem dec_val : ∀ (n : Nat) (d : List UInt8), d.length = n → d.all digB = true → d ≠ [] → (d.head? = some 48 → d.length = 1) → decDigits (valL d) = d
  | 0, d, hl, _, hne, _ => absurd (List.eq_nil_of_length_eq_zero hl) hne
  | n + 1, d, hl, hd, hne, hh => by
    rcases List.eq_nil_or_concat d with rfl | ⟨e, b, rfl⟩
    · exact absurd rfl hne
    · rw [List.concat_eq_append] at *
      rw [List.all_append] at hd
      simp only [Bool.and_eq_true, List.all_cons, List.all_nil, Bool.and_true] at hd
      have hb := hd.2
      simp only [digB, decide_eq_true_eq] at hb
      rw [val_snoc]
      by_cases he : e = []
      · subst he
        have : valL ([] : List UInt8) = 0 := rfl
        rw [this, dec_small (by omega), List.nil_append]
        congr 1
        exact u8_ext (by rw [Nat.mul_zero, Nat.zero_add, u8_of (by omega)]; omega)
      · rw [head_app he] at hh
        have hne48 : e.head? ≠ some 48 := fun h => by
          have := hh h
          have hp : 0 < e.length := List.length_pos_iff.2 he
          simp at this
          exact he this
        have h1 := val_pos e.length e rfl hd.1 he hne48
        rw [dec_big (by omega)]
        have ih := dec_val n e (by simp at hl; exact hl) hd.1 he (fun h => absurd h hne48)
        rw [show (10 * valL e + (b.toNat - 48)) / 10 = valL e by omega, ih]
        congr 2
        exact u8_ext (by rw [u8_of (by omega)]; omega)
theorem dec_len {u k : Nat} (h : u < 10 ^ k) (hk : 0 < k) : (decDigits u).length ≤ k := by
  induction k generalizing u with
  | zero => omega
  | succ k ih =>
    by_cases hu : u < 10
    · rw [dec_small hu]; simp
    · rw [dec_big hu, List.length_append]
      have hk0 : 0 < k := by
        rcases Nat.eq_zero_or_pos k with rfl | h0
        · simp at h; omega
        · exact h0
      have := ih (u := u / 10) (by rw [Nat.div_lt_iff_lt_mul (by omega), ← Nat.pow_succ]; exact h) hk0
      simp only [List.length_cons, List.length_nil]; omega

/-! ## Numbers -/
def sgnL (L : List UInt8) : Bool := decide (L.head? = some 45)
def digL (L : List UInt8) : List UInt8 := if sgnL L then L.tail else L
def numL (L : List UInt8) : Int := if sgnL L then -((valL (digL L) : Nat) : Int) else ((valL (digL L) : Nat) : Int)
def badD (L : List UInt8) : Prop := digL L = [] ∨ 10 < (digL L).length ∨ (digL L).all digB = false
def zerD (L : List UInt8) : Prop := (digL L).head? = some 48 ∧ (1 < (digL L).length ∨ sgnL L = true)
def outR (m : Int) : Prop := m < -2147483648 ∨ 2147483647 < m
instance (L : List UInt8) : Decidable (badD L) := by unfold badD; infer_instance
instance (L : List UInt8) : Decidable (zerD L) := by unfold zerD; infer_instance
instance (m : Int) : Decidable (outR m) := by unfold outR; infer_instance
/-- The number that a text is: (0, false): none. -/
def numP (L : List UInt8) : Int × Bool := if badD L ∨ zerD L ∨ outR (numL L) then (0, false) else (numL L, true)
theorem sgn_eq {L : List UInt8} (h : sgnL L = true) : L = 45 :: digL L := by
  unfold digL
  rw [if_pos h]
  unfold sgnL at h
  simp only [decide_eq_true_eq] at h
  cases L with
  | nil => cases h
  | cons a r => simp only [List.head?_cons, Option.some.injEq] at h; rw [h]; rfl
theorem sgn_not {L : List UInt8} (h : sgnL L = false) : L = digL L := by
  unfold digL
  rw [h]; rfl
/-- The digits of the number are the text, if no zero stands idle. -/
theorem itoa_num {L : List UInt8} (h : ¬ badD L) : itoa (numL L) = L ↔ ¬ zerD L := by
  have h1 : digL L ≠ [] := fun e => h (.inl e)
  have h2 : (digL L).all digB = true := by
    cases e : (digL L).all digB with
    | true => rfl
    | false => exact absurd (.inr (.inr e)) h
  obtain ⟨f1, f2, f3, f4⟩ := dec_facts (valL (digL L))
  cases hs : sgnL L with
  | false =>
    have hL := sgn_not hs
    have hn : numL L = ((valL (digL L) : Nat) : Int) := by unfold numL; rw [hs]; rfl
    have hi : itoa (numL L) = decDigits (valL (digL L)) := by
      rw [hn]
      unfold itoa
      rw [if_neg (by omega)]; simp
    rw [hi]
    constructor
    · rintro e ⟨g1, g2⟩
      rw [e] at f4
      rw [hL] at f4
      rw [← hL] at f4
      have hz := f4 (by rw [hL]; exact g1)
      rw [hz] at e
      have : decDigits 0 = [UInt8.ofNat 48] := dec_small (by omega)
      rw [this] at e
      rcases g2 with g2 | g2
      · rw [← hL, ← e] at g2; simp at g2
      · rw [hs] at g2; cases g2
    · intro hz
      conv => rhs; rw [hL]
      refine dec_val _ _ rfl h2 h1 (fun g => ?_)
      have : ¬ 1 < (digL L).length := fun g2 => hz ⟨g, .inl g2⟩
      have hp : 0 < (digL L).length := List.length_pos_iff.2 h1
      omega
  | true =>
    have hL := sgn_eq hs
    have hn : numL L = -((valL (digL L) : Nat) : Int) := by unfold numL; rw [hs]; rfl
    constructor
    · rintro e ⟨g1, _⟩
      rw [hn] at e
      by_cases hv : valL (digL L) = 0
      · rw [hv] at e
        have : itoa (-((0 : Nat) : Int)) = [UInt8.ofNat 48] := by
          unfold itoa
          rw [if_neg (by omega)]
          exact dec_small (by omega)
        rw [this, hL] at e
        simp at e
      · have hi : itoa (-((valL (digL L) : Nat) : Int)) = 45 :: decDigits (valL (digL L)) := by
          unfold itoa
          rw [if_pos (by omega)]
          simp
        rw [hi] at e
        conv at e => rhs; rw [hL]
        simp only [List.cons.injEq, true_and] at e
        exact hv (f4 (by rw [e]; exact g1))
    · intro hz
      have g : (digL L).head? ≠ some 48 := fun g => hz ⟨g, .inr hs⟩
      have hv := val_pos _ _ rfl h2 h1 g
      rw [hn]
      have hi : itoa (-((valL (digL L) : Nat) : Int)) = 45 :: decDigits (valL (digL L)) := by
        unfold itoa
        rw [if_pos (by omega)]
        simp
      rw [hi]
      conv => rhs; rw [hL]
      rw [dec_val _ _ rfl h2 h1 (fun h => absurd h g)]
theorem num_itoa {L : List UInt8} {m : Int} (h : numP L = (m, true)) : itoa m = L := by
  unfold numP at h
  split at h
  · cases h
  · rename_i hn
    injection h with h1 _
    rw [← h1]
    exact (itoa_num (fun e => hn (.inl e))).2 (fun e => hn (.inr (.inl e)))
/-- A number's digits, read back. -/
theorem itoa_back (n : Int) : itoa n ≠ [] ∧ numP (itoa n) = if outR n then (0, false) else (n, true) := by
  have key : sgnL (itoa n) = decide (n < 0) ∧ digL (itoa n) = decDigits n.natAbs := by
    by_cases h : n < 0
    · have e : itoa n = 45 :: decDigits n.natAbs := by unfold itoa; rw [if_pos h]
      have hs : sgnL (itoa n) = true := by rw [e]; simp [sgnL]
      exact ⟨by rw [hs]; simp [h], by unfold digL; rw [if_pos hs, e]; rfl⟩
    · have e : itoa n = decDigits n.natAbs := by unfold itoa; rw [if_neg h, show n.toNat = n.natAbs by omega]
      obtain ⟨f1, f2, f3, f4⟩ := dec_facts n.natAbs
      have hs : sgnL (itoa n) = false := by
        rw [e]
        unfold sgnL
        cases hd : decDigits n.natAbs with
        | nil => exact absurd hd f3
        | cons a r =>
          rw [hd] at f2
          simp only [List.all_cons, Bool.and_eq_true, digB, decide_eq_true_eq] at f2
          simp only [List.head?_cons, Option.some.injEq, decide_eq_false_iff_not]
          intro ha
          rw [ha] at f2
          exact absurd f2.1.1 (by decide)
      exact ⟨by rw [hs]; simp [h], by unfold digL; rw [hs, e]; rfl⟩
  obtain ⟨k1, k2⟩ := key
  obtain ⟨f1, f2, f3, f4⟩ := dec_facts n.natAbs
  have hn : numL (itoa n) = n := by
    unfold numL
    rw [k1, k2, f1]
    by_cases h : n < 0
    · rw [if_pos (by simp [h])]; omega
    · rw [if_neg (by simp [h])]; omega
  have hz : ¬ zerD (itoa n) := by
    rintro ⟨g1, g2⟩
    rw [k2] at g1 g2
    have h0 := f4 g1
    rw [h0, dec_small (by omega)] at g2
    rw [k1] at g2
    rcases g2 with g2 | g2
    · simp at g2
    · simp at g2; omega
  refine ⟨fun e => ?_, ?_⟩
  · have : digL (itoa n) = [] := by rw [e]; unfold digL; simp
    rw [k2] at this
    exact f3 this
  · unfold numP
    rw [hn]
    by_cases ho : outR n
    · rw [if_pos (.inr (.inr ho)), if_pos ho]
    · have hb : ¬ badD (itoa n) := by
        rintro (e | e | e)
        · rw [k2] at e; exact f3 e
        · rw [k2] at e
          have := dec_len (u := n.natAbs) (k := 10) (by unfold outR at ho; omega) (by omega)
          omega
        · rw [k2, f2] at e; cases e
      rw [if_neg (by rintro (e | e | e); exact hb e; exact hz e; exact ho e), if_neg ho]
end Go.Proofs.YteoedhkppmbkoaaDoor
