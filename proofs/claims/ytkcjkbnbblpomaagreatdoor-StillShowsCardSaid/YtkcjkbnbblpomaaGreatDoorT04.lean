/- Control, loops, drawn regions in short form, and slices that are read. -/
import Derived.Test.YtkcjkbnbblpomaaGreatDoorT03
set_option linter.all false
namespace Go.Proofs.YtkcjkbnbblpomaaGreatDoor
variable {df : List Deferred}
variable {rr : Option Nat}
open Go.RowKit

section
variable {P : Program} {Q : Exit → Act → World → Prop} {a : Act} {w w' : World} {w0 : Bs} {n : Nat} {l : List (Nat × Value)} {L : List HP}

theorem q_thenE {K : Act → World → Prop} {i : Nat} (h : Q (.exit i) a w) : Exit.then K Q (.exit i) a w := h
theorem q_thenR {K : Act → World → Prop} (h : Q .ret a w) : Exit.then K Q .ret a w := h
theorem q_inN {i : Nat} (h : Q .normal a w) : Exit.inBlock i Q .normal a w := h
theorem q_inR {i : Nat} (h : Q .ret a w) : Exit.inBlock i Q .ret a w := h
theorem q_inE {i : Nat} (h : Q .normal a w) : Exit.inBlock i Q (.exit i) a w := by simp only [Exit.inBlock, if_true]; exact h
theorem c_true {c : Operand} {x y : Code} (hk : Kn df n a l) (h : x.wpIn (FR rr) 0 P Q a w) (hc : ev l c = some (.bool true) := by rfl) : (Code.cond c x y).wpIn (FR rr) 0 P Q a w := wpIn_cond_true (hk.eval hc) h
theorem c_false {c : Operand} {x y : Code} (hk : Kn df n a l) (h : y.wpIn (FR rr) 0 P Q a w) (hc : ev l c = some (.bool false) := by rfl) : (Code.cond c x y).wpIn (FR rr) 0 P Q a w := wpIn_cond_false (hk.eval hc) h
theorem wp_loopN {c : Code} (I : Nat → Act → World → Prop) {k : Nat} (h0 : I k a w)
    (step : ∀ k a w, I k a w → c.wpIn (FR rr) 0 P (Exit.then (fun a' w' => ∃ k', k' < k ∧ I k' a' w') Q) a w) : (Code.loop c).wpIn (FR rr) 0 P Q a w := by
  open Classical in
  have hm : ∀ a w, (∃ k, I k a w) → ∃ k, I k a w ∧ ∀ k', I k' a w → k ≤ k' := by
    intro a w ⟨k, hk⟩
    induction k using Nat.strongRecOn with
    | _ k ih =>
      by_cases h : ∃ k', k' < k ∧ I k' a w
      · obtain ⟨k', h1, h2⟩ := h
        exact ih k' h1 h2
      · exact ⟨k, hk, fun k' hk' => by
          rcases Nat.lt_or_ge k' k with h' | h'
          · exact absurd ⟨k', h', hk'⟩ h
          · exact h'⟩
  refine wpIn_loop (fun a w => ∃ k, I k a w) (fun a w => if h : ∃ k, I k a w then Classical.choose (hm a w h) else 0) ⟨k, h0⟩ ?_
  intro a w hex
  obtain ⟨hk, hmin⟩ := Classical.choose_spec (hm a w hex)
  refine wpIn_mono (step _ a w hk) ?_
  intro e a' w' hq
  cases e with
  | normal =>
    obtain ⟨k', hlt, hk'⟩ := hq
    have hex' : ∃ k, I k a' w' := ⟨k', hk'⟩
    refine ⟨hex', ?_⟩
    rw [dif_pos hex, dif_pos hex']
    exact Nat.lt_of_le_of_lt ((Classical.choose_spec (hm a' w' hex')).2 k' hk') hlt
  | exit i => exact hq
  | goto i => exact hq
  | ret => exact hq
  | panic c => exact hq
  | outgrown => exact hq

def lkE : List (Nat × Nat × HV) → Nat → Option (Nat × HV)
  | [], _ => none
  | (d, k, h) :: r, x => bif Nat.beq d x then some (k, h) else lkE r x

def curE (acc : List (Nat × Nat × HV)) (l : List (Nat × Value)) (us : Nat → Value) (t : Nat) : Option Value :=
  match lkE acc t with
  | some (k, h) => some (HV.of (some h) us k)
  | none => lk l t

def vwE (acc : List (Nat × Nat × HV)) (l : List (Nat × Value)) (us : Nat → Value) : List Nat → List (Nat × Value)
  | [] => []
  | t :: r => match curE acc l us t with
    | some v => (t, v) :: vwE acc l us r
    | none => vwE acc l us r

def depE (acc : List (Nat × Nat × HV)) (us : Nat → Value) (w : World) : List Nat → Prop
  | [] => True
  | t :: r => (match lkE acc t with
      | some (k, h) => match h.own us with
        | some V => (V (us k)).rd w
        | none => True
      | none => True) ∧ depE acc us w r

def depE2 (acc : List (Nat × Nat × HV)) (us : Nat → Value) (w : World) (ts : List Nat) : Prop :=
  ∀ t ∈ ts, ∀ k h, lkE acc t = some (k, h) → ∀ j ∈ h.srcs, ∀ d h', (d, j, h') ∈ acc → ∀ V, h'.own us = some V → (V (us j)).rd w

def ObE (df : List Deferred) (P : Program) (n : Nat) (os : List Oper) (l : List (Nat × Value)) (w0 : Bs) (L : List HP) (i : Nat) (o : Oper) (acc : List (Nat × Nat × HV)) (h : HV) : Prop :=
  ((∀ k ∈ h.srcs, ∃ t h', t ∈ o.looksAt os.toArray ∧ lkE acc t = some (k, h')) ∧ ∀ k A V, h = .tak k A V → ∃ d, (d, k, HV.lnd i A) ∈ acc) ∧
  ∀ (us : Nat → Value) (a : Act) (w : World) (X : List HP), Kn df n a (vwE acc l us (o.looksAt os.toArray)) → depE acc us w (o.looksAt os.toArray) → St w0 (h.preU us ++ X) w → Sub L X → depE2 acc us w (o.looksAt os.toArray) →
    (gdK os.toArray (vwE acc l us (o.looksAt os.toArray)) o.guard = some false ∧ h = .val undef) ∨
    (gdK os.toArray (vwE acc l us (o.looksAt os.toArray)) o.guard = some true ∧ Gives P o a w (h.ok us w0 X w))

def pushE (d : Option Nat) (i : Nat) (h : HV) (acc : List (Nat × Nat × HV)) : List (Nat × Nat × HV) :=
  match d with
  | some d => (d, i, h) :: acc
  | none => acc

def pushR (i : Nat) (h : HV) (HR : List (Nat × ((Nat → Value) → Value → HP))) : List (Nat × ((Nat → Value) → Value → HP)) :=
  match h with
  | .val _ => HR
  | .res V => (i, fun _ => V) :: HR
  | .upd _ V => (i, fun _ => V) :: HR
  | .dep j V => (i, fun us => V (us j)) :: HR
  | .cpy _ => HR
  | .fn _ _ => HR
  | .lnd _ _ => HR
  | .tak _ _ V => (i, fun _ => V) :: HR

def ObxE (df : List Deferred) (P : Program) (n : Nat) (os : List Oper) (l : List (Nat × Value)) (w0 : Bs) (L : List HP) (Fin : List (Nat × Nat × HV) → List (Nat × ((Nat → Value) → Value → HP)) → List HP → Prop) : Nat → List Oper → List (Nat × Nat × HV) → List (Nat × ((Nat → Value) → Value → HP)) → List HP → Prop
  | _, [], acc, HR, TK => Fin acc HR TK
  | i, o :: r, acc, HR, TK => ∃ h, ObE df P n os l w0 L i o acc h ∧ ObxE df P n os l w0 L Fin (i + 1) r (pushE o.dst i h acc) (pushR i h HR) (TK ++ h.pre)

def finE (us : Nat → Value) : List (Nat × Nat × HV) → List (Nat × Value) → List (Nat × Value)
  | [], l => l
  | (d, k, h) :: r, l => (d, HV.of (some h) us k) :: finE us r l

def resE (us : Nat → Value) : List (Nat × ((Nat → Value) → Value → HP)) → List HP → List HP
  | [], L => L
  | (k, V) :: r, L => V us (us k) :: resE us r L

theorem lk_finE {us : Nat → Value} {l : List (Nat × Value)} : ∀ (acc : List (Nat × Nat × HV)) (t : Nat), lk (finE us acc l) t = curE acc l us t
  | [], t => rfl
  | (d, k, h) :: r, t => by
    have ih := lk_finE (us := us) (l := l) r t
    unfold curE at ih ⊢
    simp only [finE, lk, lkE]
    cases hb : Nat.beq d t with
    | true => rfl
    | false => simp only [cond_false]; exact ih

structure Acc (os : List Oper) (H : List HV) (i : Nat) (acc : List (Nat × Nat × HV)) : Prop where
  len : H.length = i
  get : ∀ t, lkE acc t = (lastW os i t).bind (fun k => (H[k]?).map (fun h => (k, h)))
  mem : ∀ d k h, (d, k, h) ∈ acc → H[k]? = some h

theorem Acc.push {os : List Oper} {H : List HV} {i : Nat} {acc : List (Nat × Nat × HV)} {o : Oper} (hA : Acc os H i acc) (ho : os[i]? = some o) (h : HV) : Acc os (H ++ [h]) (i + 1) (pushE o.dst i h acc) := by
  refine ⟨by simp [hA.len], fun t => ?_, fun d k h' hm => ?_⟩
  rotate_left
  · have hold : ∀ d k h', (d, k, h') ∈ acc → (H ++ [h])[k]? = some h' := fun d k h' hm => by
      have := hA.mem d k h' hm
      have hlt : k < H.length := by
        rcases Nat.lt_or_ge k H.length with h1 | h1
        · exact h1
        · rw [List.getElem?_eq_none h1] at this; cases this
      rw [List.getElem?_append_left hlt]; exact this
    cases hd : o.dst with
    | none => rw [hd] at hm; exact hold d k h' hm
    | some d' =>
      rw [hd] at hm
      simp only [pushE, List.mem_cons, Prod.mk.injEq] at hm
      rcases hm with ⟨_, rfl, rfl⟩ | hm
      · rw [← hA.len]; simp
      · exact hold d k h' hm
  have e : lastW os (i + 1) t = if (true && ((os[i]?).bind (·.dst) == some t)) = true then some i else lastW os i t := rfl
  have hold : (lastW os i t).bind (fun k => ((H ++ [h])[k]?).map (fun h => (k, h))) = (lastW os i t).bind (fun k => (H[k]?).map (fun h => (k, h))) := by
    cases hw : lastW os i t with
    | none => rfl
    | some k =>
      obtain ⟨hk, _, _⟩ := lastIn_spec hw
      simp only [Option.bind_some]
      rw [List.getElem?_append_left (by rw [hA.len]; exact hk)]
  rw [e, ho]
  cases hd : o.dst with
  | none =>
    have : ((some o).bind (·.dst) == some t) = false := by simp [hd]
    rw [this]
    simp only [Bool.and_false, Bool.false_eq_true, if_false, pushE]
    rw [hold]; exact hA.get t
  | some d =>
    by_cases hdt : d = t
    · subst hdt
      have : ((some o).bind (·.dst) == some d) = true := by simp [hd]
      rw [this]
      simp only [Bool.and_true, if_true, pushE, lkE, Option.bind_some]
      have hb : Nat.beq d d = true := by simp
      rw [hb, cond_true, show (H ++ [h])[i]? = some h by rw [← hA.len]; simp]
      rfl
    · have : ((some o).bind (·.dst) == some t) = false := by simp [hd, hdt]
      rw [this]
      simp only [Bool.and_false, Bool.false_eq_true, if_false, pushE, lkE]
      have hb : Nat.beq d t = false := by
        cases hb : Nat.beq d t with
        | false => rfl
        | true => exact absurd (Nat.eq_of_beq_eq_true hb) hdt
      rw [hb, cond_false, hold]; exact hA.get t

theorem Acc.cur {os : List Oper} {H : List HV} {i : Nat} {acc : List (Nat × Nat × HV)} (hA : Acc os H i acc) (l : List (Nat × Value)) (us : Nat → Value) (t : Nat) : curE acc l us t = curW os l H i us t := by
  unfold curE curW
  rw [hA.get t]
  cases hw : lastW os i t with
  | none => rfl
  | some k =>
    obtain ⟨hk, _, _⟩ := lastIn_spec hw
    have hk' : k < H.length := by rw [hA.len]; exact hk
    simp [List.getElem?_eq_getElem hk']

theorem Acc.vw {os : List Oper} {H : List HV} {i : Nat} {acc : List (Nat × Nat × HV)} (hA : Acc os H i acc) (l : List (Nat × Value)) (us : Nat → Value) : ∀ ts, vwE acc l us ts = vwL os l H i us ts
  | [] => rfl
  | t :: r => by
    simp only [vwE, vwL, hA.cur l us t, hA.vw l us r]
    cases curW os l H i us t <;> rfl

theorem Acc.dep {os : List Oper} {H : List HV} {i : Nat} {acc : List (Nat × Nat × HV)} (hA : Acc os H i acc) (us : Nat → Value) (w : World) : ∀ ts, depRd os H i us w ts → depE acc us w ts
  | [], _ => trivial
  | t :: r, ⟨h1, h2⟩ => by
    refine ⟨?_, hA.dep us w r h2⟩
    rw [hA.get t]
    cases hw : lastW os i t with
    | none => trivial
    | some k =>
      obtain ⟨hk, _, _⟩ := lastIn_spec hw
      have hk' : k < H.length := by rw [hA.len]; exact hk
      rw [hw] at h1
      simp only [List.getElem?_eq_getElem hk', Option.bind_some, Option.map_some] at h1 ⊢
      exact h1

theorem Acc.dep2 {os : List Oper} {H : List HV} {i : Nat} {acc : List (Nat × Nat × HV)} (hA : Acc os H i acc) (us : Nat → Value) (w : World) (ts : List Nat) (h : depRd2 os H i us w ts) : depE2 acc us w ts := by
  intro t ht k hv hl j hj d h' hm V hV
  rw [hA.get t] at hl
  cases hw : lastW os i t with
  | none => rw [hw] at hl; cases hl
  | some k' =>
    rw [hw] at hl
    cases hH : H[k']? with
    | none => simp [hH] at hl
    | some h2 =>
      simp only [Option.bind_some, hH, Option.map_some, Option.some.injEq, Prod.mk.injEq] at hl
      obtain ⟨rfl, rfl⟩ := hl
      exact h t ht k' hw h2 hH j hj V (by rw [hA.mem d j h' hm]; exact hV)

theorem toks_app {L : List HP} : ∀ H : List HV, toks H L = toks H [] ++ L
  | [] => rfl
  | .val _ :: H => toks_app H
  | .res _ :: H => toks_app H
  | .dep _ _ :: H => toks_app H
  | .cpy _ :: H => toks_app H
  | .fn _ _ :: H => toks_app H
  | .lnd _ _ :: H => toks_app H
  | .tak _ _ _ :: H => toks_app H
  | .upd A _ :: H => by simp only [toks, List.cons_append]; rw [toks_app H]

theorem toks_snoc {h : HV} : ∀ H : List HV, toks (H ++ [h]) [] = toks H [] ++ h.pre
  | [] => by cases h <;> rfl
  | .val _ :: H => toks_snoc H
  | .res _ :: H => toks_snoc H
  | .dep _ _ :: H => toks_snoc H
  | .cpy _ :: H => toks_snoc H
  | .fn _ _ :: H => toks_snoc H
  | .lnd _ _ :: H => toks_snoc H
  | .tak _ _ _ :: H => toks_snoc H
  | .upd A _ :: H => by simp only [List.cons_append, toks]; rw [toks_snoc H]

theorem At.app {A : HP} {L : List HP} : ∀ X : List HP, At A (X ++ A :: L) (X ++ L)
  | [] => At.here
  | _ :: X => At.there (At.app X)

theorem resA_app {us : Nat → Value} : ∀ (i : Nat) (H : List HV) (L : List HP), resA us i H L = resA us i H [] ++ L
  | _, [], _ => rfl
  | i, .val _ :: H, L => by simp only [resA]; exact resA_app (i + 1) H L
  | i, .cpy _ :: H, L => by simp only [resA]; exact resA_app (i + 1) H L
  | i, .fn _ _ :: H, L => by simp only [resA]; exact resA_app (i + 1) H L
  | i, .lnd _ _ :: H, L => by simp only [resA]; exact resA_app (i + 1) H L
  | i, .tak _ _ V :: H, L => by simp only [resA, List.cons_append]; rw [resA_app (i + 1) H L]
  | i, .res V :: H, L => by simp only [resA, List.cons_append]; rw [resA_app (i + 1) H L]
  | i, .dep j V :: H, L => by simp only [resA, List.cons_append]; rw [resA_app (i + 1) H L]
  | i, .upd A V :: H, L => by simp only [resA, List.cons_append]; rw [resA_app (i + 1) H L]

theorem resA_snoc {us : Nat → Value} {h : HV} : ∀ (i : Nat) (H : List HV) (L : List HP), resA us i (H ++ [h]) L = resA us i H (resA us (i + H.length) [h] L)
  | _, [], _ => rfl
  | i, .val _ :: H, L => by simp only [List.cons_append, resA, List.length_cons]; rw [resA_snoc (i + 1) H L, show i + 1 + H.length = i + (H.length + 1) by omega]
  | i, .cpy _ :: H, L => by simp only [List.cons_append, resA, List.length_cons]; rw [resA_snoc (i + 1) H L, show i + 1 + H.length = i + (H.length + 1) by omega]
  | i, .lnd _ _ :: H, L => by simp only [List.cons_append, resA, List.length_cons]; rw [resA_snoc (i + 1) H L, show i + 1 + H.length = i + (H.length + 1) by omega]
  | i, .tak _ _ V :: H, L => by simp only [List.cons_append, resA, List.length_cons]; rw [resA_snoc (i + 1) H L, show i + 1 + H.length = i + (H.length + 1) by omega]
  | i, .fn _ _ :: H, L => by simp only [List.cons_append, resA, List.length_cons]; rw [resA_snoc (i + 1) H L, show i + 1 + H.length = i + (H.length + 1) by omega]
  | i, .res V :: H, L => by simp only [List.cons_append, resA, List.length_cons]; rw [resA_snoc (i + 1) H L, show i + 1 + H.length = i + (H.length + 1) by omega]
  | i, .dep j V :: H, L => by simp only [List.cons_append, resA, List.length_cons]; rw [resA_snoc (i + 1) H L, show i + 1 + H.length = i + (H.length + 1) by omega]
  | i, .upd A V :: H, L => by simp only [List.cons_append, resA, List.length_cons]; rw [resA_snoc (i + 1) H L, show i + 1 + H.length = i + (H.length + 1) by omega]

theorem Sub.trans_at {A : HP} {X Y : List HP} (h : At A X Y) : ∀ {Z : List HP}, Sub Z Y → Sub (A :: Z) X := fun hz => .cons h hz

variable {os : List Oper} {i : Nat} {o : Oper} {r : List Oper} {acc : List (Nat × Nat × HV)} {HR : List (Nat × ((Nat → Value) → Value → HP))} {FinE : List (Nat × Nat × HV) → List (Nat × ((Nat → Value) → Value → HP)) → List HP → Prop} {TK L0 : List HP}

theorem Obx_of_E {m : Nat} {G : Act → World → Prop} : ∀ (r : List Oper) (i : Nat) (H : List HV) (acc : List (Nat × Nat × HV)) (HR : List (Nat × ((Nat → Value) → Value → HP))) (TK : List HP), Acc os H i acc → toks H [] = TK → (∀ us L, Sub (resE us HR L) (resA us 0 H L)) → i + r.length = m → (∀ j, r[j]? = os[i + j]? ∨ r.length ≤ j) → m ≤ os.length →
    ObxE df P n os l w0 L (fun acc HR TK => TK ++ L = L0 ∧ ∀ us a w, Kn df n a (finE us acc l) → St w0 (resE us HR L) w → G a w) i r acc HR TK →
    Obx df P n os l w0 L (fun H => toks H L = L0 ∧ ∀ us a w, Kn df n a (finK us 0 (os.take m) H l) → St w0 (resA us 0 H L) w → G a w) i r H
  | [], i, H, acc, HR, TK, hA, hT, hR, him, hos, hm, h => by
    refine ⟨by rw [toks_app, hT]; exact h.1, ?_⟩
    intro us a w hk hS
    refine h.2 us a w ⟨hk.size, fun t v hv => hk.get t v ?_, hk.defers⟩ (hS.sub (hR us L))
    have him' : i = m := by simpa using him
    subst him'
    rw [lk_finE] at hv
    have hlen : (os.take i).length = i := by rw [List.length_take]; omega
    rw [lk_finK (os := os) (H := H) (us := us) (os.take i) 0 H l (by rw [hlen, hA.len]) (fun j => by
      rcases Nat.lt_or_ge j i with h | h
      · left; rw [List.getElem?_take, if_pos h]; simp
      · right; omega) (fun j h hh => by simpa using hh) t, hlen, Nat.zero_add]
    rw [hA.cur l us t] at hv
    have heq : ∀ j, lastIn (fun k => !Nat.blt k 0) os j t = lastW os j t := by
      intro j
      induction j with
      | zero => rfl
      | succ j ih => unfold lastW lastIn; rw [ih]; rfl
    rw [heq i]
    exact hv
  | o :: r, i, H, acc, HR, TK, hA, hT, hR, him, hos, hm, ⟨h, hob, hr⟩ => by
    have ho : os[i]? = some o := by
      rcases hos 0 with h1 | h1
      · simpa using h1.symm
      · simp at h1
    refine ⟨h, ?_, Obx_of_E r (i + 1) (H ++ [h]) _ _ _ (hA.push ho h) (by rw [toks_snoc, hT]) ?_ (by simp at him ⊢; omega) (fun j => ?_) hm hr⟩
    · refine ⟨⟨fun k hk => ?_, fun k A V e => ?_⟩, ?_⟩
      rotate_left
      · obtain ⟨d, hd⟩ := hob.1.2 k A V e
        exact hA.mem _ _ _ hd
      rotate_left
      · obtain ⟨t, h', ht, hl⟩ := hob.1.1 k hk
        rw [hA.get t] at hl
        cases hw : lastW os i t with
        | none => rw [hw] at hl; simp at hl
        | some k' =>
          rw [hw] at hl
          simp only [Option.bind_some, Option.map_eq_some_iff] at hl
          obtain ⟨_, _, e⟩ := hl
          injection e with e _
          subst e
          exact ⟨t, ht, hw⟩
      intro us a w X hk hd hS hX hd2
      have e := hA.vw l us (o.looksAt os.toArray)
      have := hob.2 us a w X (by rw [e]; exact hk) (hA.dep us w _ hd) hS hX (hA.dep2 us w _ hd2)
      rw [e] at this
      exact this
    · intro us L
      rw [resA_snoc, hA.len, Nat.zero_add]
      cases h with
      | val c => exact hR us L
      | cpy c => exact hR us L
      | fn c d => exact hR us L
      | lnd c d => exact hR us L
      | tak q A V =>
        simp only [pushR, resE, resA]
        rw [resA_app]
        refine Sub.trans_at (At.app _) ?_
        rw [← resA_app]
        exact hR us L
      | res V =>
        simp only [pushR, resE, resA]
        rw [resA_app]
        refine Sub.trans_at (At.app _) ?_
        rw [← resA_app]
        exact hR us L
      | dep j V =>
        simp only [pushR, resE, resA]
        rw [resA_app]
        refine Sub.trans_at (At.app _) ?_
        rw [← resA_app]
        exact hR us L
      | upd A V =>
        simp only [pushR, resE, resA]
        rw [resA_app]
        refine Sub.trans_at (At.app _) ?_
        rw [← resA_app]
        exact hR us L
    · rcases hos (j + 1) with h1 | h1
      · left; simpa [Nat.add_assoc, Nat.add_comm 1 j] using h1
      · right; simp at h1; omega

theorem wp_drawnU (m : Nat) {id : Nat} (hm : P.follows .mixedOrders = true) (hc : chk os m n = true) (hk : Kn df n a l) (hS : St w0 L0 w)
    (h : ObxE df P n os l w0 L (fun acc HR TK => TK ++ L = L0 ∧ ∀ us a w, Kn df n a (finE us acc l) → St w0 (resE us HR L) w → wpListIn (FR rr) 0 P os.toArray Q (os.drop m) a w) 0 (os.take m) [] [] []) :
    (Code.region id os.toArray true).wpIn (FR rr) 0 P Q a w := by
  have hC := Chk.of hc
  have hlen : (os.take m).length = m := by rw [List.length_take]; have := hC.le; omega
  refine wp_region_drawn m hm hc hk hS (Obx_of_E (os.take m) 0 [] [] [] [] ⟨rfl, fun t => rfl, fun d k h hm => by cases hm⟩ rfl (fun us L => .refl) (by simpa using hlen) (fun j => ?_) hC.le h)
  rcases Nat.lt_or_ge j m with h | h
  · left; rw [List.getElem?_take, if_pos h]; simp
  · right; omega

theorem wp_drawnU1 {A : HP} (m : Nat) {id : Nat} (hm : P.follows .mixedOrders = true) (hc : chk os m n = true) (hk : Kn df n a l) (hS : St w0 (A :: L) w)
    (h : ObxE df P n os l w0 L (fun acc HR TK => TK ++ L = A :: L ∧ ∀ us a w, Kn df n a (finE us acc l) → St w0 (resE us HR L) w → wpListIn (FR rr) 0 P os.toArray Q (os.drop m) a w) 0 (os.take m) [] [] []) :
    (Code.region id os.toArray true).wpIn (FR rr) 0 P Q a w := wp_drawnU m hm hc hk hS h
theorem wp_drawn (m : Nat) {id : Nat} (hm : P.follows .mixedOrders = true) (hc : chk os m n = true) (hk : Kn df n a l) (hS : St w0 L w)
    (h : ObxE df P n os l w0 L (fun acc HR TK => TK ++ L = L ∧ ∀ us a w, Kn df n a (finE us acc l) → St w0 (resE us HR L) w → wpListIn (FR rr) 0 P os.toArray Q (os.drop m) a w) 0 (os.take m) [] [] []) :
    (Code.region id os.toArray true).wpIn (FR rr) 0 P Q a w := wp_drawnU m hm hc hk hS h

inductive VW (acc : List (Nat × Nat × HV)) (l : List (Nat × Value)) (us : Nat → Value) : List Nat → List (Nat × Value) → Prop
  | nil : VW acc l us [] []
  | val {t k : Nat} {c : Value} {ts : List Nat} {r : List (Nat × Value)} (h : lkE acc t = some (k, .val c)) (hr : VW acc l us ts r) : VW acc l us (t :: ts) ((t, c) :: r)
  | res {t k : Nat} {V : Value → HP} {ts : List Nat} {r : List (Nat × Value)} (h : lkE acc t = some (k, .res V)) (hr : VW acc l us ts r) : VW acc l us (t :: ts) ((t, us k) :: r)
  | dep {t k k1 : Nat} {V : Value → Value → HP} {ts : List Nat} {r : List (Nat × Value)} (h : lkE acc t = some (k, .dep k1 V)) (hr : VW acc l us ts r) : VW acc l us (t :: ts) ((t, us k) :: r)
  | cpy {t k k1 : Nat} {ts : List Nat} {r : List (Nat × Value)} (h : lkE acc t = some (k, .cpy k1)) (hr : VW acc l us ts r) : VW acc l us (t :: ts) ((t, us k1) :: r)
  | fn {t k : Nat} {js : List Nat} {f : List Value → Value} {ts : List Nat} {r : List (Nat × Value)} (h : lkE acc t = some (k, .fn js f)) (hr : VW acc l us ts r) : VW acc l us (t :: ts) ((t, f (js.map us)) :: r)
  | lnd {t k c : Nat} {A : Value → HP} {ts : List Nat} {r : List (Nat × Value)} (h : lkE acc t = some (k, .lnd c A)) (hr : VW acc l us ts r) : VW acc l us (t :: ts) ((t, us k) :: r)
  | tak {t k q : Nat} {A V : Value → HP} {ts : List Nat} {r : List (Nat × Value)} (h : lkE acc t = some (k, .tak q A V)) (hr : VW acc l us ts r) : VW acc l us (t :: ts) ((t, us k) :: r)
  | upd {t k : Nat} {A : HP} {V : Value → HP} {ts : List Nat} {r : List (Nat × Value)} (h : lkE acc t = some (k, .upd A V)) (hr : VW acc l us ts r) : VW acc l us (t :: ts) ((t, us k) :: r)
  | base {t : Nat} {c : Value} {ts : List Nat} {r : List (Nat × Value)} (h : lkE acc t = none) (hl : lk l t = some c) (hr : VW acc l us ts r) : VW acc l us (t :: ts) ((t, c) :: r)

theorem VW.eq {us : Nat → Value} {ts : List Nat} {r : List (Nat × Value)} (h : VW acc l us ts r) : vwE acc l us ts = r := by
  induction h with
  | nil => rfl
  | val h _ ih => simp only [vwE, curE, h, HV.of, ih]
  | res h _ ih => simp only [vwE, curE, h, HV.of, ih]
  | upd h _ ih => simp only [vwE, curE, h, HV.of, ih]
  | cpy h _ ih => simp only [vwE, curE, h, HV.of, ih]
  | fn h _ ih => simp only [vwE, curE, h, HV.of, ih]
  | dep h _ ih => simp only [vwE, curE, h, HV.of, ih]
  | lnd h _ ih => simp only [vwE, curE, h, HV.of, ih]
  | tak h _ ih => simp only [vwE, curE, h, HV.of, ih]
  | base h hl _ ih => simp only [vwE, curE, h, hl, ih]

theorem Kn.vw {us : Nat → Value} {ts : List Nat} {r : List (Nat × Value)} (hk : Kn df n a (vwE acc l us ts)) (h : VW acc l us ts r) : Kn df n a r := by rw [← h.eq]; exact hk

theorem St.sub0 {w0 : Bs} {w : World} {L X : List HP} (h : St w0 ([] ++ X) w) (hX : Sub L X) : St w0 L w := St.sub (by simpa using h) hX

theorem obe_val {c : Value} (h : ∀ (us : Nat → Value) (a : Act) (w : World), Kn df n a (vwE acc l us (o.looksAt os.toArray)) → depE acc us w (o.looksAt os.toArray) → St w0 L w → Gives P o a w (fun v w' => v = c ∧ St w [] w'))
    (hr : ObxE df P n os l w0 L FinE (i + 1) r (pushE o.dst i (.val c) acc) HR TK)
    (hg : ∀ us, gdK os.toArray (vwE acc l us (o.looksAt os.toArray)) o.guard = some true := by intro us; rfl) : ObxE df P n os l w0 L FinE i (o :: r) acc HR TK :=
  ⟨.val c, ⟨⟨fun k e => (by simp [HV.srcs] at e), fun k A V e => (by cases e)⟩, fun us a w X hk hd hS hX _ => .inr ⟨hg us, h us a w hk hd (hS.sub0 hX)⟩⟩, by simpa [HV.pre, pushR] using hr⟩

theorem obe_res {V : Value → HP} (h : ∀ (us : Nat → Value) (a : Act) (w : World), Kn df n a (vwE acc l us (o.looksAt os.toArray)) → depE acc us w (o.looksAt os.toArray) → St w0 L w → Gives P o a w (fun v w' => St w [V v] w'))
    (hr : ObxE df P n os l w0 L FinE (i + 1) r (pushE o.dst i (.res V) acc) ((i, fun _ => V) :: HR) TK)
    (hg : ∀ us, gdK os.toArray (vwE acc l us (o.looksAt os.toArray)) o.guard = some true := by intro us; rfl) : ObxE df P n os l w0 L FinE i (o :: r) acc HR TK :=
  ⟨.res V, ⟨⟨fun k e => (by simp [HV.srcs] at e), fun k A V e => (by cases e)⟩, fun us a w X hk hd hS hX _ => .inr ⟨hg us, h us a w hk hd (hS.sub0 hX)⟩⟩, by simpa [HV.pre, pushR] using hr⟩

theorem obe_dep (t k : Nat) {h' : HV} {V : Value → Value → HP} (h : ∀ (us : Nat → Value) (a : Act) (w : World), Kn df n a (vwE acc l us (o.looksAt os.toArray)) → depE acc us w (o.looksAt os.toArray) → St w0 L w → Gives P o a w (fun v w' => St w [V (us k) v] w'))
    (hr : ObxE df P n os l w0 L FinE (i + 1) r (pushE o.dst i (.dep k V) acc) ((i, fun us => V (us k)) :: HR) TK) (ht : (o.looksAt os.toArray).contains t = true := by rfl) (hl : lkE acc t = some (k, h') := by rfl)
    (hg : ∀ us, gdK os.toArray (vwE acc l us (o.looksAt os.toArray)) o.guard = some true := by intro us; rfl) : ObxE df P n os l w0 L FinE i (o :: r) acc HR TK :=
  ⟨.dep k V, ⟨⟨fun k' e => by simp only [HV.srcs, List.mem_singleton] at e; subst e; exact ⟨t, h', by simpa using ht, hl⟩, fun k A V e => (by cases e)⟩, fun us a w X hk hd hS hX _ => .inr ⟨hg us, h us a w hk hd (hS.sub0 hX)⟩⟩, by simpa [HV.pre, pushR] using hr⟩

theorem obe_upd (A : HP) {V : Value → HP} (h : ∀ (us : Nat → Value) (a : Act) (w : World) (X : List HP), Kn df n a (vwE acc l us (o.looksAt os.toArray)) → depE acc us w (o.looksAt os.toArray) → St w0 (A :: X) w → St w0 L w → Gives P o a w (fun v w' => St w0 (V v :: X) w'))
    (hr : ObxE df P n os l w0 L FinE (i + 1) r (pushE o.dst i (.upd A V) acc) ((i, fun _ => V) :: HR) (TK ++ [A]))
    (hg : ∀ us, gdK os.toArray (vwE acc l us (o.looksAt os.toArray)) o.guard = some true := by intro us; rfl) : ObxE df P n os l w0 L FinE i (o :: r) acc HR TK :=
  ⟨.upd A V, ⟨⟨fun k e => (by simp [HV.srcs] at e), fun k A V e => (by cases e)⟩, fun us a w X hk hd hS hX _ => .inr ⟨hg us, h us a w X hk hd hS (St.sub hS hX.under)⟩⟩, hr⟩

theorem obe_fn (js : List Nat) (f : List Value → Value) (h : ∀ (us : Nat → Value) (a : Act) (w : World), Kn df n a (vwE acc l us (o.looksAt os.toArray)) → depE acc us w (o.looksAt os.toArray) → St w0 L w → Gives P o a w (fun v w' => v = f (js.map us) ∧ St w [] w'))
    (hr : ObxE df P n os l w0 L FinE (i + 1) r (pushE o.dst i (.fn js f) acc) HR TK) (ht : ∀ k ∈ js, ∃ t h', (o.looksAt os.toArray).contains t = true ∧ lkE acc t = some (k, h'))
    (hg : ∀ us, gdK os.toArray (vwE acc l us (o.looksAt os.toArray)) o.guard = some true := by intro us; rfl) : ObxE df P n os l w0 L FinE i (o :: r) acc HR TK :=
  ⟨.fn js f, ⟨⟨fun k' e => by obtain ⟨t, h', h1, h2⟩ := ht k' e; exact ⟨t, h', by simpa using h1, h2⟩, fun k A V e => (by cases e)⟩, fun us a w X hk hd hS hX _ => .inr ⟨hg us, h us a w hk hd (hS.sub0 hX)⟩⟩, by simpa [HV.pre, pushR] using hr⟩

theorem obe_skip (hr : ObxE df P n os l w0 L FinE (i + 1) r (pushE o.dst i (.val undef) acc) HR TK)
    (hg : ∀ us, gdK os.toArray (vwE acc l us (o.looksAt os.toArray)) o.guard = some false := by intro us; rfl) : ObxE df P n os l w0 L FinE i (o :: r) acc HR TK :=
  ⟨.val undef, ⟨⟨fun k e => (by simp [HV.srcs] at e), fun k A V e => (by cases e)⟩, fun us _ _ _ _ _ _ _ _ => .inl ⟨hg us, rfl⟩⟩, by simpa [HV.pre, pushR] using hr⟩

theorem obe_nil (h : FinE acc HR TK) : ObxE df P n os l w0 L FinE i [] acc HR TK := h

theorem St.call0 {w0 : Bs} {w w' : World} {L : List HP} (h : St w0 L w) (h1 : St w [] w') : St w0 L w' := h.call h1
theorem St.nil {w0 : Bs} {w : World} {L : List HP} (h : St w0 L w) : St w0 [] w := h.sub .nil

variable {dst : Option Nat} {R : Value → World → Prop} {ty : TypeId} {pos : String} {af : Array Edge} {g : Option (Nat × Bool)}
theorem g_eqiT {x y : Operand} {t t' : TypeId} {k : IntKind} {p : Int} (hk : Kn df n a l) (h : R (.bool true) w)
    (hx : ev l x = some (.int k p) := by rfl) (hy : ev l y = some (.int k p) := by rfl) : Gives P ⟨dst, .binOp .eql t x y t', ty, pos, af, g⟩ a w R :=
  g_eqi (p := p) (q := p) hk (by simpa using h) hx hy
theorem g_eqbT {x y : Operand} {t t' : TypeId} {p : Bool} (hk : Kn df n a l) (h : R (.bool true) w) (ht : P.underlying t = some .bool)
    (hx : ev l x = some (.bool p) := by rfl) (hy : ev l y = some (.bool p) := by rfl) : Gives P ⟨dst, .binOp .eql t x y t', ty, pos, af, g⟩ a w R :=
  g_eqb (p := p) (q := p) hk (by simpa using h) ht hx hy

theorem g_leqT {x y : Operand} {t t' : TypeId} {k : IntKind} {p q : Int} (hk : Kn df n a l) (h : R (.bool true) w)
    (hx : ev l x = some (.int k p) := by rfl) (hy : ev l y = some (.int k q) := by rfl) (hpq : p ≤ q) : Gives P ⟨dst, .binOp .leq t x y t', ty, pos, af, g⟩ a w R :=
  g_leq hk (by rw [decide_eq_true hpq]; exact h) hx hy
theorem g_leqF {x y : Operand} {t t' : TypeId} {k : IntKind} {p q : Int} (hk : Kn df n a l) (h : R (.bool false) w)
    (hx : ev l x = some (.int k p) := by rfl) (hy : ev l y = some (.int k q) := by rfl) (hpq : ¬ p ≤ q) : Gives P ⟨dst, .binOp .leq t x y t', ty, pos, af, g⟩ a w R :=
  g_leq hk (by rw [decide_eq_false hpq]; exact h) hx hy
theorem g_lssT {x y : Operand} {t t' : TypeId} {k : IntKind} {p q : Int} (hk : Kn df n a l) (h : R (.bool true) w)
    (hx : ev l x = some (.int k p) := by rfl) (hy : ev l y = some (.int k q) := by rfl) (hpq : p < q) : Gives P ⟨dst, .binOp .lss t x y t', ty, pos, af, g⟩ a w R :=
  g_lss hk (by rw [decide_eq_true hpq]; exact h) hx hy
theorem g_lssF {x y : Operand} {t t' : TypeId} {k : IntKind} {p q : Int} (hk : Kn df n a l) (h : R (.bool false) w)
    (hx : ev l x = some (.int k p) := by rfl) (hy : ev l y = some (.int k q) := by rfl) (hpq : ¬ p < q) : Gives P ⟨dst, .binOp .lss t x y t', ty, pos, af, g⟩ a w R :=
  g_lss hk (by rw [decide_eq_false hpq]; exact h) hx hy
theorem g_geqT {x y : Operand} {t t' : TypeId} {k : IntKind} {p q : Int} (hk : Kn df n a l) (h : R (.bool true) w)
    (hx : ev l x = some (.int k p) := by rfl) (hy : ev l y = some (.int k q) := by rfl) (hpq : q ≤ p) : Gives P ⟨dst, .binOp .geq t x y t', ty, pos, af, g⟩ a w R :=
  g_geq hk (by rw [decide_eq_true hpq]; exact h) hx hy
theorem g_geqF {x y : Operand} {t t' : TypeId} {k : IntKind} {p q : Int} (hk : Kn df n a l) (h : R (.bool false) w)
    (hx : ev l x = some (.int k p) := by rfl) (hy : ev l y = some (.int k q) := by rfl) (hpq : ¬ q ≤ p) : Gives P ⟨dst, .binOp .geq t x y t', ty, pos, af, g⟩ a w R :=
  g_geq hk (by rw [decide_eq_false hpq]; exact h) hx hy
theorem g_gtrT {x y : Operand} {t t' : TypeId} {k : IntKind} {p q : Int} (hk : Kn df n a l) (h : R (.bool true) w)
    (hx : ev l x = some (.int k p) := by rfl) (hy : ev l y = some (.int k q) := by rfl) (hpq : q < p) : Gives P ⟨dst, .binOp .gtr t x y t', ty, pos, af, g⟩ a w R :=
  g_gtr hk (by rw [decide_eq_true hpq]; exact h) hx hy
theorem g_gtrF {x y : Operand} {t t' : TypeId} {k : IntKind} {p q : Int} (hk : Kn df n a l) (h : R (.bool false) w)
    (hx : ev l x = some (.int k p) := by rfl) (hy : ev l y = some (.int k q) := by rfl) (hpq : ¬ q < p) : Gives P ⟨dst, .binOp .gtr t x y t', ty, pos, af, g⟩ a w R :=
  g_gtr hk (by rw [decide_eq_false hpq]; exact h) hx hy
theorem g_eqiE {x y : Operand} {t t' : TypeId} {k : IntKind} {p q : Int} (hk : Kn df n a l) (h : R (.bool true) w)
    (hx : ev l x = some (.int k p) := by rfl) (hy : ev l y = some (.int k q) := by rfl) (hpq : p = q) : Gives P ⟨dst, .binOp .eql t x y t', ty, pos, af, g⟩ a w R :=
  g_eqi hk (by rw [decide_eq_true hpq]; exact h) hx hy
theorem g_eqiF {x y : Operand} {t t' : TypeId} {k : IntKind} {p q : Int} (hk : Kn df n a l) (h : R (.bool false) w)
    (hx : ev l x = some (.int k p) := by rfl) (hy : ev l y = some (.int k q) := by rfl) (hpq : ¬ p = q) : Gives P ⟨dst, .binOp .eql t x y t', ty, pos, af, g⟩ a w R :=
  g_eqi hk (by rw [decide_eq_false hpq]; exact h) hx hy
theorem g_neiT {x y : Operand} {t t' : TypeId} {k : IntKind} {p q : Int} (hk : Kn df n a l) (h : R (.bool true) w)
    (hx : ev l x = some (.int k p) := by rfl) (hy : ev l y = some (.int k q) := by rfl) (hpq : ¬ p = q) : Gives P ⟨dst, .binOp .neq t x y t', ty, pos, af, g⟩ a w R :=
  g_nei hk (by rw [decide_eq_false hpq]; exact h) hx hy
theorem g_neiF {x y : Operand} {t t' : TypeId} {k : IntKind} {p q : Int} (hk : Kn df n a l) (h : R (.bool false) w)
    (hx : ev l x = some (.int k p) := by rfl) (hy : ev l y = some (.int k q) := by rfl) (hpq : p = q) : Gives P ⟨dst, .binOp .neq t x y t', ty, pos, af, g⟩ a w R :=
  g_nei hk (by rw [decide_eq_true hpq]; exact h) hx hy

theorem same (v : Value) (w : World) : v = v ∧ St w [] w := ⟨rfl, St.refl w⟩

end
end Go.Proofs.YtkcjkbnbblpomaaGreatDoor
