/- Control, loops, drawn regions in short form, and slices that are read. Structs of plain parts held against each other. From the form's reading of the arguments to what a walk asks; and from a law's walk to the row's contract. -/
import Derived.Test.YtnjmonkehjlaoaaGreatDoorG02
import Derived.ProofKit
set_option linter.all false
namespace Go.Proofs.YtnjmonkehjlaoaaGreatDoor
variable {df : List Deferred}
variable {rr : Option Nat}
open Go.RowKit
section
variable {P : Program} {Q : Exit → Act → World → Prop} {a : Act} {w w' : World} {w0 : Bs} {n : Nat} {l : List (Nat × Value)} {L : List HP}
theorem q_thenE {K : Act → World → Prop} {i : Nat} (h : Q (.exit i) a w) : Exit.then K Q (.exit i) a w := h
theorem q_thenR {K : Act → World → Prop} (h : Q .ret a w) : Exit.then K Q .ret a w := h
theorem q_inN {i : Nat} (h : Q .normal a w) : Exit.inBlock i Q .normal a w := h
theorem q_inR {i : Nat} (h : Q .ret a w) : Exit.inBlock i Q .ret a w := h
theorem q_inE {i : Nat} (h : Q .normal a w) : Exit.inBlock i Q (.exit i) a w := by simp only [Exit.inBlock, if_true]; exact h
theorem c_true {c : Operand} {x y : Code} (hk : Kn df n a l) (h : x.wpIn (FR rr) 0 P Q a w) (hc : ev l c = some (.bool true) := by rfl) : (Code.cond c x y).wpIn (FR rr) 0 P Q a w := wpIn_cond_true (hk.eval hc) h
theorem c_false {c : Operand} {x y : Code} (hk : Kn df n a l) (h : y.wpIn (FR rr) 0 P Q a w) (hc : ev l c = some (.bool false) := by rfl) : (Code.cond c x y).wpIn (FR rr) 0 P Q a w := wpIn_cond_false (hk.eval hc) h
theorem wp_loopN {c : Code} (I : Nat → Act → World → Prop) {k : Nat} (h0 : I k a w)
  (step : ∀ k a w, I k a w → c.wpIn (FR rr) 0 P (Exit.then (fun a' w' => ∃ k', k' < k ∧ I k' a' w') Q) a w) : (Code.loop c).wpIn (FR rr) 0 P Q a w := by
 open Classical in
 have hm : ∀ a w, (∃ k, I k a w) → ∃ k, I k a w ∧ ∀ k', I k' a w → k ≤ k' := by
  intro a w ⟨k, hk⟩
  induction k using Nat.strongRecOn with
  | _ k ih =>
   by_cases h : ∃ k', k' < k ∧ I k' a w
   ·obtain ⟨k', h1, h2⟩ := h
    exact ih k' h1 h2
   ·exact ⟨k, hk, fun k' hk' => by
     rcases Nat.lt_or_ge k' k with h' | h'
     ·exact absurd ⟨k', h', hk'⟩ h
     ·exact h'⟩
 refine wpIn_loop (fun a w => ∃ k, I k a w) (fun a w => if h : ∃ k, I k a w then Classical.choose (hm a w h) else 0) ⟨k, h0⟩ ?_
 intro a w hex
 obtain ⟨hk, hmin⟩ := Classical.choose_spec (hm a w hex)
 refine wpIn_mono (step _ a w hk) ?_
 intro e a' w' hq
 cases e with
 | normal =>
  obtain ⟨k', hlt, hk'⟩ := hq
  have hex' : ∃ k, I k a' w' := ⟨k', hk'⟩
  refine ⟨hex', ?_⟩
  rw [dif_pos hex, dif_pos hex']
  exact Nat.lt_of_le_of_lt ((Classical.choose_spec (hm a' w' hex')).2 k' hk') hlt
 | exit i => exact hq
 | goto i => exact hq
 | ret => exact hq
 | panic c => exact hq
 | outgrown => exact hq
def lkE : List (Nat × Nat × HV) → Nat → Option (Nat × HV)
 | [], _ => none
 | (d, k, h) :: r, x => bif Nat.beq d x then some (k, h) else lkE r x
def curE (acc : List (Nat × Nat × HV)) (l : List (Nat × Value)) (us : Nat → Value) (t : Nat) : Option Value :=
 match lkE acc t with
 | some (k, h) => some (HV.of (some h) us k)
 | none => lk l t
def vwE (acc : List (Nat × Nat × HV)) (l : List (Nat × Value)) (us : Nat → Value) : List Nat → List (Nat × Value)
 | [] => []
 | t :: r => match curE acc l us t with
  | some v => (t, v) :: vwE acc l us r
  | none => vwE acc l us r
def depE (acc : List (Nat × Nat × HV)) (us : Nat → Value) (w : World) : List Nat → Prop
 | [] => True
 | t :: r => (match lkE acc t with
   | some (k, h) => match h.own us with
    | some V => (V (us k)).rd w
    | none => True
   | none => True) ∧ depE acc us w r
def depE2 (acc : List (Nat × Nat × HV)) (us : Nat → Value) (w : World) (ts : List Nat) : Prop :=
 ∀ t ∈ ts, ∀ k h, lkE acc t = some (k, h) → ∀ j ∈ h.srcs, ∀ d h', (d, j, h') ∈ acc → ∀ V, h'.own us = some V → (V (us j)).rd w
def ObE (df : List Deferred) (P : Program) (n : Nat) (os : List Oper) (l : List (Nat × Value)) (w0 : Bs) (L : List HP) (i : Nat) (o : Oper) (acc : List (Nat × Nat × HV)) (h : HV) : Prop :=
 ((∀ k ∈ h.srcs, ∃ t j h', t ∈ o.looksAt os.toArray ∧ lkE acc t = some (j, h') ∧ (j = k ∨ k ∈ h'.srcs)) ∧ ∀ k T A V, h = .tak k T A V → ∃ d p, (d, k, HV.lnd i p A) ∈ acc) ∧
 ∀ (us : Nat → Value) (a : Act) (w : World) (X : List HP), Kn df n a (vwE acc l us (o.looksAt os.toArray)) → depE acc us w (o.looksAt os.toArray) → St w0 (h.preU us ++ X) w → Sub L X → depE2 acc us w (o.looksAt os.toArray) →
  (gdK os.toArray (vwE acc l us (o.looksAt os.toArray)) o.guard = some false ∧ h = .val undef) ∨
  (gdK os.toArray (vwE acc l us (o.looksAt os.toArray)) o.guard = some true ∧ Gives P o a w (h.ok us w0 X w))
def pushE (d : Option Nat) (i : Nat) (h : HV) (acc : List (Nat × Nat × HV)) : List (Nat × Nat × HV) :=
 match d with
 | some d => (d, i, h) :: acc
 | none => acc
def pushR (i : Nat) (h : HV) (HR : List (Nat × ((Nat → Value) → Value → HP))) : List (Nat × ((Nat → Value) → Value → HP)) :=
 match h with
 | .val _ => HR
 | .res V => (i, fun _ => V) :: HR
 | .upd _ V => (i, fun _ => V) :: HR
 | .dep j V => (i, fun us => V (us j)) :: HR
 | .cpy _ => HR
 | .fn _ _ => HR
 | .lnd _ p _ => (i, fun _ v => pureH (p v)) :: HR
 | .tak _ _ _ V => (i, fun _ => V) :: HR
def ObxE (df : List Deferred) (P : Program) (n : Nat) (os : List Oper) (l : List (Nat × Value)) (w0 : Bs) (L : List HP) (Fin : List (Nat × Nat × HV) → List (Nat × ((Nat → Value) → Value → HP)) → List HP → Prop) : Nat → List Oper → List (Nat × Nat × HV) → List (Nat × ((Nat → Value) → Value → HP)) → List HP → Prop
 | _, [], acc, HR, TK => Fin acc HR TK
 | i, o :: r, acc, HR, TK => ∃ h, ObE df P n os l w0 L i o acc h ∧ ObxE df P n os l w0 L Fin (i + 1) r (pushE o.dst i h acc) (pushR i h HR) (TK ++ h.pre)
def finE (us : Nat → Value) : List (Nat × Nat × HV) → List (Nat × Value) → List (Nat × Value)
 | [], l => l
 | (d, k, h) :: r, l => (d, HV.of (some h) us k) :: finE us r l
def resE (us : Nat → Value) : List (Nat × ((Nat → Value) → Value → HP)) → List HP → List HP
 | [], L => L
 | (k, V) :: r, L => V us (us k) :: resE us r L
theorem lk_finE {us : Nat → Value} {l : List (Nat × Value)} : ∀ (acc : List (Nat × Nat × HV)) (t : Nat), lk (finE us acc l) t = curE acc l us t
 | [], t => rfl
 | (d, k, h) :: r, t => by
  have ih := lk_finE (us := us) (l := l) r t
  unfold curE at ih ⊢
  simp only [finE, lk, lkE]
  cases hb : Nat.beq d t with
  | true => rfl
  | false => simp only [cond_false];exact ih
structure Acc (os : List Oper) (H : List HV) (i : Nat) (acc : List (Nat × Nat × HV)) : Prop where
 len : H.length = i
 get : ∀ t, lkE acc t = (lastW os i t).bind (fun k => (H[k]?).map (fun h => (k, h)))
 mem : ∀ d k h, (d, k, h) ∈ acc → H[k]? = some h
theorem Acc.push {os : List Oper} {H : List HV} {i : Nat} {acc : List (Nat × Nat × HV)} {o : Oper} (hA : Acc os H i acc) (ho : os[i]? = some o) (h : HV) : Acc os (H ++ [h]) (i + 1) (pushE o.dst i h acc) := by
 refine ⟨by simp [hA.len], fun t => ?_, fun d k h' hm => ?_⟩
 rotate_left
 ·have hold : ∀ d k h', (d, k, h') ∈ acc → (H ++ [h])[k]? = some h' := fun d k h' hm => by
   have := hA.mem d k h' hm
   have hlt : k < H.length := by
    rcases Nat.lt_or_ge k H.length with h1 | h1
    ·exact h1
    ·rw [List.getElem?_eq_none h1] at this;cases this
   rw [List.getElem?_append_left hlt];exact this
  cases hd : o.dst with
  | none => rw [hd] at hm;exact hold d k h' hm
  | some d' =>
   rw [hd] at hm
   simp only [pushE, List.mem_cons, Prod.mk.injEq] at hm
   rcases hm with ⟨_, rfl, rfl⟩ | hm
   ·rw [← hA.len];simp
   ·exact hold d k h' hm
 have e : lastW os (i + 1) t = if (true && ((os[i]?).bind (·.dst) == some t)) = true then some i else lastW os i t := rfl
 have hold : (lastW os i t).bind (fun k => ((H ++ [h])[k]?).map (fun h => (k, h))) = (lastW os i t).bind (fun k => (H[k]?).map (fun h => (k, h))) := by
  cases hw : lastW os i t with
  | none => rfl
  | some k =>
   obtain ⟨hk, _, _⟩ := lastIn_spec hw
   simp only [Option.bind_some]
   rw [List.getElem?_append_left (by rw [hA.len];exact hk)]
 rw [e, ho]
 cases hd : o.dst with
 | none =>
  have : ((some o).bind (·.dst) == some t) = false := by simp [hd]
  rw [this]
  simp only [Bool.and_false, Bool.false_eq_true, if_false, pushE]
  rw [hold];exact hA.get t
 | some d =>
  by_cases hdt : d = t
  ·subst hdt
   have : ((some o).bind (·.dst) == some d) = true := by simp [hd]
   rw [this]
   simp only [Bool.and_true, if_true, pushE, lkE, Option.bind_some]
   have hb : Nat.beq d d = true := by simp
   rw [hb, cond_true, show (H ++ [h])[i]? = some h by rw [← hA.len];simp]
   rfl
  ·have : ((some o).bind (·.dst) == some t) = false := by simp [hd, hdt]
   rw [this]
   simp only [Bool.and_false, Bool.false_eq_true, if_false, pushE, lkE]
   have hb : Nat.beq d t = false := by
    cases hb : Nat.beq d t with
    | false => rfl
    | true => exact absurd (Nat.eq_of_beq_eq_true hb) hdt
   rw [hb, cond_false, hold];exact hA.get t
theorem Acc.cur {os : List Oper} {H : List HV} {i : Nat} {acc : List (Nat × Nat × HV)} (hA : Acc os H i acc) (l : List (Nat × Value)) (us : Nat → Value) (t : Nat) : curE acc l us t = curW os l H i us t := by
 unfold curE curW
 rw [hA.get t]
 cases hw : lastW os i t with
 | none => rfl
 | some k =>
  obtain ⟨hk, _, _⟩ := lastIn_spec hw
  have hk' : k < H.length := by rw [hA.len];exact hk
  simp [List.getElem?_eq_getElem hk']
theorem Acc.vw {os : List Oper} {H : List HV} {i : Nat} {acc : List (Nat × Nat × HV)} (hA : Acc os H i acc) (l : List (Nat × Value)) (us : Nat → Value) : ∀ ts, vwE acc l us ts = vwL os l H i us ts
 | [] => rfl
 | t :: r => by
  simp only [vwE, vwL, hA.cur l us t, hA.vw l us r]
  cases curW os l H i us t <;> rfl
theorem Acc.dep {os : List Oper} {H : List HV} {i : Nat} {acc : List (Nat × Nat × HV)} (hA : Acc os H i acc) (us : Nat → Value) (w : World) : ∀ ts, depRd os H i us w ts → depE acc us w ts
 | [], _ => trivial
 | t :: r, ⟨h1, h2⟩ => by
  refine ⟨?_, hA.dep us w r h2⟩
  rw [hA.get t]
  cases hw : lastW os i t with
  | none => trivial
  | some k =>
   obtain ⟨hk, _, _⟩ := lastIn_spec hw
   have hk' : k < H.length := by rw [hA.len];exact hk
   rw [hw] at h1
   simp only [List.getElem?_eq_getElem hk', Option.bind_some, Option.map_some] at h1 ⊢
   exact h1
theorem Acc.dep2 {os : List Oper} {H : List HV} {i : Nat} {acc : List (Nat × Nat × HV)} (hA : Acc os H i acc) (us : Nat → Value) (w : World) (ts : List Nat) (h : depRd2 os H i us w ts) : depE2 acc us w ts := by
 intro t ht k hv hl j hj d h' hm V hV
 rw [hA.get t] at hl
 cases hw : lastW os i t with
 | none => rw [hw] at hl;cases hl
 | some k' =>
  rw [hw] at hl
  cases hH : H[k']? with
  | none => simp [hH] at hl
  | some h2 =>
   simp only [Option.bind_some, hH, Option.map_some, Option.some.injEq, Prod.mk.injEq] at hl
   obtain ⟨rfl, rfl⟩ := hl
   exact h t ht k' hw h2 hH j hj V (by rw [hA.mem d j h' hm];exact hV)
theorem toks_app {L : List HP} : ∀ H : List HV, toks H L = toks H [] ++ L
 | [] => rfl
 | .val _ :: H => toks_app H
 | .res _ :: H => toks_app H
 | .dep _ _ :: H => toks_app H
 | .cpy _ :: H => toks_app H
 | .fn _ _ :: H => toks_app H
 | .lnd _ _ _ :: H => toks_app H
 | .tak _ T _ _ :: H => by simp only [toks, List.append_assoc];rw [toks_app H]
 | .upd A _ :: H => by simp only [toks, List.cons_append];rw [toks_app H]
theorem toks_snoc {h : HV} : ∀ H : List HV, toks (H ++ [h]) [] = toks H [] ++ h.pre
 | [] => by cases h <;> simp [toks, HV.pre]
 | .val _ :: H => toks_snoc H
 | .res _ :: H => toks_snoc H
 | .dep _ _ :: H => toks_snoc H
 | .cpy _ :: H => toks_snoc H
 | .fn _ _ :: H => toks_snoc H
 | .lnd _ _ _ :: H => toks_snoc H
 | .tak _ T _ _ :: H => by simp only [List.cons_append, toks, List.append_assoc];rw [toks_snoc H]
 | .upd A _ :: H => by simp only [List.cons_append, toks];rw [toks_snoc H]
theorem At.app {A : HP} {L : List HP} : ∀ X : List HP, At A (X ++ A :: L) (X ++ L)
 | [] => At.here
 | _ :: X => At.there (At.app X)
theorem resA_app {us : Nat → Value} : ∀ (i : Nat) (H : List HV) (L : List HP), resA us i H L = resA us i H [] ++ L
 | _, [], _ => rfl
 | i, .val _ :: H, L => by simp only [resA];exact resA_app (i + 1) H L
 | i, .cpy _ :: H, L => by simp only [resA];exact resA_app (i + 1) H L
 | i, .fn _ _ :: H, L => by simp only [resA];exact resA_app (i + 1) H L
 | i, .lnd _ p _ :: H, L => by simp only [resA, List.cons_append];rw [resA_app (i + 1) H L]
 | i, .tak _ _ _ V :: H, L => by simp only [resA, List.cons_append];rw [resA_app (i + 1) H L]
 | i, .res V :: H, L => by simp only [resA, List.cons_append];rw [resA_app (i + 1) H L]
 | i, .dep j V :: H, L => by simp only [resA, List.cons_append];rw [resA_app (i + 1) H L]
 | i, .upd A V :: H, L => by simp only [resA, List.cons_append];rw [resA_app (i + 1) H L]
theorem resA_snoc {us : Nat → Value} {h : HV} : ∀ (i : Nat) (H : List HV) (L : List HP), resA us i (H ++ [h]) L = resA us i H (resA us (i + H.length) [h] L)
 | _, [], _ => rfl
 | i, .val _ :: H, L => by simp only [List.cons_append, resA, List.length_cons];rw [resA_snoc (i + 1) H L, show i + 1 + H.length = i + (H.length + 1) by omega]
 | i, .cpy _ :: H, L => by simp only [List.cons_append, resA, List.length_cons];rw [resA_snoc (i + 1) H L, show i + 1 + H.length = i + (H.length + 1) by omega]
 | i, .lnd _ p _ :: H, L => by simp only [List.cons_append, resA, List.length_cons];rw [resA_snoc (i + 1) H L, show i + 1 + H.length = i + (H.length + 1) by omega]
 | i, .tak _ _ _ V :: H, L => by simp only [List.cons_append, resA, List.length_cons];rw [resA_snoc (i + 1) H L, show i + 1 + H.length = i + (H.length + 1) by omega]
 | i, .fn _ _ :: H, L => by simp only [List.cons_append, resA, List.length_cons];rw [resA_snoc (i + 1) H L, show i + 1 + H.length = i + (H.length + 1) by omega]
 | i, .res V :: H, L => by simp only [List.cons_append, resA, List.length_cons];rw [resA_snoc (i + 1) H L, show i + 1 + H.length = i + (H.length + 1) by omega]
 | i, .dep j V :: H, L => by simp only [List.cons_append, resA, List.length_cons];rw [resA_snoc (i + 1) H L, show i + 1 + H.length = i + (H.length + 1) by omega]
 | i, .upd A V :: H, L => by simp only [List.cons_append, resA, List.length_cons];rw [resA_snoc (i + 1) H L, show i + 1 + H.length = i + (H.length + 1) by omega]
theorem Sub.trans_at {A : HP} {X Y : List HP} (h : At A X Y) : ∀ {Z : List HP}, Sub Z Y → Sub (A :: Z) X := fun hz => .cons h hz
variable {os : List Oper} {i : Nat} {o : Oper} {r : List Oper} {acc : List (Nat × Nat × HV)} {HR : List (Nat × ((Nat → Value) → Value → HP))} {FinE : List (Nat × Nat × HV) → List (Nat × ((Nat → Value) → Value → HP)) → List HP → Prop} {TK L0 : List HP}
theorem Obx_of_E {m : Nat} {G : Act → World → Prop} : ∀ (r : List Oper) (i : Nat) (H : List HV) (acc : List (Nat × Nat × HV)) (HR : List (Nat × ((Nat → Value) → Value → HP))) (TK : List HP), Acc os H i acc → toks H [] = TK → (∀ us L, Sub (resE us HR L) (resA us 0 H L)) → i + r.length = m → (∀ j, r[j]? = os[i + j]? ∨ r.length ≤ j) → m ≤ os.length →
  ObxE df P n os l w0 L (fun acc HR TK => TK ++ L = L0 ∧ ∀ us a w, Kn df n a (finE us acc l) → St w0 (resE us HR L) w → G a w) i r acc HR TK →
  Obx df P n os l w0 L (fun H => toks H L = L0 ∧ ∀ us a w, Kn df n a (finK us 0 (os.take m) H l) → St w0 (resA us 0 H L) w → G a w) i r H
 | [], i, H, acc, HR, TK, hA, hT, hR, him, hos, hm, h => by
  refine ⟨by rw [toks_app, hT];exact h.1, ?_⟩
  intro us a w hk hS
  refine h.2 us a w ⟨hk.size, fun t v hv => hk.get t v ?_, hk.defers⟩ (hS.sub (hR us L))
  have him' : i = m := by simpa using him
  subst him'
  rw [lk_finE] at hv
  have hlen : (os.take i).length = i := by rw [List.length_take];omega
  rw [lk_finK (os := os) (H := H) (us := us) (os.take i) 0 H l (by rw [hlen, hA.len]) (fun j => by
   rcases Nat.lt_or_ge j i with h | h
   ·left;rw [List.getElem?_take, if_pos h];simp
   ·right;omega) (fun j h hh => by simpa using hh) t, hlen, Nat.zero_add]
  rw [hA.cur l us t] at hv
  have heq : ∀ j, lastIn (fun k => !Nat.blt k 0) os j t = lastW os j t := by
   intro j
   induction j with
   | zero => rfl
   | succ j ih => unfold lastW lastIn;rw [ih];rfl
  rw [heq i]
  exact hv
 | o :: r, i, H, acc, HR, TK, hA, hT, hR, him, hos, hm, ⟨h, hob, hr⟩ => by
  have ho : os[i]? = some o := by
   rcases hos 0 with h1 | h1
   ·simpa using h1.symm
   ·simp at h1
  refine ⟨h, ?_, Obx_of_E r (i + 1) (H ++ [h]) _ _ _ (hA.push ho h) (by rw [toks_snoc, hT]) ?_ (by simp at him ⊢;omega) (fun j => ?_) hm hr⟩
  ·refine ⟨⟨fun k hk => ?_, fun k T A V e => ?_⟩, ?_⟩
   rotate_left
   ·obtain ⟨d, p, hd⟩ := hob.1.2 k T A V e
    exact ⟨p, hA.mem _ _ _ hd⟩
   rotate_left
   ·obtain ⟨t, j, h', ht, hl, hj⟩ := hob.1.1 k hk
    rw [hA.get t] at hl
    cases hw : lastW os i t with
    | none => rw [hw] at hl;simp at hl
    | some k' =>
     rw [hw] at hl
     simp only [Option.bind_some, Option.map_eq_some_iff] at hl
     obtain ⟨h2, hH, e⟩ := hl
     injection e with e e2
     subst e e2
     exact ⟨t, _, ht, hw, hj.imp_right fun hj => ⟨_, hH, hj⟩⟩
   intro us a w X hk hd hS hX hd2
   have e := hA.vw l us (o.looksAt os.toArray)
   have := hob.2 us a w X (by rw [e];exact hk) (hA.dep us w _ hd) hS hX (hA.dep2 us w _ hd2)
   rw [e] at this
   exact this
  ·intro us L
   rw [resA_snoc, hA.len, Nat.zero_add]
   cases h with
   | val c => exact hR us L
   | cpy c => exact hR us L
   | fn c d => exact hR us L
   | lnd c p d =>
    simp only [pushR, resE, resA]
    rw [resA_app]
    refine Sub.trans_at (At.app _) ?_
    rw [← resA_app]
    exact hR us L
   | tak q T A V =>
    simp only [pushR, resE, resA]
    rw [resA_app]
    refine Sub.trans_at (At.app _) ?_
    rw [← resA_app]
    exact hR us L
   | res V =>
    simp only [pushR, resE, resA]
    rw [resA_app]
    refine Sub.trans_at (At.app _) ?_
    rw [← resA_app]
    exact hR us L
   | dep j V =>
    simp only [pushR, resE, resA]
    rw [resA_app]
    refine Sub.trans_at (At.app _) ?_
    rw [← resA_app]
    exact hR us L
   | upd A V =>
    simp only [pushR, resE, resA]
    rw [resA_app]
    refine Sub.trans_at (At.app _) ?_
    rw [← resA_app]
    exact hR us L
  ·rcases hos (j + 1) with h1 | h1
   ·left;simpa [Nat.add_assoc, Nat.add_comm 1 j] using h1
   ·right;simp at h1;omega
theorem wp_drawnU (m : Nat) {id : Nat} (hm : P.follows .mixedOrders = true) (hc : chk os m n = true) (hk : Kn df n a l) (hS : St w0 L0 w)
  (h : ObxE df P n os l w0 L (fun acc HR TK => TK ++ L = L0 ∧ ∀ us a w, Kn df n a (finE us acc l) → St w0 (resE us HR L) w → wpListIn (FR rr) 0 P os.toArray Q (os.drop m) a w) 0 (os.take m) [] [] []) :
  (Code.region id os.toArray true).wpIn (FR rr) 0 P Q a w := by
 have hC := Chk.of hc
 have hlen : (os.take m).length = m := by rw [List.length_take];have := hC.le;omega
 refine wp_region_drawn m hm hc hk hS (Obx_of_E (os.take m) 0 [] [] [] [] ⟨rfl, fun t => rfl, fun d k h hm => by cases hm⟩ rfl (fun us L => .refl) (by simpa using hlen) (fun j => ?_) hC.le h)
 rcases Nat.lt_or_ge j m with h | h
 ·left;rw [List.getElem?_take, if_pos h];simp
 ·right;omega
theorem wp_drawnU1 {A : HP} (m : Nat) {id : Nat} (hm : P.follows .mixedOrders = true) (hc : chk os m n = true) (hk : Kn df n a l) (hS : St w0 (A :: L) w)
  (h : ObxE df P n os l w0 L (fun acc HR TK => TK ++ L = A :: L ∧ ∀ us a w, Kn df n a (finE us acc l) → St w0 (resE us HR L) w → wpListIn (FR rr) 0 P os.toArray Q (os.drop m) a w) 0 (os.take m) [] [] []) :
  (Code.region id os.toArray true).wpIn (FR rr) 0 P Q a w := wp_drawnU m hm hc hk hS h
theorem wp_drawnU2 {A B : HP} (m : Nat) {id : Nat} (hm : P.follows .mixedOrders = true) (hc : chk os m n = true) (hk : Kn df n a l) (hS : St w0 (A :: B :: L) w)
  (h : ObxE df P n os l w0 L (fun acc HR TK => TK ++ L = A :: B :: L ∧ ∀ us a w, Kn df n a (finE us acc l) → St w0 (resE us HR L) w → wpListIn (FR rr) 0 P os.toArray Q (os.drop m) a w) 0 (os.take m) [] [] []) :
  (Code.region id os.toArray true).wpIn (FR rr) 0 P Q a w := wp_drawnU m hm hc hk hS h
theorem wp_drawn (m : Nat) {id : Nat} (hm : P.follows .mixedOrders = true) (hc : chk os m n = true) (hk : Kn df n a l) (hS : St w0 L w)
  (h : ObxE df P n os l w0 L (fun acc HR TK => TK ++ L = L ∧ ∀ us a w, Kn df n a (finE us acc l) → St w0 (resE us HR L) w → wpListIn (FR rr) 0 P os.toArray Q (os.drop m) a w) 0 (os.take m) [] [] []) :
  (Code.region id os.toArray true).wpIn (FR rr) 0 P Q a w := wp_drawnU m hm hc hk hS h
inductive VW (acc : List (Nat × Nat × HV)) (l : List (Nat × Value)) (us : Nat → Value) : List Nat → List (Nat × Value) → Prop
 | nil : VW acc l us [] []
 | val {t k : Nat} {c : Value} {ts : List Nat} {r : List (Nat × Value)} (h : lkE acc t = some (k, .val c)) (hr : VW acc l us ts r) : VW acc l us (t :: ts) ((t, c) :: r)
 | res {t k : Nat} {V : Value → HP} {ts : List Nat} {r : List (Nat × Value)} (h : lkE acc t = some (k, .res V)) (hr : VW acc l us ts r) : VW acc l us (t :: ts) ((t, us k) :: r)
 | dep {t k k1 : Nat} {V : Value → Value → HP} {ts : List Nat} {r : List (Nat × Value)} (h : lkE acc t = some (k, .dep k1 V)) (hr : VW acc l us ts r) : VW acc l us (t :: ts) ((t, us k) :: r)
 | cpy {t k k1 : Nat} {ts : List Nat} {r : List (Nat × Value)} (h : lkE acc t = some (k, .cpy k1)) (hr : VW acc l us ts r) : VW acc l us (t :: ts) ((t, us k1) :: r)
 | fn {t k : Nat} {js : List Nat} {f : List Value → Value} {ts : List Nat} {r : List (Nat × Value)} (h : lkE acc t = some (k, .fn js f)) (hr : VW acc l us ts r) : VW acc l us (t :: ts) ((t, f (js.map us)) :: r)
 | lnd {t k c : Nat} {p : Value → Prop} {A : Value → HP} {ts : List Nat} {r : List (Nat × Value)} (h : lkE acc t = some (k, .lnd c p A)) (hr : VW acc l us ts r) : VW acc l us (t :: ts) ((t, us k) :: r)
 | tak {t k q : Nat} {T : List HP} {A V : Value → HP} {ts : List Nat} {r : List (Nat × Value)} (h : lkE acc t = some (k, .tak q T A V)) (hr : VW acc l us ts r) : VW acc l us (t :: ts) ((t, us k) :: r)
 | upd {t k : Nat} {A : HP} {V : Value → HP} {ts : List Nat} {r : List (Nat × Value)} (h : lkE acc t = some (k, .upd A V)) (hr : VW acc l us ts r) : VW acc l us (t :: ts) ((t, us k) :: r)
 | base {t : Nat} {c : Value} {ts : List Nat} {r : List (Nat × Value)} (h : lkE acc t = none) (hl : lk l t = some c) (hr : VW acc l us ts r) : VW acc l us (t :: ts) ((t, c) :: r)
theorem VW.eq {us : Nat → Value} {ts : List Nat} {r : List (Nat × Value)} (h : VW acc l us ts r) : vwE acc l us ts = r := by
 induction h with
 | nil => rfl
 | val h _ ih => simp only [vwE, curE, h, HV.of, ih]
 | res h _ ih => simp only [vwE, curE, h, HV.of, ih]
 | upd h _ ih => simp only [vwE, curE, h, HV.of, ih]
 | cpy h _ ih => simp only [vwE, curE, h, HV.of, ih]
 | fn h _ ih => simp only [vwE, curE, h, HV.of, ih]
 | dep h _ ih => simp only [vwE, curE, h, HV.of, ih]
 | lnd h _ ih => simp only [vwE, curE, h, HV.of, ih]
 | tak h _ ih => simp only [vwE, curE, h, HV.of, ih]
 | base h hl _ ih => simp only [vwE, curE, h, hl, ih]
theorem Kn.vw {us : Nat → Value} {ts : List Nat} {r : List (Nat × Value)} (hk : Kn df n a (vwE acc l us ts)) (h : VW acc l us ts r) : Kn df n a r := by rw [← h.eq]; exact hk
theorem St.sub0 {w0 : Bs} {w : World} {L X : List HP} (h : St w0 ([] ++ X) w) (hX : Sub L X) : St w0 L w := St.sub (by simpa using h) hX
theorem obe_val {c : Value} (h : ∀ (us : Nat → Value) (a : Act) (w : World), Kn df n a (vwE acc l us (o.looksAt os.toArray)) → depE acc us w (o.looksAt os.toArray) → St w0 L w → Gives P o a w (fun v w' => v = c ∧ St w [] w'))
  (hr : ObxE df P n os l w0 L FinE (i + 1) r (pushE o.dst i (.val c) acc) HR TK)
  (hg : ∀ us, gdK os.toArray (vwE acc l us (o.looksAt os.toArray)) o.guard = some true := by intro us;rfl) : ObxE df P n os l w0 L FinE i (o :: r) acc HR TK :=
 ⟨.val c, ⟨⟨fun k e => (by simp [HV.srcs] at e), fun k T A V e => (by cases e)⟩, fun us a w X hk hd hS hX _ => .inr ⟨hg us, h us a w hk hd (hS.sub0 hX)⟩⟩, by simpa [HV.pre, pushR] using hr⟩
theorem obe_res {V : Value → HP} (h : ∀ (us : Nat → Value) (a : Act) (w : World), Kn df n a (vwE acc l us (o.looksAt os.toArray)) → depE acc us w (o.looksAt os.toArray) → St w0 L w → Gives P o a w (fun v w' => St w [V v] w'))
  (hr : ObxE df P n os l w0 L FinE (i + 1) r (pushE o.dst i (.res V) acc) ((i, fun _ => V) :: HR) TK)
  (hg : ∀ us, gdK os.toArray (vwE acc l us (o.looksAt os.toArray)) o.guard = some true := by intro us;rfl) : ObxE df P n os l w0 L FinE i (o :: r) acc HR TK :=
 ⟨.res V, ⟨⟨fun k e => (by simp [HV.srcs] at e), fun k T A V e => (by cases e)⟩, fun us a w X hk hd hS hX _ => .inr ⟨hg us, h us a w hk hd (hS.sub0 hX)⟩⟩, by simpa [HV.pre, pushR] using hr⟩
theorem obe_val2 {c : Value} (h : ∀ (us : Nat → Value) (a : Act) (w : World), Kn df n a (vwE acc l us (o.looksAt os.toArray)) → depE acc us w (o.looksAt os.toArray) → depE2 acc us w (o.looksAt os.toArray) → St w0 L w → Gives P o a w (fun v w' => v = c ∧ St w [] w'))
  (hr : ObxE df P n os l w0 L FinE (i + 1) r (pushE o.dst i (.val c) acc) HR TK)
  (hg : ∀ us, gdK os.toArray (vwE acc l us (o.looksAt os.toArray)) o.guard = some true := by intro us;rfl) : ObxE df P n os l w0 L FinE i (o :: r) acc HR TK :=
 ⟨.val c, ⟨⟨fun k e => (by simp [HV.srcs] at e), fun k T A V e => (by cases e)⟩, fun us a w X hk hd hS hX hd2 => .inr ⟨hg us, h us a w hk hd hd2 (hS.sub0 hX)⟩⟩, by simpa [HV.pre, pushR] using hr⟩
theorem obe_dep (t k : Nat) {h' : HV} {V : Value → Value → HP} (h : ∀ (us : Nat → Value) (a : Act) (w : World), Kn df n a (vwE acc l us (o.looksAt os.toArray)) → depE acc us w (o.looksAt os.toArray) → St w0 L w → Gives P o a w (fun v w' => St w [V (us k) v] w'))
  (hr : ObxE df P n os l w0 L FinE (i + 1) r (pushE o.dst i (.dep k V) acc) ((i, fun us => V (us k)) :: HR) TK) (ht : (o.looksAt os.toArray).contains t = true := by rfl) (hl : lkE acc t = some (k, h') := by rfl)
  (hg : ∀ us, gdK os.toArray (vwE acc l us (o.looksAt os.toArray)) o.guard = some true := by intro us;rfl) : ObxE df P n os l w0 L FinE i (o :: r) acc HR TK :=
 ⟨.dep k V, ⟨⟨fun k' e => by simp only [HV.srcs, List.mem_singleton] at e;subst e;exact ⟨t, _, h', by simpa using ht, hl, .inl rfl⟩, fun k T A V e => (by cases e)⟩, fun us a w X hk hd hS hX _ => .inr ⟨hg us, h us a w hk hd (hS.sub0 hX)⟩⟩, by simpa [HV.pre, pushR] using hr⟩
theorem obe_upd (A : HP) {V : Value → HP} (h : ∀ (us : Nat → Value) (a : Act) (w : World) (X : List HP), Kn df n a (vwE acc l us (o.looksAt os.toArray)) → depE acc us w (o.looksAt os.toArray) → St w0 (A :: X) w → St w0 L w → Gives P o a w (fun v w' => St w0 (V v :: X) w'))
  (hr : ObxE df P n os l w0 L FinE (i + 1) r (pushE o.dst i (.upd A V) acc) ((i, fun _ => V) :: HR) (TK ++ [A]))
  (hg : ∀ us, gdK os.toArray (vwE acc l us (o.looksAt os.toArray)) o.guard = some true := by intro us;rfl) : ObxE df P n os l w0 L FinE i (o :: r) acc HR TK :=
 ⟨.upd A V, ⟨⟨fun k e => (by simp [HV.srcs] at e), fun k T A V e => (by cases e)⟩, fun us a w X hk hd hS hX _ => .inr ⟨hg us, h us a w X hk hd hS (St.sub hS hX.under)⟩⟩, hr⟩
theorem lkE_mem : ∀ {acc : List (Nat × Nat × HV)} {t k : Nat} {h : HV}, lkE acc t = some (k, h) → (t, k, h) ∈ acc
 | (d, k', h') :: acc, t, k, h, e => by
  unfold lkE at e
  cases hb : Nat.beq d t with
  | true =>
   rw [hb] at e
   simp only [cond_true, Option.some.injEq, Prod.mk.injEq] at e
   obtain ⟨rfl, rfl⟩ := e
   rw [Nat.eq_of_beq_eq_true hb]
   simp
  | false =>
   rw [hb] at e
   simp only [cond_false] at e
   exact List.mem_cons_of_mem _ (lkE_mem e)
theorem obe_lnd (j : Nat) {p : Value → Prop} {V : Value → HP} (h : ∀ (us : Nat → Value) (a : Act) (w : World), Kn df n a (vwE acc l us (o.looksAt os.toArray)) → depE acc us w (o.looksAt os.toArray) → St w0 L w → Gives P o a w (fun v w' => St w [V v, pureH (p v)] w'))
  (hr : ObxE df P n os l w0 L FinE (i + 1) r (pushE o.dst i (.lnd j p V) acc) ((i, fun _ v => pureH (p v)) :: HR) TK)
  (hg : ∀ us, gdK os.toArray (vwE acc l us (o.looksAt os.toArray)) o.guard = some true := by intro us;rfl) : ObxE df P n os l w0 L FinE i (o :: r) acc HR TK :=
 ⟨.lnd j p V, ⟨⟨fun k e => (by simp [HV.srcs] at e), fun k T A V e => (by cases e)⟩, fun us a w X hk hd hS hX _ => .inr ⟨hg us, h us a w hk hd (hS.sub0 hX)⟩⟩, by simpa [HV.pre, pushR] using hr⟩
theorem obe_takT (t k : Nat) (T : List HP) {p : Value → Prop} {A V : Value → HP} (h : ∀ (us : Nat → Value) (a : Act) (w : World) (X : List HP), Kn df n a (vwE acc l us (o.looksAt os.toArray)) → depE acc us w (o.looksAt os.toArray) → St w0 (A (us k) :: (T ++ X)) w → St w0 L w → Gives P o a w (fun v w' => St w0 (V v :: X) w'))
  (hr : ObxE df P n os l w0 L FinE (i + 1) r (pushE o.dst i (.tak k T A V) acc) ((i, fun _ => V) :: HR) (TK ++ T)) (ht : (o.looksAt os.toArray).contains t = true := by rfl) (hl : lkE acc t = some (k, .lnd i p A) := by rfl)
  (hg : ∀ us, gdK os.toArray (vwE acc l us (o.looksAt os.toArray)) o.guard = some true := by intro us;rfl) : ObxE df P n os l w0 L FinE i (o :: r) acc HR TK :=
 ⟨.tak k T A V, ⟨⟨fun k' e => by simp only [HV.srcs, List.mem_singleton] at e;subst e;exact ⟨t, _, _, by simpa using ht, hl, .inl rfl⟩, fun k' T' A' V' e => by cases e;exact ⟨t, p, lkE_mem hl⟩⟩, fun us a w X hk hd hS hX _ => .inr ⟨hg us, h us a w X hk hd hS (St.sub hS (hX.pre T).under)⟩⟩, by simpa [HV.pre, pushR] using hr⟩
theorem obe_tak (t k : Nat) {p : Value → Prop} {A V : Value → HP} (h : ∀ (us : Nat → Value) (a : Act) (w : World) (X : List HP), Kn df n a (vwE acc l us (o.looksAt os.toArray)) → depE acc us w (o.looksAt os.toArray) → St w0 (A (us k) :: X) w → St w0 L w → Gives P o a w (fun v w' => St w0 (V v :: X) w'))
  (hr : ObxE df P n os l w0 L FinE (i + 1) r (pushE o.dst i (.tak k [] A V) acc) ((i, fun _ => V) :: HR) TK) (ht : (o.looksAt os.toArray).contains t = true := by rfl) (hl : lkE acc t = some (k, .lnd i p A) := by rfl)
  (hg : ∀ us, gdK os.toArray (vwE acc l us (o.looksAt os.toArray)) o.guard = some true := by intro us;rfl) : ObxE df P n os l w0 L FinE i (o :: r) acc HR TK :=
 obe_takT t k [] h (by rw [List.append_nil];exact hr) ht hl hg
theorem obe_cpy (t k : Nat) {h' : HV} (h : ∀ (us : Nat → Value) (a : Act) (w : World), Kn df n a (vwE acc l us (o.looksAt os.toArray)) → depE acc us w (o.looksAt os.toArray) → St w0 L w → Gives P o a w (fun v w' => v = us k ∧ St w [] w'))
  (hr : ObxE df P n os l w0 L FinE (i + 1) r (pushE o.dst i (.cpy k) acc) HR TK) (ht : (o.looksAt os.toArray).contains t = true := by rfl) (hl : lkE acc t = some (k, h') := by rfl)
  (hg : ∀ us, gdK os.toArray (vwE acc l us (o.looksAt os.toArray)) o.guard = some true := by intro us;rfl) : ObxE df P n os l w0 L FinE i (o :: r) acc HR TK :=
 ⟨.cpy k, ⟨⟨fun k' e => by simp only [HV.srcs, List.mem_singleton] at e;subst e;exact ⟨t, _, h', by simpa using ht, hl, .inl rfl⟩, fun k T A V e => (by cases e)⟩, fun us a w X hk hd hS hX _ => .inr ⟨hg us, h us a w hk hd (hS.sub0 hX)⟩⟩, by simpa [HV.pre, pushR] using hr⟩
theorem obe_fn (js : List Nat) (f : List Value → Value) (h : ∀ (us : Nat → Value) (a : Act) (w : World), Kn df n a (vwE acc l us (o.looksAt os.toArray)) → depE acc us w (o.looksAt os.toArray) → St w0 L w → Gives P o a w (fun v w' => v = f (js.map us) ∧ St w [] w'))
  (hr : ObxE df P n os l w0 L FinE (i + 1) r (pushE o.dst i (.fn js f) acc) HR TK) (ht : ∀ k ∈ js, ∃ t h', (o.looksAt os.toArray).contains t = true ∧ lkE acc t = some (k, h'))
  (hg : ∀ us, gdK os.toArray (vwE acc l us (o.looksAt os.toArray)) o.guard = some true := by intro us;rfl) : ObxE df P n os l w0 L FinE i (o :: r) acc HR TK :=
 ⟨.fn js f, ⟨⟨fun k' e => by obtain ⟨t, h', h1, h2⟩ := ht k' e;exact ⟨t, _, h', by simpa using h1, h2, .inl rfl⟩, fun k T A V e => (by cases e)⟩, fun us a w X hk hd hS hX _ => .inr ⟨hg us, h us a w hk hd (hS.sub0 hX)⟩⟩, by simpa [HV.pre, pushR] using hr⟩
theorem obe_skip (hr : ObxE df P n os l w0 L FinE (i + 1) r (pushE o.dst i (.val undef) acc) HR TK)
  (hg : ∀ us, gdK os.toArray (vwE acc l us (o.looksAt os.toArray)) o.guard = some false := by intro us;rfl) : ObxE df P n os l w0 L FinE i (o :: r) acc HR TK :=
 ⟨.val undef, ⟨⟨fun k e => (by simp [HV.srcs] at e), fun k T A V e => (by cases e)⟩, fun us _ _ _ _ _ _ _ _ => .inl ⟨hg us, rfl⟩⟩, by simpa [HV.pre, pushR] using hr⟩
theorem gives_eq {P : Program} {o : Oper} {a : Act} {w : World} {c c' : Value} (e : c = c') (h : Gives P o a w (fun v w' => v = c ∧ St w [] w')) : Gives P o a w (fun v w' => v = c' ∧ St w [] w') := e ▸ h
theorem obe_nil (h : FinE acc HR TK) : ObxE df P n os l w0 L FinE i [] acc HR TK := h
theorem St.call0 {w0 : Bs} {w w' : World} {L : List HP} (h : St w0 L w) (h1 : St w [] w') : St w0 L w' := h.call h1
theorem St.nil {w0 : Bs} {w : World} {L : List HP} (h : St w0 L w) : St w0 [] w := h.sub .nil
variable {dst : Option Nat} {R : Value → World → Prop} {ty : TypeId} {pos : String} {af : Array Edge} {g : Option (Nat × Bool)}
theorem g_eqiT {x y : Operand} {t t' : TypeId} {k : IntKind} {p : Int} (hk : Kn df n a l) (h : R (.bool true) w)
  (hx : ev l x = some (.int k p) := by rfl) (hy : ev l y = some (.int k p) := by rfl) : Gives P ⟨dst, .binOp .eql t x y t', ty, pos, af, g⟩ a w R :=
 g_eqi (p := p) (q := p) hk (by simpa using h) hx hy
theorem g_leqT {x y : Operand} {t t' : TypeId} {k : IntKind} {p q : Int} (hk : Kn df n a l) (h : R (.bool true) w)
  (hx : ev l x = some (.int k p) := by rfl) (hy : ev l y = some (.int k q) := by rfl) (hpq : p ≤ q) : Gives P ⟨dst, .binOp .leq t x y t', ty, pos, af, g⟩ a w R :=
 g_leq hk (by rw [decide_eq_true hpq];exact h) hx hy
theorem g_leqF {x y : Operand} {t t' : TypeId} {k : IntKind} {p q : Int} (hk : Kn df n a l) (h : R (.bool false) w)
  (hx : ev l x = some (.int k p) := by rfl) (hy : ev l y = some (.int k q) := by rfl) (hpq : ¬ p ≤ q) : Gives P ⟨dst, .binOp .leq t x y t', ty, pos, af, g⟩ a w R :=
 g_leq hk (by rw [decide_eq_false hpq];exact h) hx hy
theorem g_lssT {x y : Operand} {t t' : TypeId} {k : IntKind} {p q : Int} (hk : Kn df n a l) (h : R (.bool true) w)
  (hx : ev l x = some (.int k p) := by rfl) (hy : ev l y = some (.int k q) := by rfl) (hpq : p < q) : Gives P ⟨dst, .binOp .lss t x y t', ty, pos, af, g⟩ a w R :=
 g_lss hk (by rw [decide_eq_true hpq];exact h) hx hy
theorem g_lssF {x y : Operand} {t t' : TypeId} {k : IntKind} {p q : Int} (hk : Kn df n a l) (h : R (.bool false) w)
  (hx : ev l x = some (.int k p) := by rfl) (hy : ev l y = some (.int k q) := by rfl) (hpq : ¬ p < q) : Gives P ⟨dst, .binOp .lss t x y t', ty, pos, af, g⟩ a w R :=
 g_lss hk (by rw [decide_eq_false hpq];exact h) hx hy
theorem g_geqT {x y : Operand} {t t' : TypeId} {k : IntKind} {p q : Int} (hk : Kn df n a l) (h : R (.bool true) w)
  (hx : ev l x = some (.int k p) := by rfl) (hy : ev l y = some (.int k q) := by rfl) (hpq : q ≤ p) : Gives P ⟨dst, .binOp .geq t x y t', ty, pos, af, g⟩ a w R :=
 g_geq hk (by rw [decide_eq_true hpq];exact h) hx hy
theorem g_geqF {x y : Operand} {t t' : TypeId} {k : IntKind} {p q : Int} (hk : Kn df n a l) (h : R (.bool false) w)
  (hx : ev l x = some (.int k p) := by rfl) (hy : ev l y = some (.int k q) := by rfl) (hpq : ¬ q ≤ p) : Gives P ⟨dst, .binOp .geq t x y t', ty, pos, af, g⟩ a w R :=
 g_geq hk (by rw [decide_eq_false hpq];exact h) hx hy
theorem g_gtrT {x y : Operand} {t t' : TypeId} {k : IntKind} {p q : Int} (hk : Kn df n a l) (h : R (.bool true) w)
  (hx : ev l x = some (.int k p) := by rfl) (hy : ev l y = some (.int k q) := by rfl) (hpq : q < p) : Gives P ⟨dst, .binOp .gtr t x y t', ty, pos, af, g⟩ a w R :=
 g_gtr hk (by rw [decide_eq_true hpq];exact h) hx hy
theorem g_gtrF {x y : Operand} {t t' : TypeId} {k : IntKind} {p q : Int} (hk : Kn df n a l) (h : R (.bool false) w)
  (hx : ev l x = some (.int k p) := by rfl) (hy : ev l y = some (.int k q) := by rfl) (hpq : ¬ q < p) : Gives P ⟨dst, .binOp .gtr t x y t', ty, pos, af, g⟩ a w R :=
 g_gtr hk (by rw [decide_eq_false hpq];exact h) hx hy
theorem g_eqiE {x y : Operand} {t t' : TypeId} {k : IntKind} {p q : Int} (hk : Kn df n a l) (h : R (.bool true) w)
  (hx : ev l x = some (.int k p) := by rfl) (hy : ev l y = some (.int k q) := by rfl) (hpq : p = q) : Gives P ⟨dst, .binOp .eql t x y t', ty, pos, af, g⟩ a w R :=
 g_eqi hk (by rw [decide_eq_true hpq];exact h) hx hy
theorem g_eqiF {x y : Operand} {t t' : TypeId} {k : IntKind} {p q : Int} (hk : Kn df n a l) (h : R (.bool false) w)
  (hx : ev l x = some (.int k p) := by rfl) (hy : ev l y = some (.int k q) := by rfl) (hpq : ¬ p = q) : Gives P ⟨dst, .binOp .eql t x y t', ty, pos, af, g⟩ a w R :=
 g_eqi hk (by rw [decide_eq_false hpq];exact h) hx hy
theorem g_neiT {x y : Operand} {t t' : TypeId} {k : IntKind} {p q : Int} (hk : Kn df n a l) (h : R (.bool true) w)
  (hx : ev l x = some (.int k p) := by rfl) (hy : ev l y = some (.int k q) := by rfl) (hpq : ¬ p = q) : Gives P ⟨dst, .binOp .neq t x y t', ty, pos, af, g⟩ a w R :=
 g_nei hk (by rw [decide_eq_false hpq];exact h) hx hy
theorem g_neiF {x y : Operand} {t t' : TypeId} {k : IntKind} {p q : Int} (hk : Kn df n a l) (h : R (.bool false) w)
  (hx : ev l x = some (.int k p) := by rfl) (hy : ev l y = some (.int k q) := by rfl) (hpq : p = q) : Gives P ⟨dst, .binOp .neq t x y t', ty, pos, af, g⟩ a w R :=
 g_nei hk (by rw [decide_eq_true hpq];exact h) hx hy
theorem same (v : Value) (w : World) : v = v ∧ St w [] w := ⟨rfl, St.refl w⟩
end
end Go.Proofs.YtnjmonkehjlaoaaGreatDoor
namespace Go.Proofs.YtnjmonkehjlaoaaGreatDoor
variable {df : List Deferred}
open Go.RowKit
inductive SK where
 | int (k : IntKind)
 | bool
 | str
def stepF (P : Program) (fl : TypeId → Option (List SK)) (acc : Option (Nat × List SK)) (f : Field) : Option (Nat × List SK) :=
 match acc with
 | none => none
 | some (off, ks) => match fl f.type with
  | none => none
  | some k1 => bif (!(f.name == "_") && Nat.beq f.offset off && (match szOf P f.type with | some s => Nat.beq s k1.length | none => false) && (aggOf P f.type).isSome && ((aggOf P f.type).getD true || Nat.beq k1.length 1)) then some (off + k1.length, ks ++ k1) else none
def flatT (P : Program) : Nat → TypeId → Option (List SK)
 | 0, _ => none
 | d + 1, T => match P.underlying T with
  | some .bool => some [.bool]
  | some (.int k) => some [.int k]
  | some .string => some [.str]
  | some (.struct fs) => bif P.stoodInHeld T then none else (fs.toList.foldl (stepF P (flatT P d)) (some (0, []))).map (·.2)
  | _ => none
def shp : List SK → List Value → Bool
 | [], [] => true
 | .int k :: ks, .int k' _ :: vs => decide (k = k') && shp ks vs
 | .bool :: ks, .bool _ :: vs => shp ks vs
 | .str :: ks, .string _ :: vs => shp ks vs
 | _, _ => false
def eqC : List Value → List Value → Bool
 | .int _ a :: r, .int _ b :: s => (a == b) && eqC r s
 | .bool a :: r, .bool b :: s => (a == b) && eqC r s
 | .string a :: r, .string b :: s => (a == b) && eqC r s
 | _, _ => true
theorem shp_len : ∀ {ks : List SK} {vs : List Value}, shp ks vs = true → vs.length = ks.length
 | [], [], _ => rfl
 | [], _ :: _, h => by simp [shp] at h
 | .int k :: ks, [], h => by simp [shp] at h
 | .bool :: ks, [], h => by simp [shp] at h
 | .str :: ks, [], h => by simp [shp] at h
 | .int k :: ks, v :: vs, h => by cases v <;> simp [shp] at h;simp [shp_len h.2]
 | .bool :: ks, v :: vs, h => by cases v <;> simp [shp] at h;simp [shp_len h]
 | .str :: ks, v :: vs, h => by cases v <;> simp [shp] at h;simp [shp_len h]
theorem shp_app : ∀ {k1 k2 : List SK} {vs : List Value}, shp (k1 ++ k2) vs = true → shp k1 (vs.take k1.length) = true ∧ shp k2 (vs.drop k1.length) = true
 | [], k2, vs, h => ⟨by simp [shp], by simpa using h⟩
 | .int k :: k1, k2, [], h => by simp [shp] at h
 | .bool :: k1, k2, [], h => by simp [shp] at h
 | .str :: k1, k2, [], h => by simp [shp] at h
 | .int k :: k1, k2, v :: vs, h => by
  cases v <;> simp [shp] at h
  obtain ⟨h1, h2⟩ := shp_app h.2
  exact ⟨by simp [shp, h.1, h1], by simpa using h2⟩
 | .bool :: k1, k2, v :: vs, h => by
  cases v <;> simp [shp] at h
  obtain ⟨h1, h2⟩ := shp_app h
  exact ⟨by simp [shp, h1], by simpa using h2⟩
 | .str :: k1, k2, v :: vs, h => by
  cases v <;> simp [shp] at h
  obtain ⟨h1, h2⟩ := shp_app h
  exact ⟨by simp [shp, h1], by simpa using h2⟩
theorem eqC_app : ∀ {k1 : List SK} {as bs as' bs' : List Value}, shp k1 as = true → shp k1 bs = true → eqC (as ++ as') (bs ++ bs') = (eqC as bs && eqC as' bs')
 | [], [], [], _, _, _, _ => by simp [eqC]
 | [], _ :: _, _, _, _, h, _ => by simp [shp] at h
 | [], [], _ :: _, _, _, _, h => by simp [shp] at h
 | .int k :: ks, [], _, _, _, h, _ => by simp [shp] at h
 | .bool :: ks, [], _, _, _, h, _ => by simp [shp] at h
 | .str :: ks, [], _, _, _, h, _ => by simp [shp] at h
 | .int k :: ks, _ :: _, [], _, _, _, h => by simp [shp] at h
 | .bool :: ks, _ :: _, [], _, _, _, h => by simp [shp] at h
 | .str :: ks, _ :: _, [], _, _, _, h => by simp [shp] at h
 | .int k :: ks, a :: as, b :: bs, as', bs', h1, h2 => by
  cases a <;> simp [shp] at h1
  cases b <;> simp [shp] at h2
  simp [eqC, eqC_app h1.2 h2.2, Bool.and_assoc]
 | .bool :: ks, a :: as, b :: bs, as', bs', h1, h2 => by
  cases a <;> simp [shp] at h1
  cases b <;> simp [shp] at h2
  simp [eqC, eqC_app h1 h2, Bool.and_assoc]
 | .str :: ks, a :: as, b :: bs, as', bs', h1, h2 => by
  cases a <;> simp [shp] at h1
  cases b <;> simp [shp] at h2
  simp [eqC, eqC_app h1 h2, Bool.and_assoc]
theorem eqC_self : ∀ us : List Value, eqC us us = true
 | [] => rfl
 | u :: us => by cases u <;> simp [eqC, eqC_self us, beq_toListBytes]
theorem shp_int {k : IntKind} {vs : List Value} (h : shp [.int k] vs = true) : ∃ p, vs = [.int k p] := by
 cases vs with
 | nil => simp [shp] at h
 | cons v vs =>
  cases v <;> simp [shp] at h
  have := shp_len h.2
  simp at this
  exact ⟨_, by rw [h.1, this]⟩
theorem shp_bool {vs : List Value} (h : shp [.bool] vs = true) : ∃ p, vs = [.bool p] := by
 cases vs with
 | nil => simp [shp] at h
 | cons v vs =>
  cases v <;> simp [shp] at h
  have := shp_len h
  simp at this
  exact ⟨_, by rw [this]⟩
theorem shp_str {vs : List Value} (h : shp [.str] vs = true) : ∃ p, vs = [.string p] := by
 cases vs with
 | nil => simp [shp] at h
 | cons v vs =>
  cases v <;> simp [shp] at h
  have := shp_len h
  simp at this
  exact ⟨_, by rw [this]⟩
theorem stepF_none (P : Program) (fl : TypeId → Option (List SK)) : ∀ fs : List Field, fs.foldl (stepF P fl) none = none
 | [] => rfl
 | _ :: fs => by simpa [List.foldl_cons, stepF] using stepF_none P fl fs
section
variable {P : Program}
def partV (P : Program) (T : TypeId) (us : List Value) : Option Value :=
 match aggOf P T with
 | some true => some (.agg us.toArray)
 | some false => us[0]?
 | none => none
theorem run_part {T : TypeId} {xs : List Value} {off k : Nat} {v : Value} {w : World} (hs : szOf P T = some k) (hv : partV P T ((xs.drop off).take k) = some v) (h1 : aggOf P T = some false → k = 1) : (part T xs.toArray off).run P w = .ok v w := by
 unfold partV at hv
 cases ha : aggOf P T with
 | none => rw [ha] at hv;simp at hv
 | some b =>
  rw [ha] at hv
  cases b with
  | true =>
   simp only [Option.some.injEq] at hv
   subst hv
   simp [part, aggOf_run ha, szOf_run hs]
  | false =>
   have hk := h1 ha
   subst hk
   have hx : xs[off]? = some v := by
    have : ((xs.drop off).take 1)[0]? = some v := hv
    rw [List.getElem?_take, if_pos (by omega)] at this
    simpa using this
   simp [part, aggOf_run ha, hx]
theorem foldl_pre (fl : TypeId → Option (List SK)) : ∀ (fs : List Field) (off : Nat) (ks : List SK) (off' : Nat) (ks' : List SK), fs.foldl (stepF P fl) (some (off, ks)) = some (off', ks') → ∃ t, ks' = ks ++ t
 | [], off, ks, off', ks', h => by simp at h;exact ⟨[], by simp [h.2]⟩
 | f :: fs, off, ks, off', ks', h => by
  simp only [List.foldl_cons] at h
  cases hs : stepF P fl (some (off, ks)) f with
  | none => rw [hs, stepF_none] at h;cases h
  | some p =>
   obtain ⟨o2, k2⟩ := p
   rw [hs] at h
   obtain ⟨t, ht⟩ := foldl_pre fl fs o2 k2 off' ks' h
   unfold stepF at hs
   cases hf : fl f.type with
   | none => rw [hf] at hs;simp at hs
   | some k1 =>
    rw [hf] at hs
    simp only at hs
    generalize (!(f.name == "_") && Nat.beq f.offset off && (match szOf P f.type with | some s => Nat.beq s k1.length | none => false) && (aggOf P f.type).isSome && ((aggOf P f.type).getD true || Nat.beq k1.length 1)) = c at hs
    cases c with
    | false => simp at hs
    | true =>
     simp at hs
     exact ⟨k1 ++ t, by rw [ht, ← hs.2];simp⟩
theorem eqFields_flat {d : Nat} (ih : ∀ (T : TypeId) (ks : List SK) (as bs : List Value) (x y : Value) (w : World), flatT P d T = some ks → shp ks as = true → shp ks bs = true → partV P T as = some x → partV P T bs = some y → ∀ e, (Op.equalIn (d + e) T x y).run P w = .ok (eqC as bs) w) (e : Nat) (w : World) (xs ys : List Value) :
  ∀ (fs : List Field) (off : Nat) (ks : List SK) (off' : Nat) (ks' : List SK), fs.foldl (stepF P (flatT P d)) (some (off, ks)) = some (off', ks') → off = ks.length → shp ks' xs = true → shp ks' ys = true →
   (Op.eqFields (d + e) xs.toArray ys.toArray fs).run P w = .ok (eqC (xs.drop off) (ys.drop off)) w
 | [], off, ks, off', ks', h, ho, hx, hy => by
  simp at h
  obtain ⟨h1, h2⟩ := h
  subst h2
  have l1 := shp_len hx
  have l2 := shp_len hy
  rw [List.drop_eq_nil_of_le (by omega), List.drop_eq_nil_of_le (by omega)]
  simp [Op.eqFields, eqC]
 | f :: fs, off, ks, off', ks', h, ho, hx, hy => by
  simp only [List.foldl_cons] at h
  cases hs : stepF P (flatT P d) (some (off, ks)) f with
  | none => rw [hs, stepF_none] at h;cases h
  | some p =>
   obtain ⟨o2, k2⟩ := p
   rw [hs] at h
   obtain ⟨t, ht⟩ := foldl_pre _ fs o2 k2 off' ks' h
   have hs0 := hs
   unfold stepF at hs
   cases hf : flatT P d f.type with
   | none => rw [hf] at hs;simp at hs
   | some k1 =>
    rw [hf] at hs
    simp only at hs
    cases hc : (!(f.name == "_") && Nat.beq f.offset off && (match szOf P f.type with | some s => Nat.beq s k1.length | none => false) && (aggOf P f.type).isSome && ((aggOf P f.type).getD true || Nat.beq k1.length 1)) with
    | false => rw [hc] at hs;simp at hs
    | true =>
     rw [hc] at hs
     simp only [cond_true, Option.some.injEq, Prod.mk.injEq] at hs
     obtain ⟨e1, e2⟩ := hs
     simp only [Bool.and_eq_true] at hc
     obtain ⟨⟨⟨⟨c1, c2⟩, c3⟩, c4⟩, c5⟩ := hc
     have hname : f.name ≠ "_" := by simpa using c1
     have hoff : f.offset = off := Nat.eq_of_beq_eq_true c2
     have hsz : szOf P f.type = some k1.length := by
      cases hz : szOf P f.type with
      | none => rw [hz] at c3;cases c3
      | some s => rw [hz] at c3;rw [Nat.eq_of_beq_eq_true c3]
     subst e2
     rw [ht, List.append_assoc] at hx hy
     obtain ⟨_, x2⟩ := shp_app hx
     obtain ⟨_, y2⟩ := shp_app hy
     obtain ⟨x3, x4⟩ := shp_app x2
     obtain ⟨y3, y4⟩ := shp_app y2
     rw [← ho] at x3 y3 x4 y4
     have part1 : ∀ us : List Value, shp k1 us = true → ∃ v, partV P f.type us = some v := by
      intro us hus
      unfold partV
      cases ha : aggOf P f.type with
      | none => rw [ha] at c4;cases c4
      | some b =>
       cases b with
       | true => exact ⟨_, rfl⟩
       | false =>
        rw [ha] at c5
        simp only [Option.getD_some, Bool.false_or] at c5
        have := Nat.eq_of_beq_eq_true c5
        have l := shp_len hus
        exact ⟨us[0]'(by omega), List.getElem?_eq_getElem (by omega)⟩
     have hone : aggOf P f.type = some false → k1.length = 1 := by
      intro ha
      rw [ha] at c5
      simp only [Option.getD_some, Bool.false_or] at c5
      exact Nat.eq_of_beq_eq_true c5
     obtain ⟨vx, hvx⟩ := part1 _ x3
     obtain ⟨vy, hvy⟩ := part1 _ y3
     have px := run_part (w := w) hsz hvx hone
     have py := run_part (w := w) hsz hvy hone
     have heq := ih f.type k1 _ _ vx vy w hf x3 y3 hvx hvy e
     have rest := eqFields_flat ih e w xs ys fs o2 (ks ++ k1) off' ks' h (by simp;omega) (by rw [ht, List.append_assoc];exact hx) (by rw [ht, List.append_assoc];exact hy)
     unfold Op.eqFields
     rw [if_pos hname, hoff]
     simp only [Sem.run_bind, px, py, Result.andThen_ok, heq, Sem.run_ite, Sem.run_pure]
     have split1 : eqC (xs.drop off) (ys.drop off) = (eqC ((xs.drop off).take k1.length) ((ys.drop off).take k1.length) && eqC (xs.drop o2) (ys.drop o2)) := by
      have hx' : xs.drop off = (xs.drop off).take k1.length ++ xs.drop o2 := by rw [← e1, ← List.drop_drop, List.take_append_drop]
      have hy' : ys.drop off = (ys.drop off).take k1.length ++ ys.drop o2 := by rw [← e1, ← List.drop_drop, List.take_append_drop]
      have := eqC_app (as' := xs.drop o2) (bs' := ys.drop o2) x3 y3
      rw [← hx', ← hy'] at this
      exact this
     rw [split1, rest]
     cases eqC ((xs.drop off).take k1.length) ((ys.drop off).take k1.length) <;> simp
theorem run_equalF : ∀ (d : Nat) (T : TypeId) (ks : List SK) (as bs : List Value) (x y : Value) (w : World), flatT P d T = some ks → shp ks as = true → shp ks bs = true → partV P T as = some x → partV P T bs = some y → ∀ e, (Op.equalIn (d + e) T x y).run P w = .ok (eqC as bs) w
 | 0, T, ks, as, bs, x, y, w, h, _, _, _, _ => by simp [flatT] at h
 | d + 1, T, ks, as, bs, x, y, w, h, ha, hb, hx, hy => by
  intro e
  unfold flatT at h
  rw [show d + 1 + e = d + e + 1 by omega]
  cases hu : P.underlying T with
  | none => rw [hu] at h;simp at h
  | some dsc =>
   rw [hu] at h
   have scal : ∀ (hag : aggOf P T = some false), as[0]? = some x ∧ bs[0]? = some y := fun hag => by
    unfold partV at hx hy
    rw [hag] at hx hy
    exact ⟨hx, hy⟩
   cases dsc <;> simp at h
   case bool =>
    subst h
    obtain ⟨s1, s2⟩ := scal (by simp [aggOf, hu])
    obtain ⟨p, rfl⟩ := shp_bool ha
    obtain ⟨q, rfl⟩ := shp_bool hb
    simp at s1 s2;subst s1;subst s2
    rw [run_equalIn_bool w (d + e) T p q hu];simp [eqC]
   case int k =>
    subst h
    obtain ⟨s1, s2⟩ := scal (by simp [aggOf, hu])
    obtain ⟨p, rfl⟩ := shp_int ha
    obtain ⟨q, rfl⟩ := shp_int hb
    simp at s1 s2;subst s1;subst s2
    rw [run_equalIn_int w (d + e) T k k p q hu];simp [eqC]
   case string =>
    subst h
    obtain ⟨s1, s2⟩ := scal (by simp [aggOf, hu])
    obtain ⟨p, rfl⟩ := shp_str ha
    obtain ⟨q, rfl⟩ := shp_str hb
    simp at s1 s2;subst s1;subst s2
    rw [run_equalIn_string w (d + e) T p q hu];simp [eqC, beq_toListBytes]
   case struct fs =>
    cases hst : P.stoodInHeld T with
    | true => rw [hst] at h;simp at h
    | false =>
     rw [hst] at h
     simp only [cond_false, ← Array.foldl_toList] at h
     cases hf : fs.toList.foldl (stepF P (flatT P d)) (some (0, [])) with
     | none => rw [hf] at h;simp at h
     | some p =>
      rw [hf] at h
      simp at h
      subst h
      have hag : aggOf P T = some true := by simp [aggOf, hu]
      unfold partV at hx hy
      rw [hag] at hx hy
      simp only [Option.some.injEq] at hx hy
      subst hx;subst hy
      have hfo : P.fieldsOf T = fs := by simp [Program.fieldsOf, hu]
      rw [run_equalIn_struct w (d + e) T as.toArray bs.toArray (by rw [hfo];exact hu) hst, hfo]
      obtain ⟨o', k'⟩ := p
      have := eqFields_flat (run_equalF d) e w as bs fs.toList 0 [] o' k' hf rfl ha hb
      simpa using this
variable {a : Act} {w : World} {n : Nat} {l : List (Nat × Value)} {dst : Option Nat} {R : Value → World → Prop} {ty : TypeId} {pos : String} {af : Array Edge} {g : Option (Nat × Bool)}
theorem g_eqs {x y : Operand} {t t' : TypeId} {ks : List SK} {us vs : List Value} (hk : Kn df n a l) (h : R (.bool (eqC us vs)) w)
  (hf : flatT P 6 t = some ks) (hag : aggOf P t = some true) (hgd : P.eqGuardType P.depth t = false)
  (hx : ev l x = some (.agg us.toArray) := by rfl) (hy : ev l y = some (.agg vs.toArray) := by rfl) (h1 : shp ks us = true := by rfl) (h2 : shp ks vs = true := by rfl) :
  Gives P ⟨dst, .binOp .eql t x y t', ty, pos, af, g⟩ a w R := by
 refine givesv (v := .bool (eqC us vs)) ?_ h
 have he := run_equalF 6 t ks us vs (.agg us.toArray) (.agg vs.toArray) w hf h1 h2 (by simp [partV, hag]) (by simp [partV, hag]) 9994
 simp [execOp, hk.eval hx, hk.eval hy, run_eqGuard_agg w .eql t x y us.toArray vs.toArray hgd, run_eql_struct, he]
theorem g_nes {x y : Operand} {t t' : TypeId} {ks : List SK} {us vs : List Value} (hk : Kn df n a l) (h : R (.bool (!eqC us vs)) w)
  (hf : flatT P 6 t = some ks) (hag : aggOf P t = some true) (hgd : P.eqGuardType P.depth t = false)
  (hx : ev l x = some (.agg us.toArray) := by rfl) (hy : ev l y = some (.agg vs.toArray) := by rfl) (h1 : shp ks us = true := by rfl) (h2 : shp ks vs = true := by rfl) :
  Gives P ⟨dst, .binOp .neq t x y t', ty, pos, af, g⟩ a w R := by
 refine givesv (v := .bool (!eqC us vs)) ?_ h
 have he := run_equalF 6 t ks us vs (.agg us.toArray) (.agg vs.toArray) w hf h1 h2 (by simp [partV, hag]) (by simp [partV, hag]) 9994
 simp [execOp, hk.eval hx, hk.eval hy, run_eqGuard_agg w .neq t x y us.toArray vs.toArray hgd, run_neq_struct, he]
end
end Go.Proofs.YtnjmonkehjlaoaaGreatDoor
namespace Go.Proofs.YtnjmonkehjlaoaaGreatDoor
open Go.ChangeShapes Go.WideShapes Go.ChangeAt Go.RowKit
def Rdg (P : Program) (W : World) : Nat → TypeId → List Value → Prop
 | 0, _, _ => True
 | D + 1, T, cs => match P.underlying T with
  | some .bool => ∃ b, cs = [.bool b]
  | some (.int k) => ∃ n, cs = [.int k n] ∧ k.min ≤ n ∧ n ≤ k.max
  | some .string => ∃ s : ByteArray, cs = [.string s] ∧ s.size ≤ maxLen
  | some (.slice e) => ∃ v, cs = [v] ∧ (v = .slice none 0 0 ∨ ∃ a len cap, v = .slice (some a) len cap ∧ len ≤ cap ∧ cap ≤ maxLen ∧
    ∀ i, i < len → ∃ us : List Value, us.length = P.cellsOf e ∧ (∀ j u, us[j]? = some u → W.cell? ((a.add (i * P.cellsOf e)).add j) = some u) ∧ Rdg P W D e us)
  | some (.struct fs) => cs.length = P.cellsOf T ∧ ∀ f ∈ fs.toList, Rdg P W D f.type ((cs.drop f.offset).take (P.cellsOf f.type))
  | _ => True
theorem cells?_get {w : World} {base : Nat} {a : Addr} {n : Nat} {us : List Value} (h : w.cells? base a n = some us) : us.length = n ∧ ∀ j u, us[j]? = some u → w.cell? (a.add j) = some u := by
 unfold World.cells? at h
 split at h
 ·have h1 : us.length = n := by simpa using mapM_some_length h
  refine ⟨h1, fun j u hj => ?_⟩
  have hjn : j < n := by
   rcases Nat.lt_or_ge j us.length with h' | h'
   ·omega
   ·rw [List.getElem?_eq_none h'] at hj;cases hj
  have := mapM_some_get h j j (by simp [hjn])
  rw [this, hj]
 ·cases h
theorem rdg_of_trod {H : Type} {enc : TypeId × Value → H} {P : Program} {W : World} {base : Nat} {spare : Nat → Bool} {held : Bool} : ∀ (fuel D : Nat) (T : TypeId) (cs : List Value) (d : DataW H) (ps : List MemPlace),
  DataW.trod enc P W base spare held fuel T cs = some (d, ps) → Rdg P W D T cs
 | 0, _, _, _, _, _, h => by simp [DataW.trod] at h
 | fuel + 1, 0, _, _, _, _, _ => trivial
 | fuel + 1, D + 1, T, cs, d, ps, h => by
  unfold Rdg
  cases hu : P.underlying T with
  | none => trivial
  | some dsc =>
   cases dsc <;> first | trivial | skip
   case bool =>
    obtain ⟨b, hb, _⟩ := DataW.trod_bool hu h
    exact ⟨b, hb⟩
   case int k =>
    obtain ⟨n, hn, _, hw⟩ := DataW.trod_int hu h
    simp only [Lit.wf, Bool.and_eq_true, decide_eq_true_eq] at hw
    exact ⟨n, hn, hw⟩
   case string =>
    obtain ⟨s, hs, _, hl⟩ := DataW.trod_string hu h
    exact ⟨s, hs, hl⟩
   case slice e =>
    rcases DataW.trod_slice hu h with ⟨hc, _⟩ | ⟨a, len, cap, elems, rest, n, hfu, hc, _, _, hl, hm, hel, hget, _⟩
    ·exact ⟨_, hc, .inl rfl⟩
    ·refine ⟨_, hc, .inr ⟨a, len, cap, rfl, hl, hm, fun i hi => ?_⟩⟩
     have h1 := hget i hi
     have hx : elems[i]? = some (elems[i]'(by omega)) := List.getElem?_eq_getElem (by omega)
     rw [hx, Option.bind_eq_some_iff] at h1
     obtain ⟨us, hus, htr⟩ := h1
     obtain ⟨hlen, hcell⟩ := cells?_get hus
     have hfn : fuel = n := by omega
     subst hfn
     exact ⟨us, hlen, hcell, rdg_of_trod fuel D e us _ _ htr⟩
   case struct fs =>
    obtain ⟨xs, n, hfu, _, hl, hlen, hget⟩ := DataW.trod_struct hu h
    refine ⟨hl, fun f hf => ?_⟩
    obtain ⟨i, hi⟩ := List.getElem?_of_mem hf
    have hi' : fs[i]? = some f := by simpa using hi
    have hlt : i < fs.size := by
     rcases Nat.lt_or_ge i fs.size with h' | h'
     ·exact h'
     ·rw [Array.getElem?_eq_none h'] at hi';cases hi'
    have h1 := hget i f hi'
    have hx : xs[i]? = some (xs[i]'(by omega)) := List.getElem?_eq_getElem (by omega)
    rw [hx] at h1
    have hfn : fuel = n := by omega
    subst hfn
    exact rdg_of_trod fuel D f.type _ _ _ h1
def Arg (P : Program) (W : World) (T : TypeId) (v : Value) : Prop := Rdg P W 8 T v.cells.toList ∧ (aggOf P T = some true → ∃ cs : List Value, v = .agg cs.toArray) ∧ (aggOf P T = some false → v.cells = #[v])
theorem arg_of {H : Type} {enc : TypeId × Value → H} {P : Program} {W : World} {base : Nat} {T : TypeId} {v : Value} {d : DataW H} {ps : List MemPlace} (hv : Value.okWide P W .any base T v) (h : DataW.Trod enc P W 0 (fun _ => true) true T v d ps) : Arg P W T v := by
 obtain ⟨fuel, hf⟩ := h
 refine ⟨rdg_of_trod fuel 8 T _ _ _ hf, fun ha => ?_, fun ha => ?_⟩
 rotate_left
 ·unfold aggOf at ha
  unfold Value.okWide at hv
  cases hu : P.underlying T with
  | none => rw [hu] at ha;cases ha
  | some dsc =>
   rw [hu] at ha hv
   cases v <;> first
    | rfl
    | (cases dsc <;> first | (simp at ha;done) | (simp [Cell.okWide, Cell.ok, hu] at hv;done))
 unfold aggOf at ha
 unfold Value.okWide at hv
 cases hu : P.underlying T with
 | none => rw [hu] at ha;cases ha
 | some dsc =>
  rw [hu] at ha hv
  cases dsc <;> first
   | (simp at ha;done)
   | (obtain ⟨cs, h1, _⟩ := hv;exact ⟨cs.toList, by simpa using h1⟩)
def Args (P : Program) (W : World) : List TypeId → List Value → Prop
 | [], [] => True
 | t :: ts, v :: vs => Arg P W t v ∧ Args P W ts vs
 | _, _ => False
theorem args_of {H : Type} {enc : TypeId × Value → H} {P : Program} {W : World} {base : Nat} : ∀ {ts : List TypeId} {vs : List Value} {ds : List (DataW H)} {ps : List MemPlace},
  (∀ (j : Nat) t v, ts[j]? = some t → vs[j]? = some v → Value.okWide P W .any base t v) → DataW.TrodAll enc P W 0 (fun _ => true) true ts vs ds ps → Args P W ts vs
 | [], [], _, _, _, _ => trivial
 | t :: ts, v :: vs, d :: ds, ps, hok, ⟨p, q, h1, h2, _⟩ => ⟨arg_of (hok 0 t v rfl rfl) h1, args_of (fun j t' v' ht hv => hok (j + 1) t' v' (by simpa using ht) (by simpa using hv)) h2⟩
 | [], _ :: _, _, _, _, h => h.elim
 | _ :: _, [], _, _, _, h => h.elim
 | _ :: _, _ :: _, [], _, _, h => h.elim
theorem args_cons {P : Program} {W : World} {t : TypeId} {ts : List TypeId} {vs : List Value} (h : Args P W (t :: ts) vs) : ∃ v vs', vs = v :: vs' ∧ Arg P W t v ∧ Args P W ts vs' := by
 cases vs with
 | nil => exact h.elim
 | cons v vs => exact ⟨v, vs, rfl, h.1, h.2⟩
theorem args_nil {P : Program} {W : World} {vs : List Value} (h : Args P W [] vs) : vs = [] := by
 cases vs with
 | nil => rfl
 | cons v vs => exact h.elim
theorem args1 {P : Program} {W : World} {t : TypeId} {vs : List Value} (h : Args P W [t] vs) : ∃ a, vs = [a] ∧ Arg P W t a := by
 obtain ⟨a, r, rfl, ha, h⟩ := args_cons h
 rw [args_nil h];exact ⟨a, rfl, ha⟩
theorem trodAll_stays {H : Type} {enc : TypeId × Value → H} {P : Program} (hl : laidOutB P = true) {W W' : World} (hb : Below W.heap.size W W') : ∀ {ts : List TypeId} {vs : List Value} {ds : List (DataW H)} {ps : List MemPlace},
  (ts.all fun t => P.readableRec t && Nat.blt t P.types.size) = true → (∀ x ∈ ps, x.block < W.heap.size) → DataW.TrodAll enc P W 0 (fun _ => true) true ts vs ds ps → DataW.TrodAll enc P W' 0 (fun b => decide (b < W.heap.size)) true ts vs ds ps
 | [], [], [], _, _, _, h => h
 | t :: ts, v :: vs, d :: ds, ps, hr, hlt, ⟨p, q, h1, h2, h3⟩ => by
  simp only [List.all_cons, Bool.and_eq_true] at hr
  subst h3
  have ht : t < P.types.size := by
   have : t + 1 ≤ P.types.size := by simpa [Nat.blt, Nat.ble_eq] using hr.1.2
   exact this
  exact ⟨p, q, Below.trod hl hr.1.1 ht h1 hb (fun x hx => hlt x (by simp [hx])), trodAll_stays hl hb hr.2 (fun x hx => hlt x (by simp [hx])) h2, rfl⟩
 | [], _ :: _, _, _, _, _, h => h.elim
 | [], [], _ :: _, _, _, _, h => h.elim
 | _ :: _, [], _, _, _, _, h => h.elim
 | _ :: _, _ :: _, [], _, _, _, h => h.elim
theorem law_contractX (X : World → Prop) {H : Type} {enc : TypeId × Value → H} {P : Program} {f : FuncId} {fn : Func} {s : ChangeSpec} {tb : TypeId} (hl : laidOutB P = true) (hr : (fn.params.toList.all fun t => P.readableRec t && Nat.blt t P.types.size) = true)
  (hb : fn.resultTypes = #[tb]) (hbool : P.underlying tb = some .bool) (hvars : s.vars = [])
  (hspec : ∀ ds : List (DataW H), ds.length = fn.params.size → s.fn H (ds ++ []) = { results := [.lit (.bool true)], args := ds, vars := [] })
  (walk : ∀ (W : World) (vs : List Value), X W → Args P W fn.params.toList vs → Calls P f vs.toArray W (Ret fun v w => v = .bool true ∧ St W [] w))
  (W : World) (hX : X W) (base : Nat) (args : Array Value) (ds gs : List (DataW H)) (before : List MemPlace)
  (hok : ∀ (j : Nat) t v, fn.params[j]? = some t → args[j]? = some v → Value.okWide P W .any base t v)
  (hW : DataW.Whole enc P fn.params.toList s.vars false W args.toList ds gs before) :
  Calls P f args W fun e W' => ∃ v, e = .returned v ∧ s.post enc P fn false true false false W args v W' := by
 have hlt := hW.lt
 have hW' := hW
 obtain ⟨p, q, hA, hV, hpq, _, _⟩ := hW
 have hgs : gs = [] ∧ q = [] := by
  rw [hvars] at hV
  cases gs with
  | nil => exact ⟨rfl, hV⟩
  | cons g gs => exact hV.elim
 obtain ⟨rfl, rfl⟩ := hgs
 have hlen : ds.length = fn.params.size := by
  have : ∀ {ts : List TypeId} {vs : List Value} {ds : List (DataW H)} {ps : List MemPlace}, DataW.TrodAll enc P W 0 (fun _ => true) true ts vs ds ps → ds.length = ts.length := by
   intro ts
   induction ts with
   | nil => intro vs ds ps h;cases vs <;> cases ds <;> first | rfl | exact h.elim
   | cons t ts ih =>
    intro vs ds ps h
    cases vs with
    | nil => exact h.elim
    | cons v vs =>
     cases ds with
     | nil => exact h.elim
     | cons d ds => obtain ⟨_, _, _, h2, _⟩ := h;simp [ih h2]
  simpa using this hA
 have hargs := args_of (fun j t v ht hv => hok j t v (by simpa using ht) (by simpa using hv)) hA
 have hc := walk W args.toList hX hargs
 simp only [Array.toArray_toList] at hc
 refine hc.mono fun e W' ⟨v, he, hv, hS⟩ => ⟨v, he, ?_⟩
 subst hv
 have hsp := hspec ds hlen
 refine ⟨ds, [], before, [], p, [], hW', ?_, ?_, ?_, hS.below.frame _, fun h => by cases h⟩
 ·rw [hsp, hb]
  exact trodAll_mk1 (shut_bool hbool true)
 ·rw [hsp]
  have : before = p := by simpa using hpq
  subst this
  exact trodAll_stays hl hS.below hr (fun x hx => hlt x hx) hA
 ·rw [hsp, hvars]
  exact rfl
end Go.Proofs.YtnjmonkehjlaoaaGreatDoor
