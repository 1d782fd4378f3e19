/- Control, loops, drawn regions in short form, and slices that are read. Structs of plain parts held against each other. From the form's reading of the arguments to what a walk asks; and from a law's walk to the row's contract. Slices: those that are read, and those that the call owns. -/
import Derived.Test.YtbpkddpkcnlmhaaGreatF02
import Derived.ProofKit
import Derived.Deep.AppendSrc
set_option linter.all false
namespace Go.Proofs.YtbpkddpkcnlmhaaGreat
variable {df : List Deferred}
variable {rr : Option Nat}
open Go.RowKit
section
variable {P : Program} {Q : Exit → Act → World → Prop} {a : Act} {w w' : World} {w0 : Bs} {n : Nat} {l : List (Nat × Value)} {L : List HP}
theorem q_thenE {K : Act → World → Prop} {i : Nat} (h : Q (.exit i) a w) : Exit.then K Q (.exit i) a w := h
theorem q_thenR {K : Act → World → Prop} (h : Q .ret a w) : Exit.then K Q .ret a w := h
theorem q_inN {i : Nat} (h : Q .normal a w) : Exit.inBlock i Q .normal a w := h
theorem q_inR {i : Nat} (h : Q .ret a w) : Exit.inBlock i Q .ret a w := h
theorem q_inE {i : Nat} (h : Q .normal a w) : Exit.inBlock i Q (.exit i) a w := by simp only [Exit.inBlock, if_true]; exact h
theorem c_true {c : Operand} {x y : Code} (hk : Kn df n a l) (h : x.wpIn (FR rr) 0 P Q a w) (hc : ev l c = some (.bool true) := by rfl) : (Code.cond c x y).wpIn (FR rr) 0 P Q a w := wpIn_cond_true (hk.eval hc) h
theorem c_false {c : Operand} {x y : Code} (hk : Kn df n a l) (h : y.wpIn (FR rr) 0 P Q a w) (hc : ev l c = some (.bool false) := by rfl) : (Code.cond c x y).wpIn (FR rr) 0 P Q a w := wpIn_cond_false (hk.eval hc) h
theorem wp_loopN {c : Code} (I : Nat → Act → World → Prop) {k : Nat} (h0 : I k a w)
  (step : ∀ k a w, I k a w → c.wpIn (FR rr) 0 P (Exit.then (fun a' w' => ∃ k', k' < k ∧ I k' a' w') Q) a w) : (Code.loop c).wpIn (FR rr) 0 P Q a w := by
 open Classical in
 have hm : ∀ a w, (∃ k, I k a w) → ∃ k, I k a w ∧ ∀ k', I k' a w → k ≤ k' := by
  intro a w ⟨k, hk⟩
  induction k using Nat.strongRecOn with
  | _ k ih =>
   by_cases h : ∃ k', k' < k ∧ I k' a w
   ·obtain ⟨k', h1, h2⟩ := h
    exact ih k' h1 h2
   ·exact ⟨k, hk, fun k' hk' => by
     rcases Nat.lt_or_ge k' k with h' | h'
     ·exact absurd ⟨k', h', hk'⟩ h
     ·exact h'⟩
 refine wpIn_loop (fun a w => ∃ k, I k a w) (fun a w => if h : ∃ k, I k a w then Classical.choose (hm a w h) else 0) ⟨k, h0⟩ ?_
 intro a w hex
 obtain ⟨hk, hmin⟩ := Classical.choose_spec (hm a w hex)
 refine wpIn_mono (step _ a w hk) ?_
 intro e a' w' hq
 cases e with
 | normal =>
  obtain ⟨k', hlt, hk'⟩ := hq
  have hex' : ∃ k, I k a' w' := ⟨k', hk'⟩
  refine ⟨hex', ?_⟩
  rw [dif_pos hex, dif_pos hex']
  exact Nat.lt_of_le_of_lt ((Classical.choose_spec (hm a' w' hex')).2 k' hk') hlt
 | exit i => exact hq
 | goto i => exact hq
 | ret => exact hq
 | panic c => exact hq
 | outgrown => exact hq
def lkE : List (Nat × Nat × HV) → Nat → Option (Nat × HV)
 | [], _ => none
 | (d, k, h) :: r, x => bif Nat.beq d x then some (k, h) else lkE r x
def curE (acc : List (Nat × Nat × HV)) (l : List (Nat × Value)) (us : Nat → Value) (t : Nat) : Option Value :=
 match lkE acc t with
 | some (k, h) => some (HV.of (some h) us k)
 | none => lk l t
def vwE (acc : List (Nat × Nat × HV)) (l : List (Nat × Value)) (us : Nat → Value) : List Nat → List (Nat × Value)
 | [] => []
 | t :: r => match curE acc l us t with
  | some v => (t, v) :: vwE acc l us r
  | none => vwE acc l us r
def depE (acc : List (Nat × Nat × HV)) (us : Nat → Value) (w : World) : List Nat → Prop
 | [] => True
 | t :: r => (match lkE acc t with
   | some (k, h) => match h.own us with
    | some V => (V (us k)).rd w
    | none => True
   | none => True) ∧ depE acc us w r
def depE2 (acc : List (Nat × Nat × HV)) (us : Nat → Value) (w : World) (ts : List Nat) : Prop :=
 ∀ t ∈ ts, ∀ k h, lkE acc t = some (k, h) → ∀ j ∈ h.srcs, ∀ d h', (d, j, h') ∈ acc → ∀ V, h'.own us = some V → (V (us j)).rd w
def ObE (df : List Deferred) (P : Program) (n : Nat) (os : List Oper) (l : List (Nat × Value)) (w0 : Bs) (L : List HP) (i : Nat) (o : Oper) (acc : List (Nat × Nat × HV)) (h : HV) : Prop :=
 ((∀ k ∈ h.srcs, ∃ t j h', t ∈ o.looksAt os.toArray ∧ lkE acc t = some (j, h') ∧ (j = k ∨ k ∈ h'.srcs)) ∧ ∀ k T A V, h = .tak k T A V → ∃ d p, (d, k, HV.lnd i p A) ∈ acc) ∧
 ∀ (us : Nat → Value) (a : Act) (w : World) (X : List HP), Kn df n a (vwE acc l us (o.looksAt os.toArray)) → depE acc us w (o.looksAt os.toArray) → St w0 (h.preU us ++ X) w → Sub L X → depE2 acc us w (o.looksAt os.toArray) →
  (gdK os.toArray (vwE acc l us (o.looksAt os.toArray)) o.guard = some false ∧ h = .val undef) ∨
  (gdK os.toArray (vwE acc l us (o.looksAt os.toArray)) o.guard = some true ∧ Gives P o a w (h.ok us w0 X w))
def pushE (d : Option Nat) (i : Nat) (h : HV) (acc : List (Nat × Nat × HV)) : List (Nat × Nat × HV) :=
 match d with
 | some d => (d, i, h) :: acc
 | none => acc
def pushR (i : Nat) (h : HV) (HR : List (Nat × ((Nat → Value) → Value → HP))) : List (Nat × ((Nat → Value) → Value → HP)) :=
 match h with
 | .val _ => HR
 | .res V => (i, fun _ => V) :: HR
 | .upd _ V => (i, fun _ => V) :: HR
 | .dep j V => (i, fun us => V (us j)) :: HR
 | .cpy _ => HR
 | .fn _ _ => HR
 | .lnd _ p _ => (i, fun _ v => pureH (p v)) :: HR
 | .tak _ _ _ V => (i, fun _ => V) :: HR
def ObxE (df : List Deferred) (P : Program) (n : Nat) (os : List Oper) (l : List (Nat × Value)) (w0 : Bs) (L : List HP) (Fin : List (Nat × Nat × HV) → List (Nat × ((Nat → Value) → Value → HP)) → List HP → Prop) : Nat → List Oper → List (Nat × Nat × HV) → List (Nat × ((Nat → Value) → Value → HP)) → List HP → Prop
 | _, [], acc, HR, TK => Fin acc HR TK
 | i, o :: r, acc, HR, TK => ∃ h, ObE df P n os l w0 L i o acc h ∧ ObxE df P n os l w0 L Fin (i + 1) r (pushE o.dst i h acc) (pushR i h HR) (TK ++ h.pre)
def finE (us : Nat → Value) : List (Nat × Nat × HV) → List (Nat × Value) → List (Nat × Value)
 | [], l => l
 | (d, k, h) :: r, l => (d, HV.of (some h) us k) :: finE us r l
def resE (us : Nat → Value) : List (Nat × ((Nat → Value) → Value → HP)) → List HP → List HP
 | [], L => L
 | (k, V) :: r, L => V us (us k) :: resE us r L
theorem lk_finE {us : Nat → Value} {l : List (Nat × Value)} : ∀ (acc : List (Nat × Nat × HV)) (t : Nat), lk (finE us acc l) t = curE acc l us t
 | [], t => rfl
 | (d, k, h) :: r, t => by
  have ih := lk_finE (us := us) (l := l) r t
  unfold curE at ih ⊢
  simp only [finE, lk, lkE]
  cases hb : Nat.beq d t with
  | true => rfl
  | false => simp only [cond_false];exact ih
structure Acc (os : List Oper) (H : List HV) (i : Nat) (acc : List (Nat × Nat × HV)) : Prop where
 len : H.length = i
 get : ∀ t, lkE acc t = (lastW os i t).bind (fun k => (H[k]?).map (fun h => (k, h)))
 mem : ∀ d k h, (d, k, h) ∈ acc → H[k]? = some h
theorem Acc.push {os : List Oper} {H : List HV} {i : Nat} {acc : List (Nat × Nat × HV)} {o : Oper} (hA : Acc os H i acc) (ho : os[i]? = some o) (h : HV) : Acc os (H ++ [h]) (i + 1) (pushE o.dst i h acc) := by
 refine ⟨by simp [hA.len], fun t => ?_, fun d k h' hm => ?_⟩
 rotate_left
 ·have hold : ∀ d k h', (d, k, h') ∈ acc → (H ++ [h])[k]? = some h' := fun d k h' hm => by
   have := hA.mem d k h' hm
   have hlt : k < H.length := by
    rcases Nat.lt_or_ge k H.length with h1 | h1
    ·exact h1
    ·rw [List.getElem?_eq_none h1] at this;cases this
   rw [List.getElem?_append_left hlt];exact this
  cases hd : o.dst with
  | none => rw [hd] at hm;exact hold d k h' hm
  | some d' =>
   rw [hd] at hm
   simp only [pushE, List.mem_cons, Prod.mk.injEq] at hm
   rcases hm with ⟨_, rfl, rfl⟩ | hm
   ·rw [← hA.len];simp
   ·exact hold d k h' hm
 have e : lastW os (i + 1) t = if (true && ((os[i]?).bind (·.dst) == some t)) = true then some i else lastW os i t := rfl
 have hold : (lastW os i t).bind (fun k => ((H ++ [h])[k]?).map (fun h => (k, h))) = (lastW os i t).bind (fun k => (H[k]?).map (fun h => (k, h))) := by
  cases hw : lastW os i t with
  | none => rfl
  | some k =>
   obtain ⟨hk, _, _⟩ := lastIn_spec hw
   simp only [Option.bind_some]
   rw [List.getElem?_append_left (by rw [hA.len];exact hk)]
 rw [e, ho]
 cases hd : o.dst with
 | none =>
  have : ((some o).bind (·.dst) == some t) = false := by simp [hd]
  rw [this]
  simp only [Bool.and_false, Bool.false_eq_true, if_false, pushE]
  rw [hold];exact hA.get t
 | some d =>
  by_cases hdt : d = t
  ·subst hdt
   have : ((some o).bind (·.dst) == some d) = true := by simp [hd]
   rw [this]
   simp only [Bool.and_true, if_true, pushE, lkE, Option.bind_some]
   have hb : Nat.beq d d = true := by simp
   rw [hb, cond_true, show (H ++ [h])[i]? = some h by rw [← hA.len];simp]
   rfl
  ·have : ((some o).bind (·.dst) == some t) = false := by simp [hd, hdt]
   rw [this]
   simp only [Bool.and_false, Bool.false_eq_true, if_false, pushE, lkE]
   have hb : Nat.beq d t = false := by
    cases hb : Nat.beq d t with
    | false => rfl
    | true => exact absurd (Nat.eq_of_beq_eq_true hb) hdt
   rw [hb, cond_false, hold];exact hA.get t
theorem Acc.cur {os : List Oper} {H : List HV} {i : Nat} {acc : List (Nat × Nat × HV)} (hA : Acc os H i acc) (l : List (Nat × Value)) (us : Nat → Value) (t : Nat) : curE acc l us t = curW os l H i us t := by
 unfold curE curW
 rw [hA.get t]
 cases hw : lastW os i t with
 | none => rfl
 | some k =>
  obtain ⟨hk, _, _⟩ := lastIn_spec hw
  have hk' : k < H.length := by rw [hA.len];exact hk
  simp [List.getElem?_eq_getElem hk']
theorem Acc.vw {os : List Oper} {H : List HV} {i : Nat} {acc : List (Nat × Nat × HV)} (hA : Acc os H i acc) (l : List (Nat × Value)) (us : Nat → Value) : ∀ ts, vwE acc l us ts = vwL os l H i us ts
 | [] => rfl
 | t :: r => by
  simp only [vwE, vwL, hA.cur l us t, hA.vw l us r]
  cases curW os l H i us t <;> rfl
theorem Acc.dep {os : List Oper} {H : List HV} {i : Nat} {acc : List (Nat × Nat × HV)} (hA : Acc os H i acc) (us : Nat → Value) (w : World) : ∀ ts, depRd os H i us w ts → depE acc us w ts
 | [], _ => trivial
 | t :: r, ⟨h1, h2⟩ => by
  refine ⟨?_, hA.dep us w r h2⟩
  rw [hA.get t]
  cases hw : lastW os i t with
  | none => trivial
  | some k =>
   obtain ⟨hk, _, _⟩ := lastIn_spec hw
   have hk' : k < H.length := by rw [hA.len];exact hk
   rw [hw] at h1
   simp only [List.getElem?_eq_getElem hk', Option.bind_some, Option.map_some] at h1 ⊢
   exact h1
theorem Acc.dep2 {os : List Oper} {H : List HV} {i : Nat} {acc : List (Nat × Nat × HV)} (hA : Acc os H i acc) (us : Nat → Value) (w : World) (ts : List Nat) (h : depRd2 os H i us w ts) : depE2 acc us w ts := by
 intro t ht k hv hl j hj d h' hm V hV
 rw [hA.get t] at hl
 cases hw : lastW os i t with
 | none => rw [hw] at hl;cases hl
 | some k' =>
  rw [hw] at hl
  cases hH : H[k']? with
  | none => simp [hH] at hl
  | some h2 =>
   simp only [Option.bind_some, hH, Option.map_some, Option.some.injEq, Prod.mk.injEq] at hl
   obtain ⟨rfl, rfl⟩ := hl
   exact h t ht k' hw h2 hH j hj V (by rw [hA.mem d j h' hm];exact hV)
theorem toks_app {L : List HP} : ∀ H : List HV, toks H L = toks H [] ++ L
 | [] => rfl
 | .val _ :: H => toks_app H
 | .res _ :: H => toks_app H
 | .dep _ _ :: H => toks_app H
 | .cpy _ :: H => toks_app H
 | .fn _ _ :: H => toks_app H
 | .lnd _ _ _ :: H => toks_app H
 | .tak _ T _ _ :: H => by simp only [toks, List.append_assoc];rw [toks_app H]
 | .upd A _ :: H => by simp only [toks, List.cons_append];rw [toks_app H]
theorem toks_snoc {h : HV} : ∀ H : List HV, toks (H ++ [h]) [] = toks H [] ++ h.pre
 | [] => by cases h <;> simp [toks, HV.pre]
 | .val _ :: H => toks_snoc H
 | .res _ :: H => toks_snoc H
 | .dep _ _ :: H => toks_snoc H
 | .cpy _ :: H => toks_snoc H
 | .fn _ _ :: H => toks_snoc H
 | .lnd _ _ _ :: H => toks_snoc H
 | .tak _ T _ _ :: H => by simp only [List.cons_append, toks, List.append_assoc];rw [toks_snoc H]
 | .upd A _ :: H => by simp only [List.cons_append, toks];rw [toks_snoc H]
theorem At.app {A : HP} {L : List HP} : ∀ X : List HP, At A (X ++ A :: L) (X ++ L)
 | [] => At.here
 | _ :: X => At.there (At.app X)
theorem resA_app {us : Nat → Value} : ∀ (i : Nat) (H : List HV) (L : List HP), resA us i H L = resA us i H [] ++ L
 | _, [], _ => rfl
 | i, .val _ :: H, L => by simp only [resA];exact resA_app (i + 1) H L
 | i, .cpy _ :: H, L => by simp only [resA];exact resA_app (i + 1) H L
 | i, .fn _ _ :: H, L => by simp only [resA];exact resA_app (i + 1) H L
 | i, .lnd _ p _ :: H, L => by simp only [resA, List.cons_append];rw [resA_app (i + 1) H L]
 | i, .tak _ _ _ V :: H, L => by simp only [resA, List.cons_append];rw [resA_app (i + 1) H L]
 | i, .res V :: H, L => by simp only [resA, List.cons_append];rw [resA_app (i + 1) H L]
 | i, .dep j V :: H, L => by simp only [resA, List.cons_append];rw [resA_app (i + 1) H L]
 | i, .upd A V :: H, L => by simp only [resA, List.cons_append];rw [resA_app (i + 1) H L]
theorem resA_snoc {us : Nat → Value} {h : HV} : ∀ (i : Nat) (H : List HV) (L : List HP), resA us i (H ++ [h]) L = resA us i H (resA us (i + H.length) [h] L)
 | _, [], _ => rfl
 | i, .val _ :: H, L => by simp only [List.cons_append, resA, List.length_cons];rw [resA_snoc (i + 1) H L, show i + 1 + H.length = i + (H.length + 1) by omega]
 | i, .cpy _ :: H, L => by simp only [List.cons_append, resA, List.length_cons];rw [resA_snoc (i + 1) H L, show i + 1 + H.length = i + (H.length + 1) by omega]
 | i, .lnd _ p _ :: H, L => by simp only [List.cons_append, resA, List.length_cons];rw [resA_snoc (i + 1) H L, show i + 1 + H.length = i + (H.length + 1) by omega]
 | i, .tak _ _ _ V :: H, L => by simp only [List.cons_append, resA, List.length_cons];rw [resA_snoc (i + 1) H L, show i + 1 + H.length = i + (H.length + 1) by omega]
 | i, .fn _ _ :: H, L => by simp only [List.cons_append, resA, List.length_cons];rw [resA_snoc (i + 1) H L, show i + 1 + H.length = i + (H.length + 1) by omega]
 | i, .res V :: H, L => by simp only [List.cons_append, resA, List.length_cons];rw [resA_snoc (i + 1) H L, show i + 1 + H.length = i + (H.length + 1) by omega]
 | i, .dep j V :: H, L => by simp only [List.cons_append, resA, List.length_cons];rw [resA_snoc (i + 1) H L, show i + 1 + H.length = i + (H.length + 1) by omega]
 | i, .upd A V :: H, L => by simp only [List.cons_append, resA, List.length_cons];rw [resA_snoc (i + 1) H L, show i + 1 + H.length = i + (H.length + 1) by omega]
theorem Sub.trans_at {A : HP} {X Y : List HP} (h : At A X Y) : ∀ {Z : List HP}, Sub Z Y → Sub (A :: Z) X := fun hz => .cons h hz
variable {os : List Oper} {i : Nat} {o : Oper} {r : List Oper} {acc : List (Nat × Nat × HV)} {HR : List (Nat × ((Nat → Value) → Value → HP))} {FinE : List (Nat × Nat × HV) → List (Nat × ((Nat → Value) → Value → HP)) → List HP → Prop} {TK L0 : List HP}
theorem Obx_of_E {m : Nat} {G : Act → World → Prop} : ∀ (r : List Oper) (i : Nat) (H : List HV) (acc : List (Nat × Nat × HV)) (HR : List (Nat × ((Nat → Value) → Value → HP))) (TK : List HP), Acc os H i acc → toks H [] = TK → (∀ us L, Sub (resE us HR L) (resA us 0 H L)) → i + r.length = m → (∀ j, r[j]? = os[i + j]? ∨ r.length ≤ j) → m ≤ os.length →
  ObxE df P n os l w0 L (fun acc HR TK => TK ++ L = L0 ∧ ∀ us a w, Kn df n a (finE us acc l) → St w0 (resE us HR L) w → G a w) i r acc HR TK →
  Obx df P n os l w0 L (fun H => toks H L = L0 ∧ ∀ us a w, Kn df n a (finK us 0 (os.take m) H l) → St w0 (resA us 0 H L) w → G a w) i r H
 | [], i, H, acc, HR, TK, hA, hT, hR, him, hos, hm, h => by
  refine ⟨by rw [toks_app, hT];exact h.1, ?_⟩
  intro us a w hk hS
  refine h.2 us a w ⟨hk.size, fun t v hv => hk.get t v ?_, hk.defers⟩ (hS.sub (hR us L))
  have him' : i = m := by simpa using him
  subst him'
  rw [lk_finE] at hv
  have hlen : (os.take i).length = i := by rw [List.length_take];omega
  rw [lk_finK (os := os) (H := H) (us := us) (os.take i) 0 H l (by rw [hlen, hA.len]) (fun j => by
   rcases Nat.lt_or_ge j i with h | h
   ·left;rw [List.getElem?_take, if_pos h];simp
   ·right;omega) (fun j h hh => by simpa using hh) t, hlen, Nat.zero_add]
  rw [hA.cur l us t] at hv
  have heq : ∀ j, lastIn (fun k => !Nat.blt k 0) os j t = lastW os j t := by
   intro j
   induction j with
   | zero => rfl
   | succ j ih => unfold lastW lastIn;rw [ih];rfl
  rw [heq i]
  exact hv
 | o :: r, i, H, acc, HR, TK, hA, hT, hR, him, hos, hm, ⟨h, hob, hr⟩ => by
  have ho : os[i]? = some o := by
   rcases hos 0 with h1 | h1
   ·simpa using h1.symm
   ·simp at h1
  refine ⟨h, ?_, Obx_of_E r (i + 1) (H ++ [h]) _ _ _ (hA.push ho h) (by rw [toks_snoc, hT]) ?_ (by simp at him ⊢;omega) (fun j => ?_) hm hr⟩
  ·refine ⟨⟨fun k hk => ?_, fun k T A V e => ?_⟩, ?_⟩
   rotate_left
   ·obtain ⟨d, p, hd⟩ := hob.1.2 k T A V e
    exact ⟨p, hA.mem _ _ _ hd⟩
   rotate_left
   ·obtain ⟨t, j, h', ht, hl, hj⟩ := hob.1.1 k hk
    rw [hA.get t] at hl
    cases hw : lastW os i t with
    | none => rw [hw] at hl;simp at hl
    | some k' =>
     rw [hw] at hl
     simp only [Option.bind_some, Option.map_eq_some_iff] at hl
     obtain ⟨h2, hH, e⟩ := hl
     injection e with e e2
     subst e e2
     exact ⟨t, _, ht, hw, hj.imp_right fun hj => ⟨_, hH, hj⟩⟩
   intro us a w X hk hd hS hX hd2
   have e := hA.vw l us (o.looksAt os.toArray)
   have := hob.2 us a w X (by rw [e];exact hk) (hA.dep us w _ hd) hS hX (hA.dep2 us w _ hd2)
   rw [e] at this
   exact this
  ·intro us L
   rw [resA_snoc, hA.len, Nat.zero_add]
   cases h with
   | val c => exact hR us L
   | cpy c => exact hR us L
   | fn c d => exact hR us L
   | lnd c p d =>
    simp only [pushR, resE, resA]
    rw [resA_app]
    refine Sub.trans_at (At.app _) ?_
    rw [← resA_app]
    exact hR us L
   | tak q T A V =>
    simp only [pushR, resE, resA]
    rw [resA_app]
    refine Sub.trans_at (At.app _) ?_
    rw [← resA_app]
    exact hR us L
   | res V =>
    simp only [pushR, resE, resA]
    rw [resA_app]
    refine Sub.trans_at (At.app _) ?_
    rw [← resA_app]
    exact hR us L
   | dep j V =>
    simp only [pushR, resE, resA]
    rw [resA_app]
    refine Sub.trans_at (At.app _) ?_
    rw [← resA_app]
    exact hR us L
   | upd A V =>
    simp only [pushR, resE, resA]
    rw [resA_app]
    refine Sub.trans_at (At.app _) ?_
    rw [← resA_app]
    exact hR us L
  ·rcases hos (j + 1) with h1 | h1
   ·left;simpa [Nat.add_assoc, Nat.add_comm 1 j] using h1
   ·right;simp at h1;omega
theorem wp_drawnU (m : Nat) {id : Nat} (hm : P.follows .mixedOrders = true) (hc : chk os m n = true) (hk : Kn df n a l) (hS : St w0 L0 w)
  (h : ObxE df P n os l w0 L (fun acc HR TK => TK ++ L = L0 ∧ ∀ us a w, Kn df n a (finE us acc l) → St w0 (resE us HR L) w → wpListIn (FR rr) 0 P os.toArray Q (os.drop m) a w) 0 (os.take m) [] [] []) :
  (Code.region id os.toArray true).wpIn (FR rr) 0 P Q a w := by
 have hC := Chk.of hc
 have hlen : (os.take m).length = m := by rw [List.length_take];have := hC.le;omega
 refine wp_region_drawn m hm hc hk hS (Obx_of_E (os.take m) 0 [] [] [] [] ⟨rfl, fun t => rfl, fun d k h hm => by cases hm⟩ rfl (fun us L => .refl) (by simpa using hlen) (fun j => ?_) hC.le h)
 rcases Nat.lt_or_ge j m with h | h
 ·left;rw [List.getElem?_take, if_pos h];simp
 ·right;omega
theorem wp_drawnU1 {A : HP} (m : Nat) {id : Nat} (hm : P.follows .mixedOrders = true) (hc : chk os m n = true) (hk : Kn df n a l) (hS : St w0 (A :: L) w)
  (h : ObxE df P n os l w0 L (fun acc HR TK => TK ++ L = A :: L ∧ ∀ us a w, Kn df n a (finE us acc l) → St w0 (resE us HR L) w → wpListIn (FR rr) 0 P os.toArray Q (os.drop m) a w) 0 (os.take m) [] [] []) :
  (Code.region id os.toArray true).wpIn (FR rr) 0 P Q a w := wp_drawnU m hm hc hk hS h
theorem wp_drawnU2 {A B : HP} (m : Nat) {id : Nat} (hm : P.follows .mixedOrders = true) (hc : chk os m n = true) (hk : Kn df n a l) (hS : St w0 (A :: B :: L) w)
  (h : ObxE df P n os l w0 L (fun acc HR TK => TK ++ L = A :: B :: L ∧ ∀ us a w, Kn df n a (finE us acc l) → St w0 (resE us HR L) w → wpListIn (FR rr) 0 P os.toArray Q (os.drop m) a w) 0 (os.take m) [] [] []) :
  (Code.region id os.toArray true).wpIn (FR rr) 0 P Q a w := wp_drawnU m hm hc hk hS h
theorem wp_drawn (m : Nat) {id : Nat} (hm : P.follows .mixedOrders = true) (hc : chk os m n = true) (hk : Kn df n a l) (hS : St w0 L w)
  (h : ObxE df P n os l w0 L (fun acc HR TK => TK ++ L = L ∧ ∀ us a w, Kn df n a (finE us acc l) → St w0 (resE us HR L) w → wpListIn (FR rr) 0 P os.toArray Q (os.drop m) a w) 0 (os.take m) [] [] []) :
  (Code.region id os.toArray true).wpIn (FR rr) 0 P Q a w := wp_drawnU m hm hc hk hS h
inductive VW (acc : List (Nat × Nat × HV)) (l : List (Nat × Value)) (us : Nat → Value) : List Nat → List (Nat × Value) → Prop
 | nil : VW acc l us [] []
 | val {t k : Nat} {c : Value} {ts : List Nat} {r : List (Nat × Value)} (h : lkE acc t = some (k, .val c)) (hr : VW acc l us ts r) : VW acc l us (t :: ts) ((t, c) :: r)
 | res {t k : Nat} {V : Value → HP} {ts : List Nat} {r : List (Nat × Value)} (h : lkE acc t = some (k, .res V)) (hr : VW acc l us ts r) : VW acc l us (t :: ts) ((t, us k) :: r)
 | dep {t k k1 : Nat} {V : Value → Value → HP} {ts : List Nat} {r : List (Nat × Value)} (h : lkE acc t = some (k, .dep k1 V)) (hr : VW acc l us ts r) : VW acc l us (t :: ts) ((t, us k) :: r)
 | cpy {t k k1 : Nat} {ts : List Nat} {r : List (Nat × Value)} (h : lkE acc t = some (k, .cpy k1)) (hr : VW acc l us ts r) : VW acc l us (t :: ts) ((t, us k1) :: r)
 | fn {t k : Nat} {js : List Nat} {f : List Value → Value} {ts : List Nat} {r : List (Nat × Value)} (h : lkE acc t = some (k, .fn js f)) (hr : VW acc l us ts r) : VW acc l us (t :: ts) ((t, f (js.map us)) :: r)
 | lnd {t k c : Nat} {p : Value → Prop} {A : Value → HP} {ts : List Nat} {r : List (Nat × Value)} (h : lkE acc t = some (k, .lnd c p A)) (hr : VW acc l us ts r) : VW acc l us (t :: ts) ((t, us k) :: r)
 | tak {t k q : Nat} {T : List HP} {A V : Value → HP} {ts : List Nat} {r : List (Nat × Value)} (h : lkE acc t = some (k, .tak q T A V)) (hr : VW acc l us ts r) : VW acc l us (t :: ts) ((t, us k) :: r)
 | upd {t k : Nat} {A : HP} {V : Value → HP} {ts : List Nat} {r : List (Nat × Value)} (h : lkE acc t = some (k, .upd A V)) (hr : VW acc l us ts r) : VW acc l us (t :: ts) ((t, us k) :: r)
 | base {t : Nat} {c : Value} {ts : List Nat} {r : List (Nat × Value)} (h : lkE acc t = none) (hl : lk l t = some c) (hr : VW acc l us ts r) : VW acc l us (t :: ts) ((t, c) :: r)
theorem VW.eq {us : Nat → Value} {ts : List Nat} {r : List (Nat × Value)} (h : VW acc l us ts r) : vwE acc l us ts = r := by
 induction h with
 | nil => rfl
 | val h _ ih => simp only [vwE, curE, h, HV.of, ih]
 | res h _ ih => simp only [vwE, curE, h, HV.of, ih]
 | upd h _ ih => simp only [vwE, curE, h, HV.of, ih]
 | cpy h _ ih => simp only [vwE, curE, h, HV.of, ih]
 | fn h _ ih => simp only [vwE, curE, h, HV.of, ih]
 | dep h _ ih => simp only [vwE, curE, h, HV.of, ih]
 | lnd h _ ih => simp only [vwE, curE, h, HV.of, ih]
 | tak h _ ih => simp only [vwE, curE, h, HV.of, ih]
 | base h hl _ ih => simp only [vwE, curE, h, hl, ih]
theorem Kn.vw {us : Nat → Value} {ts : List Nat} {r : List (Nat × Value)} (hk : Kn df n a (vwE acc l us ts)) (h : VW acc l us ts r) : Kn df n a r := by rw [← h.eq]; exact hk
theorem St.sub0 {w0 : Bs} {w : World} {L X : List HP} (h : St w0 ([] ++ X) w) (hX : Sub L X) : St w0 L w := St.sub (by simpa using h) hX
theorem obe_val {c : Value} (h : ∀ (us : Nat → Value) (a : Act) (w : World), Kn df n a (vwE acc l us (o.looksAt os.toArray)) → depE acc us w (o.looksAt os.toArray) → St w0 L w → Gives P o a w (fun v w' => v = c ∧ St w [] w'))
  (hr : ObxE df P n os l w0 L FinE (i + 1) r (pushE o.dst i (.val c) acc) HR TK)
  (hg : ∀ us, gdK os.toArray (vwE acc l us (o.looksAt os.toArray)) o.guard = some true := by intro us;rfl) : ObxE df P n os l w0 L FinE i (o :: r) acc HR TK :=
 ⟨.val c, ⟨⟨fun k e => (by simp [HV.srcs] at e), fun k T A V e => (by cases e)⟩, fun us a w X hk hd hS hX _ => .inr ⟨hg us, h us a w hk hd (hS.sub0 hX)⟩⟩, by simpa [HV.pre, pushR] using hr⟩
theorem obe_res {V : Value → HP} (h : ∀ (us : Nat → Value) (a : Act) (w : World), Kn df n a (vwE acc l us (o.looksAt os.toArray)) → depE acc us w (o.looksAt os.toArray) → St w0 L w → Gives P o a w (fun v w' => St w [V v] w'))
  (hr : ObxE df P n os l w0 L FinE (i + 1) r (pushE o.dst i (.res V) acc) ((i, fun _ => V) :: HR) TK)
  (hg : ∀ us, gdK os.toArray (vwE acc l us (o.looksAt os.toArray)) o.guard = some true := by intro us;rfl) : ObxE df P n os l w0 L FinE i (o :: r) acc HR TK :=
 ⟨.res V, ⟨⟨fun k e => (by simp [HV.srcs] at e), fun k T A V e => (by cases e)⟩, fun us a w X hk hd hS hX _ => .inr ⟨hg us, h us a w hk hd (hS.sub0 hX)⟩⟩, by simpa [HV.pre, pushR] using hr⟩
theorem obe_dep (t k : Nat) {h' : HV} {V : Value → Value → HP} (h : ∀ (us : Nat → Value) (a : Act) (w : World), Kn df n a (vwE acc l us (o.looksAt os.toArray)) → depE acc us w (o.looksAt os.toArray) → St w0 L w → Gives P o a w (fun v w' => St w [V (us k) v] w'))
  (hr : ObxE df P n os l w0 L FinE (i + 1) r (pushE o.dst i (.dep k V) acc) ((i, fun us => V (us k)) :: HR) TK) (ht : (o.looksAt os.toArray).contains t = true := by rfl) (hl : lkE acc t = some (k, h') := by rfl)
  (hg : ∀ us, gdK os.toArray (vwE acc l us (o.looksAt os.toArray)) o.guard = some true := by intro us;rfl) : ObxE df P n os l w0 L FinE i (o :: r) acc HR TK :=
 ⟨.dep k V, ⟨⟨fun k' e => by simp only [HV.srcs, List.mem_singleton] at e;subst e;exact ⟨t, _, h', by simpa using ht, hl, .inl rfl⟩, fun k T A V e => (by cases e)⟩, fun us a w X hk hd hS hX _ => .inr ⟨hg us, h us a w hk hd (hS.sub0 hX)⟩⟩, by simpa [HV.pre, pushR] using hr⟩
theorem obe_upd (A : HP) {V : Value → HP} (h : ∀ (us : Nat → Value) (a : Act) (w : World) (X : List HP), Kn df n a (vwE acc l us (o.looksAt os.toArray)) → depE acc us w (o.looksAt os.toArray) → St w0 (A :: X) w → St w0 L w → Gives P o a w (fun v w' => St w0 (V v :: X) w'))
  (hr : ObxE df P n os l w0 L FinE (i + 1) r (pushE o.dst i (.upd A V) acc) ((i, fun _ => V) :: HR) (TK ++ [A]))
  (hg : ∀ us, gdK os.toArray (vwE acc l us (o.looksAt os.toArray)) o.guard = some true := by intro us;rfl) : ObxE df P n os l w0 L FinE i (o :: r) acc HR TK :=
 ⟨.upd A V, ⟨⟨fun k e => (by simp [HV.srcs] at e), fun k T A V e => (by cases e)⟩, fun us a w X hk hd hS hX _ => .inr ⟨hg us, h us a w X hk hd hS (St.sub hS hX.under)⟩⟩, hr⟩
theorem lkE_mem : ∀ {acc : List (Nat × Nat × HV)} {t k : Nat} {h : HV}, lkE acc t = some (k, h) → (t, k, h) ∈ acc
 | (d, k', h') :: acc, t, k, h, e => by
  unfold lkE at e
  cases hb : Nat.beq d t with
  | true =>
   rw [hb] at e
   simp only [cond_true, Option.some.injEq, Prod.mk.injEq] at e
   obtain ⟨rfl, rfl⟩ := e
   rw [Nat.eq_of_beq_eq_true hb]
   simp
  | false =>
   rw [hb] at e
   simp only [cond_false] at e
   exact List.mem_cons_of_mem _ (lkE_mem e)
theorem obe_lnd (j : Nat) {p : Value → Prop} {V : Value → HP} (h : ∀ (us : Nat → Value) (a : Act) (w : World), Kn df n a (vwE acc l us (o.looksAt os.toArray)) → depE acc us w (o.looksAt os.toArray) → St w0 L w → Gives P o a w (fun v w' => St w [V v, pureH (p v)] w'))
  (hr : ObxE df P n os l w0 L FinE (i + 1) r (pushE o.dst i (.lnd j p V) acc) ((i, fun _ v => pureH (p v)) :: HR) TK)
  (hg : ∀ us, gdK os.toArray (vwE acc l us (o.looksAt os.toArray)) o.guard = some true := by intro us;rfl) : ObxE df P n os l w0 L FinE i (o :: r) acc HR TK :=
 ⟨.lnd j p V, ⟨⟨fun k e => (by simp [HV.srcs] at e), fun k T A V e => (by cases e)⟩, fun us a w X hk hd hS hX _ => .inr ⟨hg us, h us a w hk hd (hS.sub0 hX)⟩⟩, by simpa [HV.pre, pushR] using hr⟩
theorem obe_takT (t k : Nat) (T : List HP) {p : Value → Prop} {A V : Value → HP} (h : ∀ (us : Nat → Value) (a : Act) (w : World) (X : List HP), Kn df n a (vwE acc l us (o.looksAt os.toArray)) → depE acc us w (o.looksAt os.toArray) → St w0 (A (us k) :: (T ++ X)) w → St w0 L w → Gives P o a w (fun v w' => St w0 (V v :: X) w'))
  (hr : ObxE df P n os l w0 L FinE (i + 1) r (pushE o.dst i (.tak k T A V) acc) ((i, fun _ => V) :: HR) (TK ++ T)) (ht : (o.looksAt os.toArray).contains t = true := by rfl) (hl : lkE acc t = some (k, .lnd i p A) := by rfl)
  (hg : ∀ us, gdK os.toArray (vwE acc l us (o.looksAt os.toArray)) o.guard = some true := by intro us;rfl) : ObxE df P n os l w0 L FinE i (o :: r) acc HR TK :=
 ⟨.tak k T A V, ⟨⟨fun k' e => by simp only [HV.srcs, List.mem_singleton] at e;subst e;exact ⟨t, _, _, by simpa using ht, hl, .inl rfl⟩, fun k' T' A' V' e => by cases e;exact ⟨t, p, lkE_mem hl⟩⟩, fun us a w X hk hd hS hX _ => .inr ⟨hg us, h us a w X hk hd hS (St.sub hS (hX.pre T).under)⟩⟩, by simpa [HV.pre, pushR] using hr⟩
theorem obe_tak (t k : Nat) {p : Value → Prop} {A V : Value → HP} (h : ∀ (us : Nat → Value) (a : Act) (w : World) (X : List HP), Kn df n a (vwE acc l us (o.looksAt os.toArray)) → depE acc us w (o.looksAt os.toArray) → St w0 (A (us k) :: X) w → St w0 L w → Gives P o a w (fun v w' => St w0 (V v :: X) w'))
  (hr : ObxE df P n os l w0 L FinE (i + 1) r (pushE o.dst i (.tak k [] A V) acc) ((i, fun _ => V) :: HR) TK) (ht : (o.looksAt os.toArray).contains t = true := by rfl) (hl : lkE acc t = some (k, .lnd i p A) := by rfl)
  (hg : ∀ us, gdK os.toArray (vwE acc l us (o.looksAt os.toArray)) o.guard = some true := by intro us;rfl) : ObxE df P n os l w0 L FinE i (o :: r) acc HR TK :=
 obe_takT t k [] h (by rw [List.append_nil];exact hr) ht hl hg
theorem obe_cpy (t k : Nat) {h' : HV} (h : ∀ (us : Nat → Value) (a : Act) (w : World), Kn df n a (vwE acc l us (o.looksAt os.toArray)) → depE acc us w (o.looksAt os.toArray) → St w0 L w → Gives P o a w (fun v w' => v = us k ∧ St w [] w'))
  (hr : ObxE df P n os l w0 L FinE (i + 1) r (pushE o.dst i (.cpy k) acc) HR TK) (ht : (o.looksAt os.toArray).contains t = true := by rfl) (hl : lkE acc t = some (k, h') := by rfl)
  (hg : ∀ us, gdK os.toArray (vwE acc l us (o.looksAt os.toArray)) o.guard = some true := by intro us;rfl) : ObxE df P n os l w0 L FinE i (o :: r) acc HR TK :=
 ⟨.cpy k, ⟨⟨fun k' e => by simp only [HV.srcs, List.mem_singleton] at e;subst e;exact ⟨t, _, h', by simpa using ht, hl, .inl rfl⟩, fun k T A V e => (by cases e)⟩, fun us a w X hk hd hS hX _ => .inr ⟨hg us, h us a w hk hd (hS.sub0 hX)⟩⟩, by simpa [HV.pre, pushR] using hr⟩
theorem obe_skip (hr : ObxE df P n os l w0 L FinE (i + 1) r (pushE o.dst i (.val undef) acc) HR TK)
  (hg : ∀ us, gdK os.toArray (vwE acc l us (o.looksAt os.toArray)) o.guard = some false := by intro us;rfl) : ObxE df P n os l w0 L FinE i (o :: r) acc HR TK :=
 ⟨.val undef, ⟨⟨fun k e => (by simp [HV.srcs] at e), fun k T A V e => (by cases e)⟩, fun us _ _ _ _ _ _ _ _ => .inl ⟨hg us, rfl⟩⟩, by simpa [HV.pre, pushR] using hr⟩
theorem obe_nil (h : FinE acc HR TK) : ObxE df P n os l w0 L FinE i [] acc HR TK := h
theorem St.call0 {w0 : Bs} {w w' : World} {L : List HP} (h : St w0 L w) (h1 : St w [] w') : St w0 L w' := h.call h1
theorem St.nil {w0 : Bs} {w : World} {L : List HP} (h : St w0 L w) : St w0 [] w := h.sub .nil
variable {dst : Option Nat} {R : Value → World → Prop} {ty : TypeId} {pos : String} {af : Array Edge} {g : Option (Nat × Bool)}
theorem g_eqiT {x y : Operand} {t t' : TypeId} {k : IntKind} {p : Int} (hk : Kn df n a l) (h : R (.bool true) w)
  (hx : ev l x = some (.int k p) := by rfl) (hy : ev l y = some (.int k p) := by rfl) : Gives P ⟨dst, .binOp .eql t x y t', ty, pos, af, g⟩ a w R :=
 g_eqi (p := p) (q := p) hk (by simpa using h) hx hy
theorem g_leqT {x y : Operand} {t t' : TypeId} {k : IntKind} {p q : Int} (hk : Kn df n a l) (h : R (.bool true) w)
  (hx : ev l x = some (.int k p) := by rfl) (hy : ev l y = some (.int k q) := by rfl) (hpq : p ≤ q) : Gives P ⟨dst, .binOp .leq t x y t', ty, pos, af, g⟩ a w R :=
 g_leq hk (by rw [decide_eq_true hpq];exact h) hx hy
theorem g_leqF {x y : Operand} {t t' : TypeId} {k : IntKind} {p q : Int} (hk : Kn df n a l) (h : R (.bool false) w)
  (hx : ev l x = some (.int k p) := by rfl) (hy : ev l y = some (.int k q) := by rfl) (hpq : ¬ p ≤ q) : Gives P ⟨dst, .binOp .leq t x y t', ty, pos, af, g⟩ a w R :=
 g_leq hk (by rw [decide_eq_false hpq];exact h) hx hy
theorem g_lssT {x y : Operand} {t t' : TypeId} {k : IntKind} {p q : Int} (hk : Kn df n a l) (h : R (.bool true) w)
  (hx : ev l x = some (.int k p) := by rfl) (hy : ev l y = some (.int k q) := by rfl) (hpq : p < q) : Gives P ⟨dst, .binOp .lss t x y t', ty, pos, af, g⟩ a w R :=
 g_lss hk (by rw [decide_eq_true hpq];exact h) hx hy
theorem g_lssF {x y : Operand} {t t' : TypeId} {k : IntKind} {p q : Int} (hk : Kn df n a l) (h : R (.bool false) w)
  (hx : ev l x = some (.int k p) := by rfl) (hy : ev l y = some (.int k q) := by rfl) (hpq : ¬ p < q) : Gives P ⟨dst, .binOp .lss t x y t', ty, pos, af, g⟩ a w R :=
 g_lss hk (by rw [decide_eq_false hpq];exact h) hx hy
theorem g_geqT {x y : Operand} {t t' : TypeId} {k : IntKind} {p q : Int} (hk : Kn df n a l) (h : R (.bool true) w)
  (hx : ev l x = some (.int k p) := by rfl) (hy : ev l y = some (.int k q) := by rfl) (hpq : q ≤ p) : Gives P ⟨dst, .binOp .geq t x y t', ty, pos, af, g⟩ a w R :=
 g_geq hk (by rw [decide_eq_true hpq];exact h) hx hy
theorem g_geqF {x y : Operand} {t t' : TypeId} {k : IntKind} {p q : Int} (hk : Kn df n a l) (h : R (.bool false) w)
  (hx : ev l x = some (.int k p) := by rfl) (hy : ev l y = some (.int k q) := by rfl) (hpq : ¬ q ≤ p) : Gives P ⟨dst, .binOp .geq t x y t', ty, pos, af, g⟩ a w R :=
 g_geq hk (by rw [decide_eq_false hpq];exact h) hx hy
theorem g_gtrT {x y : Operand} {t t' : TypeId} {k : IntKind} {p q : Int} (hk : Kn df n a l) (h : R (.bool true) w)
  (hx : ev l x = some (.int k p) := by rfl) (hy : ev l y = some (.int k q) := by rfl) (hpq : q < p) : Gives P ⟨dst, .binOp .gtr t x y t', ty, pos, af, g⟩ a w R :=
 g_gtr hk (by rw [decide_eq_true hpq];exact h) hx hy
theorem g_gtrF {x y : Operand} {t t' : TypeId} {k : IntKind} {p q : Int} (hk : Kn df n a l) (h : R (.bool false) w)
  (hx : ev l x = some (.int k p) := by rfl) (hy : ev l y = some (.int k q) := by rfl) (hpq : ¬ q < p) : Gives P ⟨dst, .binOp .gtr t x y t', ty, pos, af, g⟩ a w R :=
 g_gtr hk (by rw [decide_eq_false hpq];exact h) hx hy
theorem g_eqiE {x y : Operand} {t t' : TypeId} {k : IntKind} {p q : Int} (hk : Kn df n a l) (h : R (.bool true) w)
  (hx : ev l x = some (.int k p) := by rfl) (hy : ev l y = some (.int k q) := by rfl) (hpq : p = q) : Gives P ⟨dst, .binOp .eql t x y t', ty, pos, af, g⟩ a w R :=
 g_eqi hk (by rw [decide_eq_true hpq];exact h) hx hy
theorem g_eqiF {x y : Operand} {t t' : TypeId} {k : IntKind} {p q : Int} (hk : Kn df n a l) (h : R (.bool false) w)
  (hx : ev l x = some (.int k p) := by rfl) (hy : ev l y = some (.int k q) := by rfl) (hpq : ¬ p = q) : Gives P ⟨dst, .binOp .eql t x y t', ty, pos, af, g⟩ a w R :=
 g_eqi hk (by rw [decide_eq_false hpq];exact h) hx hy
theorem g_neiT {x y : Operand} {t t' : TypeId} {k : IntKind} {p q : Int} (hk : Kn df n a l) (h : R (.bool true) w)
  (hx : ev l x = some (.int k p) := by rfl) (hy : ev l y = some (.int k q) := by rfl) (hpq : ¬ p = q) : Gives P ⟨dst, .binOp .neq t x y t', ty, pos, af, g⟩ a w R :=
 g_nei hk (by rw [decide_eq_false hpq];exact h) hx hy
theorem g_neiF {x y : Operand} {t t' : TypeId} {k : IntKind} {p q : Int} (hk : Kn df n a l) (h : R (.bool false) w)
  (hx : ev l x = some (.int k p) := by rfl) (hy : ev l y = some (.int k q) := by rfl) (hpq : p = q) : Gives P ⟨dst, .binOp .neq t x y t', ty, pos, af, g⟩ a w R :=
 g_nei hk (by rw [decide_eq_true hpq];exact h) hx hy
theorem same (v : Value) (w : World) : v = v ∧ St w [] w := ⟨rfl, St.refl w⟩
end
end Go.Proofs.YtbpkddpkcnlmhaaGreat
namespace Go.Proofs.YtbpkddpkcnlmhaaGreat
variable {df : List Deferred}
open Go.RowKit
inductive SK where
 | int (k : IntKind)
 | bool
 | str
def stepF (P : Program) (fl : TypeId → Option (List SK)) (acc : Option (Nat × List SK)) (f : Field) : Option (Nat × List SK) :=
 match acc with
 | none => none
 | some (off, ks) => match fl f.type with
  | none => none
  | some k1 => bif (!(f.name == "_") && Nat.beq f.offset off && (match szOf P f.type with | some s => Nat.beq s k1.length | none => false) && (aggOf P f.type).isSome && ((aggOf P f.type).getD true || Nat.beq k1.length 1)) then some (off + k1.length, ks ++ k1) else none
def flatT (P : Program) : Nat → TypeId → Option (List SK)
 | 0, _ => none
 | d + 1, T => match P.underlying T with
  | some .bool => some [.bool]
  | some (.int k) => some [.int k]
  | some .string => some [.str]
  | some (.struct fs) => bif P.stoodInHeld T then none else (fs.toList.foldl (stepF P (flatT P d)) (some (0, []))).map (·.2)
  | _ => none
def shp : List SK → List Value → Bool
 | [], [] => true
 | .int k :: ks, .int k' _ :: vs => decide (k = k') && shp ks vs
 | .bool :: ks, .bool _ :: vs => shp ks vs
 | .str :: ks, .string _ :: vs => shp ks vs
 | _, _ => false
def eqC : List Value → List Value → Bool
 | .int _ a :: r, .int _ b :: s => (a == b) && eqC r s
 | .bool a :: r, .bool b :: s => (a == b) && eqC r s
 | .string a :: r, .string b :: s => (a == b) && eqC r s
 | _, _ => true
theorem shp_len : ∀ {ks : List SK} {vs : List Value}, shp ks vs = true → vs.length = ks.length
 | [], [], _ => rfl
 | [], _ :: _, h => by simp [shp] at h
 | .int k :: ks, [], h => by simp [shp] at h
 | .bool :: ks, [], h => by simp [shp] at h
 | .str :: ks, [], h => by simp [shp] at h
 | .int k :: ks, v :: vs, h => by cases v <;> simp [shp] at h;simp [shp_len h.2]
 | .bool :: ks, v :: vs, h => by cases v <;> simp [shp] at h;simp [shp_len h]
 | .str :: ks, v :: vs, h => by cases v <;> simp [shp] at h;simp [shp_len h]
theorem shp_app : ∀ {k1 k2 : List SK} {vs : List Value}, shp (k1 ++ k2) vs = true → shp k1 (vs.take k1.length) = true ∧ shp k2 (vs.drop k1.length) = true
 | [], k2, vs, h => ⟨by simp [shp], by simpa using h⟩
 | .int k :: k1, k2, [], h => by simp [shp] at h
 | .bool :: k1, k2, [], h => by simp [shp] at h
 | .str :: k1, k2, [], h => by simp [shp] at h
 | .int k :: k1, k2, v :: vs, h => by
  cases v <;> simp [shp] at h
  obtain ⟨h1, h2⟩ := shp_app h.2
  exact ⟨by simp [shp, h.1, h1], by simpa using h2⟩
 | .bool :: k1, k2, v :: vs, h => by
  cases v <;> simp [shp] at h
  obtain ⟨h1, h2⟩ := shp_app h
  exact ⟨by simp [shp, h1], by simpa using h2⟩
 | .str :: k1, k2, v :: vs, h => by
  cases v <;> simp [shp] at h
  obtain ⟨h1, h2⟩ := shp_app h
  exact ⟨by simp [shp, h1], by simpa using h2⟩
theorem shp_int {k : IntKind} {vs : List Value} (h : shp [.int k] vs = true) : ∃ p, vs = [.int k p] := by
 cases vs with
 | nil => simp [shp] at h
 | cons v vs =>
  cases v <;> simp [shp] at h
  have := shp_len h.2
  simp at this
  exact ⟨_, by rw [h.1, this]⟩
theorem shp_bool {vs : List Value} (h : shp [.bool] vs = true) : ∃ p, vs = [.bool p] := by
 cases vs with
 | nil => simp [shp] at h
 | cons v vs =>
  cases v <;> simp [shp] at h
  have := shp_len h
  simp at this
  exact ⟨_, by rw [this]⟩
theorem shp_str {vs : List Value} (h : shp [.str] vs = true) : ∃ p, vs = [.string p] := by
 cases vs with
 | nil => simp [shp] at h
 | cons v vs =>
  cases v <;> simp [shp] at h
  have := shp_len h
  simp at this
  exact ⟨_, by rw [this]⟩
section
variable {P : Program}
def partV (P : Program) (T : TypeId) (us : List Value) : Option Value :=
 match aggOf P T with
 | some true => some (.agg us.toArray)
 | some false => us[0]?
 | none => none
variable {a : Act} {w : World} {n : Nat} {l : List (Nat × Value)} {dst : Option Nat} {R : Value → World → Prop} {ty : TypeId} {pos : String} {af : Array Edge} {g : Option (Nat × Bool)}
end
end Go.Proofs.YtbpkddpkcnlmhaaGreat
namespace Go.Proofs.YtbpkddpkcnlmhaaGreat
open Go.ChangeShapes Go.WideShapes Go.ChangeAt Go.RowKit
def Rdg (P : Program) (W : World) : Nat → TypeId → List Value → Prop
 | 0, _, _ => True
 | D + 1, T, cs => match P.underlying T with
  | some .bool => ∃ b, cs = [.bool b]
  | some (.int k) => ∃ n, cs = [.int k n] ∧ k.min ≤ n ∧ n ≤ k.max
  | some .string => ∃ s : ByteArray, cs = [.string s] ∧ s.size ≤ maxLen
  | some (.slice e) => ∃ v, cs = [v] ∧ (v = .slice none 0 0 ∨ ∃ a len cap, v = .slice (some a) len cap ∧ len ≤ cap ∧ cap ≤ maxLen ∧
    ∀ i, i < len → ∃ us : List Value, us.length = P.cellsOf e ∧ (∀ j u, us[j]? = some u → W.cell? ((a.add (i * P.cellsOf e)).add j) = some u) ∧ Rdg P W D e us)
  | some (.struct fs) => cs.length = P.cellsOf T ∧ ∀ f ∈ fs.toList, Rdg P W D f.type ((cs.drop f.offset).take (P.cellsOf f.type))
  | _ => True
theorem cells?_get {w : World} {base : Nat} {a : Addr} {n : Nat} {us : List Value} (h : w.cells? base a n = some us) : us.length = n ∧ ∀ j u, us[j]? = some u → w.cell? (a.add j) = some u := by
 unfold World.cells? at h
 split at h
 ·have h1 : us.length = n := by simpa using mapM_some_length h
  refine ⟨h1, fun j u hj => ?_⟩
  have hjn : j < n := by
   rcases Nat.lt_or_ge j us.length with h' | h'
   ·omega
   ·rw [List.getElem?_eq_none h'] at hj;cases hj
  have := mapM_some_get h j j (by simp [hjn])
  rw [this, hj]
 ·cases h
theorem rdg_of_trod {H : Type} {enc : TypeId × Value → H} {P : Program} {W : World} {base : Nat} {spare : Nat → Bool} {held : Bool} : ∀ (fuel D : Nat) (T : TypeId) (cs : List Value) (d : DataW H) (ps : List MemPlace),
  DataW.trod enc P W base spare held fuel T cs = some (d, ps) → Rdg P W D T cs
 | 0, _, _, _, _, _, h => by simp [DataW.trod] at h
 | fuel + 1, 0, _, _, _, _, _ => trivial
 | fuel + 1, D + 1, T, cs, d, ps, h => by
  unfold Rdg
  cases hu : P.underlying T with
  | none => trivial
  | some dsc =>
   cases dsc <;> first | trivial | skip
   case bool =>
    obtain ⟨b, hb, _⟩ := DataW.trod_bool hu h
    exact ⟨b, hb⟩
   case int k =>
    obtain ⟨n, hn, _, hw⟩ := DataW.trod_int hu h
    simp only [Lit.wf, Bool.and_eq_true, decide_eq_true_eq] at hw
    exact ⟨n, hn, hw⟩
   case string =>
    obtain ⟨s, hs, _, hl⟩ := DataW.trod_string hu h
    exact ⟨s, hs, hl⟩
   case slice e =>
    rcases DataW.trod_slice hu h with ⟨hc, _⟩ | ⟨a, len, cap, elems, rest, n, hfu, hc, _, _, hl, hm, hel, hget, _⟩
    ·exact ⟨_, hc, .inl rfl⟩
    ·refine ⟨_, hc, .inr ⟨a, len, cap, rfl, hl, hm, fun i hi => ?_⟩⟩
     have h1 := hget i hi
     have hx : elems[i]? = some (elems[i]'(by omega)) := List.getElem?_eq_getElem (by omega)
     rw [hx, Option.bind_eq_some_iff] at h1
     obtain ⟨us, hus, htr⟩ := h1
     obtain ⟨hlen, hcell⟩ := cells?_get hus
     have hfn : fuel = n := by omega
     subst hfn
     exact ⟨us, hlen, hcell, rdg_of_trod fuel D e us _ _ htr⟩
   case struct fs =>
    obtain ⟨xs, n, hfu, _, hl, hlen, hget⟩ := DataW.trod_struct hu h
    refine ⟨hl, fun f hf => ?_⟩
    obtain ⟨i, hi⟩ := List.getElem?_of_mem hf
    have hi' : fs[i]? = some f := by simpa using hi
    have hlt : i < fs.size := by
     rcases Nat.lt_or_ge i fs.size with h' | h'
     ·exact h'
     ·rw [Array.getElem?_eq_none h'] at hi';cases hi'
    have h1 := hget i f hi'
    have hx : xs[i]? = some (xs[i]'(by omega)) := List.getElem?_eq_getElem (by omega)
    rw [hx] at h1
    have hfn : fuel = n := by omega
    subst hfn
    exact rdg_of_trod fuel D f.type _ _ _ h1
def Arg (P : Program) (W : World) (T : TypeId) (v : Value) : Prop := Rdg P W 8 T v.cells.toList ∧ (aggOf P T = some true → ∃ cs : List Value, v = .agg cs.toArray) ∧ (aggOf P T = some false → v.cells = #[v])
theorem arg_of {H : Type} {enc : TypeId × Value → H} {P : Program} {W : World} {base : Nat} {T : TypeId} {v : Value} {d : DataW H} {ps : List MemPlace} (hv : Value.okWide P W .any base T v) (h : DataW.Trod enc P W 0 (fun _ => true) true T v d ps) : Arg P W T v := by
 obtain ⟨fuel, hf⟩ := h
 refine ⟨rdg_of_trod fuel 8 T _ _ _ hf, fun ha => ?_, fun ha => ?_⟩
 rotate_left
 ·unfold aggOf at ha
  unfold Value.okWide at hv
  cases hu : P.underlying T with
  | none => rw [hu] at ha;cases ha
  | some dsc =>
   rw [hu] at ha hv
   cases v <;> first
    | rfl
    | (cases dsc <;> first | (simp at ha;done) | (simp [Cell.okWide, Cell.ok, hu] at hv;done))
 unfold aggOf at ha
 unfold Value.okWide at hv
 cases hu : P.underlying T with
 | none => rw [hu] at ha;cases ha
 | some dsc =>
  rw [hu] at ha hv
  cases dsc <;> first
   | (simp at ha;done)
   | (obtain ⟨cs, h1, _⟩ := hv;exact ⟨cs.toList, by simpa using h1⟩)
def Args (P : Program) (W : World) : List TypeId → List Value → Prop
 | [], [] => True
 | t :: ts, v :: vs => Arg P W t v ∧ Args P W ts vs
 | _, _ => False
theorem args_of {H : Type} {enc : TypeId × Value → H} {P : Program} {W : World} {base : Nat} : ∀ {ts : List TypeId} {vs : List Value} {ds : List (DataW H)} {ps : List MemPlace},
  (∀ (j : Nat) t v, ts[j]? = some t → vs[j]? = some v → Value.okWide P W .any base t v) → DataW.TrodAll enc P W 0 (fun _ => true) true ts vs ds ps → Args P W ts vs
 | [], [], _, _, _, _ => trivial
 | t :: ts, v :: vs, d :: ds, ps, hok, ⟨p, q, h1, h2, _⟩ => ⟨arg_of (hok 0 t v rfl rfl) h1, args_of (fun j t' v' ht hv => hok (j + 1) t' v' (by simpa using ht) (by simpa using hv)) h2⟩
 | [], _ :: _, _, _, _, h => h.elim
 | _ :: _, [], _, _, _, h => h.elim
 | _ :: _, _ :: _, [], _, _, h => h.elim
theorem args_cons {P : Program} {W : World} {t : TypeId} {ts : List TypeId} {vs : List Value} (h : Args P W (t :: ts) vs) : ∃ v vs', vs = v :: vs' ∧ Arg P W t v ∧ Args P W ts vs' := by
 cases vs with
 | nil => exact h.elim
 | cons v vs => exact ⟨v, vs, rfl, h.1, h.2⟩
theorem args_nil {P : Program} {W : World} {vs : List Value} (h : Args P W [] vs) : vs = [] := by
 cases vs with
 | nil => rfl
 | cons v vs => exact h.elim
theorem args1 {P : Program} {W : World} {t : TypeId} {vs : List Value} (h : Args P W [t] vs) : ∃ a, vs = [a] ∧ Arg P W t a := by
 obtain ⟨a, r, rfl, ha, h⟩ := args_cons h
 rw [args_nil h];exact ⟨a, rfl, ha⟩
theorem args2 {P : Program} {W : World} {t u : TypeId} {vs : List Value} (h : Args P W [t, u] vs) : ∃ a b, vs = [a, b] ∧ Arg P W t a ∧ Arg P W u b := by
 obtain ⟨a, r, rfl, ha, h⟩ := args_cons h
 obtain ⟨b, rfl, hb⟩ := args1 h
 exact ⟨a, b, rfl, ha, hb⟩
theorem args3 {P : Program} {W : World} {t u x : TypeId} {vs : List Value} (h : Args P W [t, u, x] vs) : ∃ a b c, vs = [a, b, c] ∧ Arg P W t a ∧ Arg P W u b ∧ Arg P W x c := by
 obtain ⟨a, r, rfl, ha, h⟩ := args_cons h
 obtain ⟨b, c, rfl, hb, hc⟩ := args2 h
 exact ⟨a, b, c, rfl, ha, hb, hc⟩
theorem trodAll_stays {H : Type} {enc : TypeId × Value → H} {P : Program} (hl : laidOutB P = true) {W W' : World} (hb : Below W.heap.size W W') : ∀ {ts : List TypeId} {vs : List Value} {ds : List (DataW H)} {ps : List MemPlace},
  (ts.all fun t => P.readableRec t && Nat.blt t P.types.size) = true → (∀ x ∈ ps, x.block < W.heap.size) → DataW.TrodAll enc P W 0 (fun _ => true) true ts vs ds ps → DataW.TrodAll enc P W' 0 (fun b => decide (b < W.heap.size)) true ts vs ds ps
 | [], [], [], _, _, _, h => h
 | t :: ts, v :: vs, d :: ds, ps, hr, hlt, ⟨p, q, h1, h2, h3⟩ => by
  simp only [List.all_cons, Bool.and_eq_true] at hr
  subst h3
  have ht : t < P.types.size := by
   have : t + 1 ≤ P.types.size := by simpa [Nat.blt, Nat.ble_eq] using hr.1.2
   exact this
  exact ⟨p, q, Below.trod hl hr.1.1 ht h1 hb (fun x hx => hlt x (by simp [hx])), trodAll_stays hl hb hr.2 (fun x hx => hlt x (by simp [hx])) h2, rfl⟩
 | [], _ :: _, _, _, _, _, h => h.elim
 | [], [], _ :: _, _, _, _, h => h.elim
 | _ :: _, [], _, _, _, _, h => h.elim
 | _ :: _, _ :: _, [], _, _, _, h => h.elim
theorem law_contractX (X : World → Prop) {H : Type} {enc : TypeId × Value → H} {P : Program} {f : FuncId} {fn : Func} {s : ChangeSpec} {tb : TypeId} (hl : laidOutB P = true) (hr : (fn.params.toList.all fun t => P.readableRec t && Nat.blt t P.types.size) = true)
  (hb : fn.resultTypes = #[tb]) (hbool : P.underlying tb = some .bool) (hvars : s.vars = [])
  (hspec : ∀ ds : List (DataW H), ds.length = fn.params.size → s.fn H (ds ++ []) = { results := [.lit (.bool true)], args := ds, vars := [] })
  (walk : ∀ (W : World) (vs : List Value), X W → Args P W fn.params.toList vs → Calls P f vs.toArray W (Ret fun v w => v = .bool true ∧ St W [] w))
  (W : World) (hX : X W) (base : Nat) (args : Array Value) (ds gs : List (DataW H)) (before : List MemPlace)
  (hok : ∀ (j : Nat) t v, fn.params[j]? = some t → args[j]? = some v → Value.okWide P W .any base t v)
  (hW : DataW.Whole enc P fn.params.toList s.vars false W args.toList ds gs before) :
  Calls P f args W fun e W' => ∃ v, e = .returned v ∧ s.post enc P fn false true false false W args v W' := by
 have hlt := hW.lt
 have hW' := hW
 obtain ⟨p, q, hA, hV, hpq, _, _⟩ := hW
 have hgs : gs = [] ∧ q = [] := by
  rw [hvars] at hV
  cases gs with
  | nil => exact ⟨rfl, hV⟩
  | cons g gs => exact hV.elim
 obtain ⟨rfl, rfl⟩ := hgs
 have hlen : ds.length = fn.params.size := by
  have : ∀ {ts : List TypeId} {vs : List Value} {ds : List (DataW H)} {ps : List MemPlace}, DataW.TrodAll enc P W 0 (fun _ => true) true ts vs ds ps → ds.length = ts.length := by
   intro ts
   induction ts with
   | nil => intro vs ds ps h;cases vs <;> cases ds <;> first | rfl | exact h.elim
   | cons t ts ih =>
    intro vs ds ps h
    cases vs with
    | nil => exact h.elim
    | cons v vs =>
     cases ds with
     | nil => exact h.elim
     | cons d ds => obtain ⟨_, _, _, h2, _⟩ := h;simp [ih h2]
  simpa using this hA
 have hargs := args_of (fun j t v ht hv => hok j t v (by simpa using ht) (by simpa using hv)) hA
 have hc := walk W args.toList hX hargs
 simp only [Array.toArray_toList] at hc
 refine hc.mono fun e W' ⟨v, he, hv, hS⟩ => ⟨v, he, ?_⟩
 subst hv
 have hsp := hspec ds hlen
 refine ⟨ds, [], before, [], p, [], hW', ?_, ?_, ?_, hS.below.frame _, fun h => by cases h⟩
 ·rw [hsp, hb]
  exact trodAll_mk1 (shut_bool hbool true)
 ·rw [hsp]
  have : before = p := by simpa using hpq
  subst this
  exact trodAll_stays hl hS.below hr (fun x hx => hlt x hx) hA
 ·rw [hsp, hvars]
  exact rfl
theorem law_contract {H : Type} {enc : TypeId × Value → H} {P : Program} {f : FuncId} {fn : Func} {s : ChangeSpec} {tb : TypeId} (hl : laidOutB P = true) (hr : (fn.params.toList.all fun t => P.readableRec t && Nat.blt t P.types.size) = true)
  (hb : fn.resultTypes = #[tb]) (hbool : P.underlying tb = some .bool) (hvars : s.vars = [])
  (hspec : ∀ ds : List (DataW H), ds.length = fn.params.size → s.fn H (ds ++ []) = { results := [.lit (.bool true)], args := ds, vars := [] })
  (walk : ∀ (W : World) (vs : List Value), Args P W fn.params.toList vs → Calls P f vs.toArray W (Ret fun v w => v = .bool true ∧ St W [] w))
  (W : World) (base : Nat) (args : Array Value) (ds gs : List (DataW H)) (before : List MemPlace)
  (hok : ∀ (j : Nat) t v, fn.params[j]? = some t → args[j]? = some v → Value.okWide P W .any base t v)
  (hW : DataW.Whole enc P fn.params.toList s.vars false W args.toList ds gs before) :
  Calls P f args W fun e W' => ∃ v, e = .returned v ∧ s.post enc P fn false true false false W args v W' :=
 law_contractX (fun _ => True) hl hr hb hbool hvars hspec (fun W vs _ h => walk W vs h) W trivial base args ds gs before hok hW
theorem cellsOf_sz {P : Program} {T k : Nat} (h : szOf P T = some k) : P.cellsOf T = k := by
 unfold szOf at h
 unfold Program.cellsOf
 rw [h];rfl
end Go.Proofs.YtbpkddpkcnlmhaaGreat
namespace Go.Proofs.YtbpkddpkcnlmhaaGreat
variable {df : List Deferred}
open Go.RowKit
def blk : Value → Nat
 | .slice (some a) _ _ => a.block
 | _ => 0
def offs : Value → Nat
 | .slice (some a) _ _ => a.off
 | _ => 0
def Slr (k n : Nat) (v : Value) (cs : List Value) (w : World) : Prop :=
 cs.length = n * k ∧ n ≤ maxLen ∧ ((v = .slice none 0 0 ∧ n = 0) ∨ ∃ a cap, v = .slice (some a) n cap ∧ n ≤ cap ∧ cap ≤ maxLen ∧ ∀ j u, cs[j]? = some u → a.spot = none ∧ w.cell? ⟨a.block, a.off + j, none⟩ = some u)
theorem Slr.frz {k n : Nat} {v : Value} {cs : List Value} {w w' : World} (h : Slr k n v cs w) (hb : Frz w w') : Slr k n v cs w' := by
 obtain ⟨h1, h2, h3⟩ := h
 refine ⟨h1, h2, ?_⟩
 rcases h3 with h3 | ⟨a, cap, hv, hc, hm, hcell⟩
 ·exact .inl h3
 ·refine .inr ⟨a, cap, hv, hc, hm, fun j u hj => ?_⟩
  obtain ⟨hs, hcl⟩ := hcell j u hj
  exact ⟨hs, Frz.cell hb hcl⟩
theorem St.slr {w0 : Bs} {w : World} {L : List HP} (hS : St w0 L w) {k n : Nat} {v : Value} {cs : List Value} (h : Slr k n v cs w0.g) : Slr k n v cs w := h.frz hS.frz
theorem Slr.cells {k n : Nat} {v : Value} {cs : List Value} {w : World} (h : Slr k n v cs w) {i : Nat} : Cells (blk v) (offs v + i * k) ((cs.drop (i * k)).take k) w := by
 obtain ⟨h1, h2, h3⟩ := h
 intro j u hj
 rw [List.getElem?_take] at hj
 split at hj
 ·rw [List.getElem?_drop] at hj
  rcases h3 with ⟨rfl, rfl⟩ | ⟨a, cap, rfl, _, _, hcell⟩
  ·have : cs = [] := List.eq_nil_of_length_eq_zero (by simpa using h1)
   subst this;simp at hj
  ·have := (hcell _ u hj).2
   simp only [blk, offs]
   rw [show a.off + i * k + j = a.off + (i * k + j) by omega]
   exact this
 ·cases hj
def ints (xs : List Int) : List Value := xs.map (Value.int .i64)
def slo (E : TypeId) (k n : Nat) (v : Value) (cs : List Value) : HP where
 holds F w := cs.length = n * k ∧ n ≤ maxLen ∧ ((v = .slice none 0 0 ∧ n = 0) ∨
  ∃ b off cap cur, v = .slice (some ⟨b, off, none⟩) n cap ∧ F b ∧ (∀ c, F c → c = b) ∧ w.heap[b]? = some (.cells cur E (0, 0)) ∧ n ≤ cap ∧ cap ≤ maxLen ∧ off + cap * k ≤ cur.size ∧ ∀ j u, cs[j]? = some u → cur[off + j]? = some u) ∧
  (∀ c, F c → c < w.heap.size)
 stable := fun F w w' ⟨h1, h2, h3, h4⟩ h => ⟨h1, h2, by
  rcases h3 with h3 | ⟨b, off, cap, cur, hv, hF, hF', hb, hn, hc, hs, hcell⟩
  ·exact .inl h3
  ·exact .inr ⟨b, off, cap, cur, hv, hF, hF', by rw [h b hF];exact hb, hn, hc, hs, hcell⟩, fun c hc => by
   have := h c hc
   have hlt := h4 c hc
   rcases Nat.lt_or_ge c w'.heap.size with h' | h'
   ·exact h'
   ·rw [Array.getElem?_eq_none h', Array.getElem?_eq_getElem hlt] at this;cases this⟩
 dom := fun F w c ⟨_, _, _, h4⟩ hc => h4 c hc
theorem slo.slr {E k n : Nat} {v : Value} {cs : List Value} {w : World} (h : (slo E k n v cs).rd w) : Slr k n v cs w := by
 obtain ⟨F, h1, h2, h3, _⟩ := h
 refine ⟨h1, h2, ?_⟩
 rcases h3 with h3 | ⟨b, off, cap, cur, hv, hF, hF', hb, hn, hc, hs, hcell⟩
 ·exact .inl h3
 ·refine .inr ⟨_, cap, hv, hn, hc, fun j u hj => ⟨rfl, ?_⟩⟩
  rw [cell_of_row w b (off + j) _ E _ hb]
  exact hcell j u hj
theorem slo_nil (E k : Nat) (w : World) : (slo E k 0 (.slice none 0 0) []).holds (fun _ => False) w := ⟨by simp, by simp [maxLen], .inl ⟨rfl, rfl⟩, fun _ h => h.elim⟩
theorem St.conv {w0 : Bs} {w : World} {L L' : List HP} {A : HP} {As : List HP} (h : St w0 L w) (hat : At A L L') (hc : ∀ F, A.holds F w → ∃ G : Nat → Prop, (∀ b, G b → F b) ∧ Sep As G w) : St w0 (As ++ L') w :=
 h.change hat (fun F hF => by
  obtain ⟨G, hG, hs⟩ := hc F hF
  exact ⟨rfl, rfl, rfl, Nat.le_refl _, fun _ _ _ => rfl, G, fun b hb => ⟨.inl (hG b hb), A.dom F w b hF (hG b hb)⟩, hs⟩)
theorem St.ownNil {w0 : Bs} {w : World} {L : List HP} (h : St w0 L w) (E k : Nat) : St w0 (slo E k 0 (.slice none 0 0) [] :: L) w :=
 h.call ⟨Below.refl _ _, Frz.refl _, fun _ => False, fun _ h => h.elim, Sep.one (slo_nil E k w)⟩
theorem St.ptsOwn {w0 : Bs} {w : World} {L L' : List HP} {E k n b : Nat} {us : List Value} (h : St w0 L w) (hat : At (pts b us E) L L') (hl : us.length = n * k) (hn : n ≤ maxLen) : St w0 (slo E k n (.slice (some ⟨b, 0, none⟩) n n) us :: L') w :=
 h.conv (As := [_]) hat (fun F hF => ⟨F, fun _ h => h, Sep.one ⟨hl, hn, .inr ⟨b, 0, n, us.toArray, rfl, hF.1, hF.2.1, hF.2.2, Nat.le_refl _, hn, by simp [hl], fun j u hj => by simpa using hj⟩, fun c hc => (pts b us E).dom F w c hF hc⟩⟩)
theorem St.ownPts {w0 : Bs} {w : World} {L L' : List HP} {E k n b off cap : Nat} {cs : List Value} (h : St w0 L w) (hat : At (slo E k n (.slice (some ⟨b, off, none⟩) n cap) cs) L L') :
  ∃ vs : List Value, St w0 (pts b vs E :: L') w ∧ off + cap * k ≤ vs.length ∧ n ≤ cap ∧ cap ≤ maxLen ∧ cs.length = n * k ∧ ∀ j u, cs[j]? = some u → vs[off + j]? = some u := by
 obtain ⟨F0, h1, h2, h3, h4⟩ := h.rd hat
 rcases h3 with ⟨hv, _⟩ | ⟨b', off', cap', cur, hv, hF, hF', hb, hn, hc, hs, hcell⟩
 ·cases hv
 ·simp only [Value.slice.injEq, Option.some.injEq, Addr.mk.injEq] at hv
  obtain ⟨⟨e1, e2, _⟩, _, e3⟩ := hv
  subst e1;subst e2;subst e3
  refine ⟨cur.toList, ?_, by simpa using hs, hn, hc, h1, fun j u hj => by simpa using hcell j u hj⟩
  refine h.conv (As := [_]) hat (fun F hF2 => ⟨F, fun _ h => h, Sep.one ?_⟩)
  obtain ⟨_, _, g3, _⟩ := hF2
  rcases g3 with ⟨hv, _⟩ | ⟨b', off', cap', cur', hv, gF, gF', gb, _⟩
  ·cases hv
  ·simp only [Value.slice.injEq, Option.some.injEq, Addr.mk.injEq] at hv
   obtain ⟨⟨e1, _, _⟩, _, _⟩ := hv
   subst e1
   exact ⟨gF, gF', by simpa using hb⟩
theorem splice_len : ∀ (us : List Value) (o : Nat) (vs : List Value), (splice vs o us).length = vs.length
 | [], _, _ => rfl
 | u :: us, o, vs => by simp [splice, splice_len us]
theorem splice_get : ∀ (us : List Value) (o : Nat) (vs : List Value) (j : Nat), o + us.length ≤ vs.length → (splice vs o us)[j]? = if o ≤ j ∧ j < o + us.length then us[j - o]? else vs[j]?
 | [], o, vs, j, _ => by
  have : ¬ (o ≤ j ∧ j < o + 0) := by omega
  simp only [splice, List.length_nil]
  rw [if_neg this]
 | u :: us, o, vs, j, h => by
  simp only [splice]
  rw [splice_get us (o + 1) (vs.set o u) j (by simp at h ⊢;omega)]
  simp only [List.length_cons] at h ⊢
  by_cases h1 : o + 1 ≤ j ∧ j < o + 1 + us.length
  ·rw [if_pos h1, if_pos (by omega)]
   rw [show j - o = (j - (o + 1)) + 1 by omega]
   simp
  ·rw [if_neg h1]
   by_cases h2 : j = o
   ·subst h2
    rw [if_pos (by omega)]
    simp [show j < vs.length by omega]
   ·rw [if_neg (by omega), List.getElem?_set_ne (by omega)]
theorem byOf_info {P : Program} {E k : Nat} {z : Value} (hs : szOf P E = some k) (hz : zeroOf P E = some z) : ∃ i, P.info? E = some i ∧ i.size = k ∧ i.zero = some z := by
 unfold szOf at hs
 unfold zeroOf at hz
 cases hi : P.info? E with
 | none => rw [hi] at hs;simp at hs
 | some i => rw [hi] at hs hz;simp at hs hz;exact ⟨i, rfl, hs, hz⟩
section
variable {P : Program} {a : Act} {w w' : World} {w0 : Bs} {n : Nat} {l : List (Nat × Value)} {L L' : List HP}
 {dst : Option Nat} {R : Value → World → Prop} {ty : TypeId} {pos : String} {af : Array Edge} {g : Option (Nat × Bool)}
theorem g_lenSl {x : Operand} {t : TypeId} {k m : Nat} {v : Value} {cs : List Value} (hk : Kn df n a l) (hs : Slr k m v cs w) (h : R (.int .i64 m) w) {E : Nat} (ht : elOf P t = some E)
  (hx : ev l x = some v := by rfl) : Gives P ⟨dst, .call { callee := .builtin .len, args := #[x], argTypes := #[t] }, ty, pos, af, g⟩ a w R := by
 have hv : ∃ ao c, v = .slice ao m c := by
  rcases hs.2.2 with ⟨rfl, rfl⟩ | ⟨a, c, rfl, _⟩
  ·exact ⟨_, _, rfl⟩
  ·exact ⟨_, _, rfl⟩
 obtain ⟨ao, c, rfl⟩ := hv
 refine givesv (v := .int .i64 m) ?_ h
 simp [execOp, resolve, invoke, builtin, hk.eval hx, Builtin.len_, run_underlying (elOf_und ht), goInt]
theorem g_lenSt {x : Operand} {t : TypeId} {s : ByteArray} (hk : Kn df n a l) (h : R (.int .i64 s.size) w) (ht : P.underlying t = some .string)
  (hx : ev l x = some (.string s) := by rfl) : Gives P ⟨dst, .call { callee := .builtin .len, args := #[x], argTypes := #[t] }, ty, pos, af, g⟩ a w R := by
 refine givesv (v := .int .i64 s.size) ?_ h
 simp [execOp, resolve, invoke, builtin, hk.eval hx, Builtin.len_, run_underlying ht, goInt]
theorem g_index {x y : Operand} {t : TypeId} {k m i : Nat} {v : Value} {cs : List Value} {E : Nat} {kk : IntKind} (hk : Kn df n a l) (hs : Slr (k + 1) m v cs w) (hi : i < m) (h : R (.pointer (some ⟨blk v, offs v + i * (k + 1), none⟩)) w)
  (ht : elOf P t = some E) (hE : szOf P E = some (k + 1)) (hx : ev l x = some v := by rfl) (hy : ev l y = some (.int kk (i : Int)) := by rfl) :
  Gives P ⟨dst, .indexAddr t x y, ty, pos, af, g⟩ a w R := by
 rcases hs.2.2 with ⟨rfl, rfl⟩ | ⟨ad, c, rfl, _, _, hcell⟩
 ·omega
 ·have hlt : i * (k + 1) < cs.length := by
   rw [hs.1]
   exact Nat.mul_lt_mul_of_pos_right hi (by omega)
  obtain ⟨hsp, _⟩ := hcell (i * (k + 1)) _ (List.getElem?_eq_getElem hlt)
  obtain ⟨b, o, sp⟩ := ad
  simp only at hsp
  subst hsp
  refine givesv (v := .pointer (some ⟨b, o + i * (k + 1), none⟩)) ?_ h
  have hi0 : (0 : Int) ≤ (i : Int) ∧ (i : Int) < (m : Int) := ⟨by omega, by omega⟩
  simp [execOp, hk.eval hx, hk.eval hy, Instr.indexAt, run_underlying (elOf_und ht), asIntOf, hi, szOf_run hE, addr_add]
def zerosL (z : Value) (m k : Nat) : List Value := (List.range (m * k)).map (fun i => z.cells[i % z.cells.size]!)
theorem g_buildSlice {T E k m : Nat} {parts : List (Nat × Operand)} {vals : List (Nat × Value)} {z : Value} {us : List Value} (hk : Kn df n a l) (hS : St w0 L w)
  (h : ∀ w' v, St w0 (slo E (k + 1) (m + 1) v us :: L) w' → R v w')
  (hT : elOf P T = some E) (hE : szOf P E = some (k + 1)) (hz : zeroOf P E = some z)
  (hp : evP l parts = some vals := by rfl) (hb : bldP (fun i => some (i * (k + 1), k + 1)) (zerosL z (m + 1) (k + 1)) vals = some us := by rfl) (hl : us.length = (m + 1) * (k + 1) := by rfl) (hm : Nat.ble ((m + 1) * (k + 1)) 16777216 = true := by rfl) :
  Gives P ⟨dst, .buildSlice T (m + 1) parts.toArray, ty, pos, af, g⟩ a w R := by
 have hm' := Nat.le_of_ble_eq_true hm
 have hle : m + 1 ≤ maxLen := by
  have : m + 1 ≤ (m + 1) * (k + 1) := Nat.le_mul_of_pos_right _ (by omega)
  simp only [maxLen];omega
 refine givesv (v := .slice (some ⟨w.heap.size, 0, none⟩) (m + 1) (m + 1)) (w' := w.alloc (.cells us.toArray E)) ?_ (h _ _ ((hS.alloc us E).ptsOwn At.here hl hle))
 have he := evP_map hk hp
 have h3 := fill_bldP (fun i => some (i * (k + 1), k + 1)) vals ((Array.range ((m + 1) * (k + 1))).map (fun i => z.cells[i % z.cells.size]!)) us (by simpa [zerosL] using hb)
 have hne : ¬ (m + 1) * (k + 1) = 0 := by have := Nat.mul_pos (show 0 < m + 1 by omega) (show 0 < k + 1 by omega);omega
 simp only [execOp, Instr.buildSlice, Sem.run_bind, run_underlying (elOf_und hT), Result.andThen_ok, szOf_run hE, List.map_toArray, he]
 have hng : ¬ (2 ^ 24 < (m + 1) * (k + 1)) := by omega
 simp [hng, hne, zeroOf_run hz, h3, newRow]
theorem g_append {x y : Operand} {t tx : TypeId} {E k m q : Nat} {v y0 z : Value} {cs news : List Value} (hk : Kn df n a l) (hS : St w0 L w) (hsrc : Src P (k + 1) tx y0 q news w)
  (h : ∀ w' v', St w0 (slo E (k + 1) (m + q) v' (cs ++ news) :: L') w' → R v' w')
  (hT : elOf P t = some E) (hE : szOf P E = some (k + 1)) (hz : zeroOf P E = some z) (hzs : z.cells.size = k + 1) (h63 : m + q ≤ maxLen) {by_ : Nat} (hby : ((P.info? E).map (·.bytes)).getD 0 = by_) (hbytes : (m + q) * by_ ≤ 140737488355328)
  (hx : ev l x = some v := by rfl) (hy : ev l y = some y0 := by rfl)
  (hat : At (slo E (k + 1) m v cs) L L' := by (repeat (first | exact At.here | apply At.there))) :
  Gives P ⟨dst, .call { callee := .builtin .append, args := #[x, y], argTypes := #[t, tx] }, ty, pos, af, g⟩ a w R := by
 obtain ⟨i, hi, his, hiz⟩ := byOf_info hE hz
 have hib : i.bytes = by_ := by rw [hi] at hby;exact hby
 obtain ⟨F0, h1, h2, h3, h4⟩ := hS.rd hat
 have run : ∀ {v' : Value} {w' : World}, (Builtin.append_ #[t, tx] ty #[v, y0]).run P w = .ok v' w' → R v' w' → Gives P ⟨dst, .call { callee := .builtin .append, args := #[x, y], argTypes := #[t, tx] }, ty, pos, af, g⟩ a w R := by
  intro v' w' hr hR
  refine givesv (v := v') ?_ hR
  simp [execOp, resolve, invoke, builtin, hk.eval hx, hk.eval hy, hr]
 -- a new row
 have fresh : ∀ (base : Option Addr) (cap : Nat), v = .slice base m cap → cap < m + q → (Builtin.firstCells i.size m (.slice base m cap)).run P w.drew = .ok cs.toArray w.drew → Gives P ⟨dst, .call { callee := .builtin .append, args := #[x, y], argTypes := #[t, tx] }, ty, pos, af, g⟩ a w R := by
  intro base cap hv hcap hold
  subst hv
  have hsmall : m + q ≤ 9223372036854775807 := by simp only [maxLen] at h63;omega
  have hr := run_append_grow_src (P := P) w t tx ty E i z (elOf_und hT) hi hiz base m cap cs hold y0 q news (by rw [his];exact hsrc) hcap (by omega) (growslice_fits hcap (by rw [hib];exact hbytes))
  refine run hr (h _ _ ?_)
  have hge := grownCap_ge w (m + q) cap E
  have hcm := grownCap_le_maxLen w (m + q) cap E h63
  generalize hgc : grownCap w (m + q) cap E = gc at *
  have hal := hS.drew.alloc ((cs ++ news) ++ (Builtin.zeroCells z.cells (gc - (m + q))).toList) E
  have hww : (w.drew.alloc (.cells ((cs ++ news) ++ (Builtin.zeroCells z.cells (gc - (m + q))).toList).toArray E)) = w.drew.alloc (.cells ((cs ++ news).toArray ++ Builtin.zeroCells z.cells (gc - (m + q))) E) := by
   congr 2
   apply Array.ext'
   simp
  rw [hww] at hal
  have hlen : (cs ++ news).length = (m + q) * (k + 1) := by rw [List.length_append, h1, hsrc.newsLen, Nat.add_mul]
  have hc1 := hal.conv (As := [slo E (k + 1) (m + q) (.slice (some ⟨w.heap.size, 0, none⟩) (m + q) gc) (cs ++ news)]) At.here (fun F hF => ⟨F, fun _ h => h, Sep.one ⟨hlen, h63, .inr ⟨w.heap.size, 0, gc, _, rfl, hF.1, hF.2.1, hF.2.2, hge, hcm, ?_, fun j u hj => ?_⟩, fun c hc => (pts _ _ E).dom F _ c hF hc⟩⟩)
  ·obtain ⟨L2, hat2⟩ : ∃ L2, L2 = L' := ⟨_, rfl⟩
   subst hat2
   refine hc1.sub ?_
   exact .cons At.here (by
    have : ∀ {A : HP} {X Y : List HP}, At A X Y → Sub Y X := by
     intro A X Y h
     induction h with
     | here => exact Sub.cons_drop
     | there _ ih => exact .cons At.here ih
    exact this hat)
  ·have e1 : z.cells.size = k + 1 := hzs
   rw [List.size_toArray, List.length_append, hlen, Array.length_toList, size_zeroCells, e1, ← Nat.add_mul, Nat.zero_add]
   rw [show m + q + (gc - (m + q)) = gc by omega]
   exact Nat.le_refl _
  ·have hlt : j < (cs ++ news).length := by
    rcases Nat.lt_or_ge j (cs ++ news).length with h' | h'
    ·exact h'
    ·rw [List.getElem?_eq_none h'] at hj;cases hj
   rw [Nat.zero_add, List.getElem?_toArray, List.getElem?_append_left hlt]
   exact hj
 rcases h3 with ⟨hv, hm0⟩ | ⟨b, off, cap, cur, hv, hF, hF', hb, hn, hc, hs, hcell⟩
 ·subst hv;subst hm0
  have hcs : cs = [] := List.eq_nil_of_length_eq_zero (by simpa using h1)
  subst hcs
  by_cases hq : q = 0
  ·subst hq
   have hnews : news = [] := List.eq_nil_of_length_eq_zero (by simpa using hsrc.newsLen)
   subst hnews
   have hr : (Builtin.append_ #[t, tx] ty #[.slice none 0 0, y0]).run P w = .ok (.slice none 0 0) w := by
    rcases hsrc.kind with ⟨e', hk'⟩ | hk' <;> simp [Builtin.append_, run_underlying (elOf_und hT), run_underlying hk', sizeOf, typeInfo, hi, hsrc.len, his, hsrc.cells]
   refine run hr (h _ _ ?_)
   exact hS.sub (.cons hat .refl)
  ·exact fresh none 0 rfl (by omega) (by simp [Builtin.firstCells])
 ·subst hv
  by_cases hroom : m + q ≤ cap
  ·obtain ⟨vs, hP, hvl, _, hcm, _, hvs⟩ := hS.ownPts hat
   have hnl := hsrc.newsLen
   have hfit : off + m * (k + 1) + news.length ≤ vs.length := by
    rw [hnl]
    have : (m + q) * (k + 1) ≤ cap * (k + 1) := Nat.mul_le_mul_right _ hroom
    rw [Nat.add_mul] at this
    omega
   obtain ⟨w', hr, hS'⟩ := run_storeCells_own (P := P) news (off + m * (k + 1)) 0 vs w hP At.here hsrc.one (by simpa using hfit)
   have hr2 : (Builtin.append_ #[t, tx] ty #[.slice (some ⟨b, off, none⟩) m cap, y0]).run P w = .ok (.slice (some ⟨b, off, none⟩) (m + q) cap) w' := by
    rcases hsrc.kind with ⟨e', hk'⟩ | hk' <;> simp [Builtin.append_, run_underlying (elOf_und hT), run_underlying hk', sizeOf, typeInfo, hi, hsrc.len, hroom, his, hsrc.cells, addr_add, hr]
   refine run hr2 (h _ _ ?_)
   simp only [Nat.add_zero] at hS'
   refine hS'.conv (As := [_]) At.here (fun F hF => ⟨F, fun _ h => h, Sep.one ⟨by rw [List.length_append, h1, hnl, Nat.add_mul], h63, .inr ⟨b, off, cap, _, rfl, hF.1, hF.2.1, hF.2.2, hroom, hcm, by rw [List.size_toArray, splice_len];exact hvl, fun j u hj => ?_⟩, fun c hc => (pts _ _ E).dom F _ c hF hc⟩⟩)
   rw [List.getElem?_toArray, splice_get _ _ _ _ hfit]
   by_cases hjc : j < cs.length
   ·rw [List.getElem?_append_left hjc] at hj
    rw [if_neg (by rw [h1] at hjc;omega)]
    exact hvs j u hj
   ·rw [List.getElem?_append_right (by omega)] at hj
    have hjn : j - cs.length < news.length := by
     rcases Nat.lt_or_ge (j - cs.length) news.length with h' | h'
     ·exact h'
     ·rw [List.getElem?_eq_none h'] at hj;cases hj
    rw [h1] at hj hjn hjc
    rw [if_pos (by omega)]
    rw [show off + j - (off + m * (k + 1)) = j - m * (k + 1) by omega]
    exact hj
  ·refine fresh _ cap rfl (by omega) ?_
   rw [his]
   refine run_firstCells_some w.drew (k + 1) m ⟨b, off, none⟩ m cap cs h1 (fun j u hj => ?_)
   rw [addr_add]
   have := cell_of_row w b (off + j) _ E _ hb
   show w.cell? ⟨b, off + j, none⟩ = some u
   rw [this]
   exact hcell j u hj
end
end Go.Proofs.YtbpkddpkcnlmhaaGreat
