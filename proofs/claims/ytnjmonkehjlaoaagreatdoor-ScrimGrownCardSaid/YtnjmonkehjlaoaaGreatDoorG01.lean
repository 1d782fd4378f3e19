/- A region that draws its order: one proof an operation, in any world that a former operation may have left, serves every order. -/
import Derived.Test.YtnjmonkehjlaoaaGreatDoorG00
set_option linter.all false
namespace Go.Proofs.YtnjmonkehjlaoaaGreatDoor
variable {df : List Deferred}
open Go.RowKit
def pureH (q : Prop) : HP where
 holds F _ := (∀ b, ¬ F b) ∧ q
 stable := fun _ _ _ h _ => h
 dom := fun _ _ b h hb => absurd hb (h.1 b)
inductive HV where
 | val (c : Value)
 | res (V : Value → HP)
 | upd (A : HP) (V : Value → HP)
 | cpy (k : Nat)
 | dep (j : Nat) (V : Value → Value → HP)
 | fn (js : List Nat) (f : List Value → Value)
 | lnd (j : Nat) (p : Value → Prop) (V : Value → HP)
 | tak (k : Nat) (T : List HP) (A V : Value → HP)
def HV.own (us : Nat → Value) : HV → Option (Value → HP)
 | .val _ => none
 | .cpy _ => none
 | .fn _ _ => none
 | .res V => some V
 | .upd _ V => some V
 | .dep j V => some (V (us j))
 | .lnd _ p _ => some (fun v => pureH (p v))
 | .tak _ _ _ V => some V
def HV.srcs : HV → List Nat
 | .cpy k => [k]
 | .dep k _ => [k]
 | .fn js _ => js
 | .tak k _ _ _ => [k]
 | _ => []
def HV.isTak : HV → Bool
 | .tak _ _ _ _ => true
 | _ => false
def HV.isLnd : HV → Bool
 | .lnd _ _ _ => true
 | _ => false
def HV.preU (us : Nat → Value) : HV → List HP
 | .upd A _ => [A]
 | .tak k T A _ => A (us k) :: T
 | _ => []
def HV.pre : HV → List HP
 | .upd A _ => [A]
 | .tak _ T _ _ => T
 | _ => []
def HV.of (h : Option HV) (us : Nat → Value) (i : Nat) : Value :=
 match h with
 | some (.val c) => c
 | some (.cpy k) => us k
 | some (.fn js f) => f (js.map us)
 | _ => us i
def lastIn (S : Nat → Bool) (os : List Oper) : Nat → Nat → Option Nat
 | 0, _ => none
 | i + 1, t => if (S i && ((os[i]?).bind (·.dst) == some t)) = true then some i else lastIn S os i t
def lastW (os : List Oper) : Nat → Nat → Option Nat := lastIn (fun _ => true) os
def curW (os : List Oper) (l : List (Nat × Value)) (H : List HV) (i : Nat) (us : Nat → Value) (t : Nat) : Option Value :=
 match lastW os i t with
 | some k => some (HV.of H[k]? us k)
 | none => lk l t
def vwL (os : List Oper) (l : List (Nat × Value)) (H : List HV) (i : Nat) (us : Nat → Value) : List Nat → List (Nat × Value)
 | [] => []
 | t :: r => match curW os l H i us t with
  | some v => (t, v) :: vwL os l H i us r
  | none => vwL os l H i us r
def vw (os : List Oper) (l : List (Nat × Value)) (H : List HV) (i : Nat) (o : Oper) (us : Nat → Value) : List (Nat × Value) :=
 vwL os l H i us (o.looksAt os.toArray)
def depRd (os : List Oper) (H : List HV) (i : Nat) (us : Nat → Value) (w : World) : List Nat → Prop
 | [] => True
 | t :: r => (match lastW os i t with
   | some k => match (H[k]?).bind (HV.own us) with
    | some V => (V (us k)).rd w
    | none => True
   | none => True) ∧ depRd os H i us w r
def depRd2 (os : List Oper) (H : List HV) (i : Nat) (us : Nat → Value) (w : World) (ts : List Nat) : Prop :=
 ∀ t ∈ ts, ∀ k, lastW os i t = some k → ∀ hv, H[k]? = some hv → ∀ j ∈ hv.srcs, ∀ V, (H[j]?).bind (HV.own us) = some V → (V (us j)).rd w
def HV.ok (h : HV) (us : Nat → Value) (w0 : Bs) (X : List HP) (w : World) (v : Value) (w' : World) : Prop :=
 match h with
 | .val c => v = c ∧ St w [] w'
 | .res V => St w [V v] w'
 | .upd _ V => St w0 (V v :: X) w'
 | .cpy k => v = us k ∧ St w [] w'
 | .fn js f => v = f (js.map us) ∧ St w [] w'
 | .dep j V => St w [V (us j) v] w'
 | .lnd _ p V => St w [V v, pureH (p v)] w'
 | .tak _ _ _ V => St w0 (V v :: X) w'
def Ob (df : List Deferred) (P : Program) (n : Nat) (os : List Oper) (l : List (Nat × Value)) (w0 : Bs) (L : List HP) (i : Nat) (o : Oper) (H : List HV) (h : HV) : Prop :=
 ((∀ k ∈ h.srcs, ∃ t j, t ∈ o.looksAt os.toArray ∧ lastW os i t = some j ∧ (j = k ∨ ∃ hv, H[j]? = some hv ∧ k ∈ hv.srcs)) ∧ ∀ k T A V, h = .tak k T A V → ∃ p, H[k]? = some (.lnd i p A)) ∧
 ∀ (us : Nat → Value) (a : Act) (w : World) (X : List HP), Kn df n a (vw os l H i o us) → depRd os H i us w (o.looksAt os.toArray) → St w0 (h.preU us ++ X) w → Sub L X → depRd2 os H i us w (o.looksAt os.toArray) →
  (gdK os.toArray (vw os l H i o us) o.guard = some false ∧ h = .val undef) ∨
  (gdK os.toArray (vw os l H i o us) o.guard = some true ∧ Gives P o a w (h.ok us w0 X w))
def Obx (df : List Deferred) (P : Program) (n : Nat) (os : List Oper) (l : List (Nat × Value)) (w0 : Bs) (L : List HP) (Fin : List HV → Prop) : Nat → List Oper → List HV → Prop
 | _, [], H => Fin H
 | i, o :: r, H => ∃ h, Ob df P n os l w0 L i o H h ∧ Obx df P n os l w0 L Fin (i + 1) r (H ++ [h])
def finK (us : Nat → Value) : Nat → List Oper → List HV → List (Nat × Value) → List (Nat × Value)
 | i, o :: os, h :: H, l => finK us (i + 1) os H (putK o.dst (HV.of (some h) us i) l)
 | _, _, _, l => l
def resA (us : Nat → Value) : Nat → List HV → List HP → List HP
 | _, [], L => L
 | i, .val _ :: H, L => resA us (i + 1) H L
 | i, .cpy _ :: H, L => resA us (i + 1) H L
 | i, .fn _ _ :: H, L => resA us (i + 1) H L
 | i, .res V :: H, L => V (us i) :: resA us (i + 1) H L
 | i, .upd _ V :: H, L => V (us i) :: resA us (i + 1) H L
 | i, .dep j V :: H, L => V (us j) (us i) :: resA us (i + 1) H L
 | i, .lnd _ p _ :: H, L => pureH (p (us i)) :: resA us (i + 1) H L
 | i, .tak _ _ _ V :: H, L => V (us i) :: resA us (i + 1) H L
def toks : List HV → List HP → List HP
 | [], L => L
 | .upd A _ :: H, L => A :: toks H L
 | .val _ :: H, L => toks H L
 | .cpy _ :: H, L => toks H L
 | .fn _ _ :: H, L => toks H L
 | .res _ :: H, L => toks H L
 | .dep _ _ :: H, L => toks H L
 | .lnd _ _ _ :: H, L => toks H L
 | .tak _ T _ _ :: H, L => T ++ toks H L
def maskAt (o : Oper) (M : List Nat) : Nat := o.after.toList.foldl (fun s e => bif Region.binds .any e then s ||| 2 ^ e.on ||| M.getD e.on 0 else s) 0
def masksOf (os : List Oper) : List Nat := os.foldl (fun acc o => acc ++ [maskAt o acc]) []
def chkM (M : List Nat) (os : List Oper) (m : Nat) : Bool :=
 os.zipIdx.all fun (o, i) =>
  (M.getD i 0 == maskAt o M) && (o.after.all fun e => !Region.binds .any e || Nat.blt e.on i) &&
  (bif Nat.blt i m then
   (os.take m).zipIdx.all fun (p, k) => k == i || match p.dst with
    | none => true
    | some t => (!(o.looksAt os.toArray).contains t && !(o.dst == some t)) || (bif Nat.blt k i then (M.getD i 0).testBit k else (M.getD k 0).testBit i)
  else (List.range i).all fun j => (M.getD i 0).testBit j)
def chk (os : List Oper) (m n : Nat) : Bool := chkM (masksOf os) os m && Nat.ble m os.length && (os.take m).all fun o => okDst n o.dst
theorem testBit_or {x y j : Nat} (h : (x ||| y).testBit j = true) : x.testBit j = true ∨ y.testBit j = true := by
 rw [Nat.testBit_or, Bool.or_eq_true] at h;exact h
theorem maskAt_spec {M : List Nat} {j : Nat} : ∀ (es : List Edge) (s : Nat), (es.foldl (fun s e => bif Region.binds .any e then s ||| 2 ^ e.on ||| M.getD e.on 0 else s) s).testBit j = true →
  s.testBit j = true ∨ ∃ e ∈ es, Region.binds .any e = true ∧ (e.on = j ∨ (M.getD e.on 0).testBit j = true)
 | [], s, h => .inl h
 | e :: es, s, h => by
  simp only [List.foldl_cons] at h
  rcases maskAt_spec es _ h with h1 | ⟨e', he', hb, hj⟩
  ·cases hb : Region.binds .any e with
   | false => rw [hb] at h1;exact .inl h1
   | true =>
    rw [hb] at h1
    simp only [cond_true] at h1
    rcases testBit_or h1 with h2 | h2
    ·rcases testBit_or h2 with h3 | h3
     ·exact .inl h3
     ·refine .inr ⟨e, by simp, hb, .inl ?_⟩
      rw [Nat.testBit_two_pow] at h3
      simpa using h3
    ·exact .inr ⟨e, by simp, hb, .inr h2⟩
  ·exact .inr ⟨e', by simp [he'], hb, hj⟩
section
variable {P : Program} {n m : Nat} {os : List Oper} {l : List (Nat × Value)} {w0 : Bs} {L : List HP} {H : List HV} {M : List Nat}
theorem lastIn_spec {S : Nat → Bool} {t : Nat} : ∀ {i k : Nat}, lastIn S os i t = some k → k < i ∧ S k = true ∧ (os[k]?).bind (·.dst) = some t
 | 0, _, h => by simp [lastIn] at h
 | i + 1, k, h => by
  unfold lastIn at h
  split at h
  ·rename_i hc
   simp only [Bool.and_eq_true, beq_iff_eq] at hc
   injection h with h;subst h
   exact ⟨by omega, hc.1, hc.2⟩
  ·obtain ⟨h1, h2, h3⟩ := lastIn_spec h
   exact ⟨by omega, h2, h3⟩
theorem lastIn_view {S : Nat → Bool} {i t : Nat} (hi : S i = false) (h : ∀ k, k < m → k ≠ i → (os[k]?).bind (·.dst) = some t → (k < i → S k = true) ∧ (i < k → S k = false)) :
    ∀ j, j ≤ m → (j ≤ i → lastIn S os j t = lastW os j t) ∧ (i ≤ j → lastIn S os j t = lastW os i t)
  | 0, _ => ⟨fun _ => rfl, fun hj => by have : i = 0 := by omega
                                        subst this; rfl⟩
  | j + 1, hj => by
    obtain ⟨h1, h2⟩ := lastIn_view hi h j (by omega)
    have e1 : ∀ S', lastIn S' os (j + 1) t = if (S' j && ((os[j]?).bind (·.dst) == some t)) = true then some j else lastIn S' os j t := fun _ => rfl
    have first : j + 1 ≤ i → lastIn S os (j + 1) t = lastW os (j + 1) t := by
      intro hle
      rw [e1, lastW, e1, h1 (by omega)]
      by_cases hd : (os[j]?).bind (·.dst) = some t
      · rw [(h j (by omega) (by omega) hd).1 (by omega)]; rfl
      · have : ((os[j]?).bind (·.dst) == some t) = false := by simpa using hd
        rw [this]; simp [lastW]
    refine ⟨first, fun hle => ?_⟩
    rcases Nat.lt_or_ge j i with hlt | hge
    · have : i = j + 1 := by omega
      subst this
      exact first (Nat.le_refl _)
    · rw [e1, h2 hge]
      by_cases hd : (os[j]?).bind (·.dst) = some t
      · have hs : S j = false := by
          rcases Nat.lt_or_ge i j with hl | hl
          · exact (h j (by omega) (by omega) hd).2 hl
          · have : j = i := by omega
            rw [this]; exact hi
        rw [hs]; rfl
      · have : ((os[j]?).bind (·.dst) == some t) = false := by simpa using hd
        rw [this]; simp
theorem vwL_lk {i : Nat} {us : Nat → Value} : ∀ {ts : List Nat} {x : Nat} {v : Value}, lk (vwL os l H i us ts) x = some v → x ∈ ts ∧ curW os l H i us x = some v
 | [], _, _, h => by simp [vwL, lk] at h
 | t :: r, x, v, h => by
  unfold vwL at h
  cases hc : curW os l H i us t with
  | none => rw [hc] at h;obtain ⟨h1, h2⟩ := vwL_lk h;exact ⟨by simp [h1], h2⟩
  | some u =>
   rw [hc] at h
   by_cases hx : t = x
   ·subst hx
    simp only at h
    rw [lk_cons_same] at h
    exact ⟨by simp, by rw [hc];exact h⟩
   ·simp only at h
    rw [lk_cons_ne u _ hx] at h
    obtain ⟨h1, h2⟩ := vwL_lk h
    exact ⟨by simp [h1], h2⟩
def resS (S : Nat → Bool) (us : Nat → Value) : Nat → List HV → List HP → List HP
 | _, [], L => L
 | i, .val _ :: H, L => resS S us (i + 1) H L
 | i, .cpy _ :: H, L => resS S us (i + 1) H L
 | i, .fn _ _ :: H, L => resS S us (i + 1) H L
 | i, .res V :: H, L => bif S i then V (us i) :: resS S us (i + 1) H L else resS S us (i + 1) H L
 | i, .upd A V :: H, L => (bif S i then V (us i) else A) :: resS S us (i + 1) H L
 | i, .dep j V :: H, L => bif S i then V (us j) (us i) :: resS S us (i + 1) H L else resS S us (i + 1) H L
 | i, .lnd _ p _ :: H, L => bif S i then pureH (p (us i)) :: resS S us (i + 1) H L else resS S us (i + 1) H L
 | i, .tak k T A V :: H, L => bif S i then V (us i) :: resS S us (i + 1) H L else T ++ (bif S k then A (us k) :: resS S us (i + 1) H L else resS S us (i + 1) H L)
theorem At.pre {A : HP} {L L' : List HP} (h : At A L L') : ∀ T : List HP, At A (T ++ L) (T ++ L')
 | [] => h
 | _ :: T => At.there (At.pre h T)
theorem Sub.pre {L L' : List HP} (h : Sub L' L) : ∀ T : List HP, Sub L' (T ++ L)
 | [] => h
 | _ :: T => (Sub.pre h T).under
theorem Sub.preC {A : HP} {X Y : List HP} (h : Sub Y (A :: X)) : ∀ T : List HP, Sub (T ++ Y) (A :: (T ++ X))
 | [] => h
 | _ :: T => .cons (At.there At.here) (Sub.preC h T)
theorem Sub.preC2 {A B : HP} {X Y : List HP} (h : Sub Y (A :: B :: X)) : ∀ T : List HP, Sub (T ++ Y) (A :: B :: (T ++ X))
 | [] => h
 | _ :: T => .cons (At.there (At.there At.here)) (Sub.preC2 h T)
theorem At.swap {B : HP} {Y L1 : List HP} (h : At B Y L1) : ∀ {A : HP} {Z : List HP}, At A L1 Z → ∃ W, At A Y W ∧ At B W Z := by
 induction h with
 | here => intro A Z h2;exact ⟨_, .there h2, .here⟩
 | there h1 ih =>
  intro A Z h2
  cases h2 with
  | here => exact ⟨_, .here, h1⟩
  | there h3 =>
   obtain ⟨W, a1, a2⟩ := ih h3
   exact ⟨_, .there a1, .there a2⟩
theorem Sub.at' {X Y : List HP} (h : Sub X Y) : ∀ {A : HP} {X1 : List HP}, At A X X1 → ∃ Y1, At A Y Y1 ∧ Sub X1 Y1 := by
 induction h with
 | nil => intro A X1 h2;cases h2
 | refl => intro A X1 h2;exact ⟨_, h2, .refl⟩
 | cons hat h0 ih =>
  intro A X1 h2
  cases h2 with
  | here => exact ⟨_, hat, h0⟩
  | there h3 =>
   obtain ⟨Z, z1, z2⟩ := ih h3
   obtain ⟨W, w1, w2⟩ := hat.swap z1
   exact ⟨_, w1, .cons w2 z2⟩
theorem Sub.tr {X Y Z : List HP} (h : Sub X Y) (h' : Sub Y Z) : Sub X Z := by
 induction h generalizing Z with
 | nil => exact .nil
 | refl => exact h'
 | cons hat _ ih =>
  obtain ⟨Z', hz, hs⟩ := Sub.at' h' hat
  exact .cons hz (ih hs)
theorem Sub.mid {W R X : List HP} {U : HP} (h : Sub (W ++ X) R) : Sub (W ++ U :: X) (U :: R) :=
 (Sub.preC (A := U) (X := X) (Y := U :: X) .refl W).tr (.cons At.here h)
theorem Sub.midL {W R X : List HP} (h : Sub (W ++ X) R) : ∀ T : List HP, Sub (W ++ (T ++ X)) (T ++ R)
 | [] => h
 | _ :: T => Sub.mid (Sub.midL h T)
theorem resS_all {S : Nat → Bool} {us : Nat → Value} : ∀ {i : Nat} {H : List HV} {L : List HP}, (∀ k, i ≤ k → k < i + H.length → S k = true) → resS S us i H L = resA us i H L
 | _, [], _, _ => rfl
 | i, .val c :: H, L, h => by simp only [resS, resA];exact resS_all (fun k h1 h2 => h k (by omega) (by simp;omega))
 | i, .cpy c :: H, L, h => by simp only [resS, resA];exact resS_all (fun k h1 h2 => h k (by omega) (by simp;omega))
 | i, .fn c d :: H, L, h => by simp only [resS, resA];exact resS_all (fun k h1 h2 => h k (by omega) (by simp;omega))
 | i, .res V :: H, L, h => by
  simp only [resS, resA, h i (Nat.le_refl _) (by simp), cond_true]
  rw [resS_all (fun k h1 h2 => h k (by omega) (by simp;omega))]
 | i, .upd A V :: H, L, h => by
  simp only [resS, resA, h i (Nat.le_refl _) (by simp), cond_true]
  rw [resS_all (fun k h1 h2 => h k (by omega) (by simp;omega))]
 | i, .dep j V :: H, L, h => by
  simp only [resS, resA, h i (Nat.le_refl _) (by simp), cond_true]
  rw [resS_all (fun k h1 h2 => h k (by omega) (by simp;omega))]
 | i, .lnd c p d :: H, L, h => by
  simp only [resS, resA, h i (Nat.le_refl _) (by simp), cond_true]
  rw [resS_all (fun k h1 h2 => h k (by omega) (by simp;omega))]
 | i, .tak c T d V :: H, L, h => by
  simp only [resS, resA, h i (Nat.le_refl _) (by simp), cond_true]
  rw [resS_all (fun k h1 h2 => h k (by omega) (by simp;omega))]
theorem resS_none {S : Nat → Bool} {us : Nat → Value} : ∀ {i : Nat} {H : List HV} {L : List HP}, (∀ k, S k = false) → resS S us i H L = toks H L
 | _, [], _, _ => rfl
 | i, .val c :: H, L, h => by simp only [resS, toks];exact resS_none h
 | i, .cpy c :: H, L, h => by simp only [resS, toks];exact resS_none h
 | i, .fn c d :: H, L, h => by simp only [resS, toks];exact resS_none h
 | i, .res V :: H, L, h => by simp only [resS, toks, h i, cond_false];exact resS_none h
 | i, .upd A V :: H, L, h => by simp only [resS, toks, h i, cond_false];rw [resS_none h]
 | i, .dep j V :: H, L, h => by simp only [resS, toks, h i, cond_false];exact resS_none h
 | i, .lnd c p d :: H, L, h => by simp only [resS, toks, h i, cond_false];exact resS_none h
 | i, .tak c T d V :: H, L, h => by simp only [resS, toks, h i, h c, cond_false];rw [resS_none h]
theorem resS_mem {S : Nat → Bool} {us : Nat → Value} {V : Value → HP} : ∀ {i : Nat} {H : List HV} {L : List HP} {k : Nat}, S (i + k) = true → (H[k]?).bind (HV.own us) = some V → ∃ L', At (V (us (i + k))) (resS S us i H L) L'
 | _, [], _, _, _, h => by simp at h
 | i, x :: H, L, 0, hs, h => by
  simp only [Nat.add_zero] at hs ⊢
  cases x with
  | val c => simp [HV.own] at h
  | cpy c => simp [HV.own] at h
  | fn c d => simp [HV.own] at h
  | res U =>
   simp [HV.own] at h;subst h
   simp only [resS, hs, cond_true]
   exact ⟨_, At.here⟩
  | upd A U =>
   simp [HV.own] at h;subst h
   simp only [resS, hs, cond_true]
   exact ⟨_, At.here⟩
  | dep j U =>
   simp [HV.own] at h;subst h
   simp only [resS, hs, cond_true]
   exact ⟨_, At.here⟩
  | lnd c p d =>
   simp [HV.own] at h;subst h
   simp only [resS, hs, cond_true]
   exact ⟨_, At.here⟩
  | tak c T d U =>
   simp [HV.own] at h;subst h
   simp only [resS, hs, cond_true]
   exact ⟨_, At.here⟩
 | i, x :: H, L, k + 1, hs, h => by
  have h' : (H[k]?).bind (HV.own us) = some V := by simpa using h
  rw [show i + (k + 1) = i + 1 + k from by omega] at hs ⊢
  obtain ⟨L', hL⟩ := resS_mem (us := us) (i := i + 1) (L := L) hs h'
  cases x with
  | val c => exact ⟨_, hL⟩
  | cpy c => exact ⟨_, hL⟩
  | fn c d => exact ⟨_, hL⟩
  | res U =>
   simp only [resS]
   cases S i with
   | true => exact ⟨_, hL.there⟩
   | false => exact ⟨_, hL⟩
  | upd A U => exact ⟨_, hL.there⟩
  | dep j U =>
   simp only [resS]
   cases S i with
   | true => exact ⟨_, hL.there⟩
   | false => exact ⟨_, hL⟩
  | lnd c p d =>
   simp only [resS]
   cases S i with
   | true => exact ⟨_, hL.there⟩
   | false => exact ⟨_, hL⟩
  | tak c T d U =>
   simp only [resS]
   cases S i with
   | true => exact ⟨_, hL.there⟩
   | false =>
    cases S c with
    | true => exact ⟨_, hL.there.pre T⟩
    | false => exact ⟨_, hL.pre T⟩
theorem resS_sub {S : Nat → Bool} {us : Nat → Value} : ∀ {i : Nat} {H : List HV} {L : List HP}, Sub L (resS S us i H L)
 | _, [], _ => .refl
 | i, .val c :: H, L => resS_sub (i := i + 1)
 | i, .cpy c :: H, L => resS_sub (i := i + 1)
 | i, .fn c d :: H, L => resS_sub (i := i + 1)
 | i, .res V :: H, L => by
  simp only [resS]
  cases S i with
  | false => exact resS_sub (i := i + 1)
  | true => exact (resS_sub (i := i + 1)).under
 | i, .upd A V :: H, L => (resS_sub (i := i + 1)).under
 | i, .dep j V :: H, L => by
  simp only [resS]
  cases S i with
  | false => exact resS_sub (i := i + 1)
  | true => exact (resS_sub (i := i + 1)).under
 | i, .lnd c p d :: H, L => by
  simp only [resS]
  cases S i with
  | false => exact resS_sub (i := i + 1)
  | true => exact (resS_sub (i := i + 1)).under
 | i, .tak c T d V :: H, L => by
  simp only [resS]
  cases S i with
  | true => exact (resS_sub (i := i + 1)).under
  | false =>
   cases S c with
   | true => exact (resS_sub (i := i + 1)).under.pre T
   | false => exact (resS_sub (i := i + 1)).pre T
theorem taks_tl {p : Nat → Prop} {x : HV} {H : List HV} (h : ∀ (k j : Nat) (T : List HP) (A V : Value → HP), (x :: H)[k]? = some (HV.tak j T A V) → p j) : ∀ (k j : Nat) (T : List HP) (A V : Value → HP), H[k]? = some (HV.tak j T A V) → p j :=
 fun k j T A V hk => h (k + 1) j T A V (by simpa using hk)
theorem deps_tl {S : Nat → Bool} {p : Nat → Prop} {i : Nat} {x : HV} {H : List HV} (h : ∀ k j V, (x :: H)[k]? = some (HV.dep j V) → S (i + k) = true → p j) : ∀ k j V, H[k]? = some (HV.dep j V) → S (i + 1 + k) = true → p j :=
 fun k j V hk hs => h (k + 1) j V (by simpa using hk) (by rw [show i + (k + 1) = i + 1 + k by omega];exact hs)
theorem resS_congr {S S' : Nat → Bool} {us us' : Nat → Value} : ∀ {i : Nat} {H : List HV} {L : List HP}, (∀ k, i ≤ k → S k = S' k ∧ us k = us' k) → (∀ k j V, H[k]? = some (HV.dep j V) → S (i + k) = true → us j = us' j) → (∀ (k j : Nat) (T : List HP) (A V : Value → HP), H[k]? = some (HV.tak j T A V) → S j = S' j ∧ us j = us' j) → resS S us i H L = resS S' us' i H L
 | _, [], _, _, _, _ => rfl
 | i, .val c :: H, L, h, hd, ht => by simp only [resS];exact resS_congr (fun k hk => h k (by omega)) (deps_tl hd) (taks_tl ht)
 | i, .cpy c :: H, L, h, hd, ht => by simp only [resS];exact resS_congr (fun k hk => h k (by omega)) (deps_tl hd) (taks_tl ht)
 | i, .fn c d :: H, L, h, hd, ht => by simp only [resS];exact resS_congr (fun k hk => h k (by omega)) (deps_tl hd) (taks_tl ht)
 | i, .res V :: H, L, h, hd, ht => by
  simp only [resS, (h i (Nat.le_refl _)).1, (h i (Nat.le_refl _)).2]
  rw [resS_congr (fun k hk => h k (by omega)) (deps_tl hd) (taks_tl ht)]
 | i, .upd A V :: H, L, h, hd, ht => by
  simp only [resS, (h i (Nat.le_refl _)).1, (h i (Nat.le_refl _)).2]
  rw [resS_congr (fun k hk => h k (by omega)) (deps_tl hd) (taks_tl ht)]
 | i, .dep j V :: H, L, h, hd, ht => by
  have e1 := (h i (Nat.le_refl _)).1
  simp only [resS, (h i (Nat.le_refl _)).2]
  rw [resS_congr (fun k hk => h k (by omega)) (deps_tl hd) (taks_tl ht)]
  cases hs : S i with
  | false => simp only [cond_false, ← e1, hs]
  | true => rw [← e1, hs, hd 0 j V rfl (by simpa using hs)]
 | i, .lnd c p d :: H, L, h, hd, ht => by
  simp only [resS, (h i (Nat.le_refl _)).1, (h i (Nat.le_refl _)).2]
  rw [resS_congr (fun k hk => h k (by omega)) (deps_tl hd) (taks_tl ht)]
 | i, .tak c T d V :: H, L, h, hd, ht => by
  obtain ⟨e1, e2⟩ := ht 0 c T d V rfl
  simp only [resS, (h i (Nat.le_refl _)).1, (h i (Nat.le_refl _)).2, e1, e2]
  rw [resS_congr (fun k hk => h k (by omega)) (deps_tl hd) (taks_tl ht)]
theorem resS_add {S S' : Nat → Bool} {us us' : Nat → Value} {j : Nat} {hv : HV} {V : Value → HP} (hj : S j = false) (hj' : S' j = true) (hS : ∀ k, k ≠ j → S k = S' k ∧ us k = us' k) (hV : hv.own us' = some V) (hp : hv.pre = []) (hnt : hv.isTak = false) :
  ∀ {i k : Nat} {H : List HV} {L : List HP}, i + k = j → H[k]? = some hv → (∀ k j' V, H[k]? = some (HV.dep j' V) → S (i + k) = true → j' ≠ j) → (∀ (k j' : Nat) (T : List HP) (A V : Value → HP), H[k]? = some (HV.tak j' T A V) → j' ≠ j) → Sub (resS S' us' i H L) (V (us' j) :: resS S us i H L)
 | _, _, [], _, _, h, _, _ => by simp at h
 | i, 0, x :: H, L, hij, h, hd, ht => by
  simp at h;subst h
  have : i = j := by omega
  subst this
  have e := resS_congr (S := S) (S' := S') (us := us) (us' := us') (i := i + 1) (H := H) (L := L) (fun k hk => hS k (by omega)) (fun k j V hk hs => (hS j (deps_tl hd k j V hk hs)).2) (fun k j T A V hk => hS j (taks_tl ht k j T A V hk))
  cases x with
  | val c => cases hV
  | cpy c => cases hV
  | fn c d => cases hV
  | upd A U => cases hp
  | res U =>
   injection hV with hV;subst hV
   simp only [resS, hj, hj', cond_true, cond_false]
   rw [e]
   exact .refl
  | dep q U =>
   injection hV with hV;subst hV
   simp only [resS, hj, hj', cond_true, cond_false]
   rw [e]
   exact .refl
  | lnd c p d =>
   injection hV with hV;subst hV
   simp only [resS, hj, hj', cond_true, cond_false]
   rw [e]
   exact .refl
  | tak c T d U => cases hnt
 | i, k + 1, x :: H, L, hij, h, hd, ht => by
  have h' : H[k]? = some hv := by simpa using h
  have ih := resS_add hj hj' hS hV hp hnt (i := i + 1) (k := k) (L := L) (by omega) h' (deps_tl hd) (taks_tl ht)
  obtain ⟨e1, e2⟩ := hS i (by omega)
  cases x with
  | val c => exact ih
  | cpy c => exact ih
  | fn c d => exact ih
  | res U =>
   simp only [resS]
   rw [← e1, ← e2]
   cases S i with
   | false => exact ih
   | true => exact .cons (At.there At.here) ih
  | upd A U =>
   simp only [resS]
   rw [← e1, ← e2]
   exact .cons (At.there At.here) ih
  | dep q U =>
   simp only [resS]
   rw [← e1, ← e2]
   cases hs : S i with
   | false => exact ih
   | true =>
    rw [← (hS q (hd 0 q U rfl (by simpa using hs))).2]
    exact .cons (At.there At.here) ih
  | lnd c p d =>
   simp only [resS]
   rw [← e1, ← e2]
   cases S i with
   | false => exact ih
   | true => exact .cons (At.there At.here) ih
  | tak c T d U =>
   have hc := hS c (ht 0 c T d U rfl)
   simp only [resS]
   rw [← e1, ← e2, ← hc.1, ← hc.2]
   cases S i with
   | true => exact .cons (At.there At.here) ih
   | false =>
    cases S c with
    | true => exact Sub.preC (.cons (At.there At.here) ih) T
    | false => exact Sub.preC ih T
theorem resS_add_val {S S' : Nat → Bool} {us us' : Nat → Value} {j : Nat} {hv : HV} (hn : hv.own us = none) (hS : ∀ k, k ≠ j → S k = S' k ∧ us k = us' k) :
  ∀ {i k : Nat} {H : List HV} {L : List HP}, i + k = j → H[k]? = some hv → (∀ k j' V, H[k]? = some (HV.dep j' V) → S (i + k) = true → j' ≠ j) → (∀ (k j' : Nat) (T : List HP) (A V : Value → HP), H[k]? = some (HV.tak j' T A V) → j' ≠ j) → resS S' us' i H L = resS S us i H L
 | _, _, [], _, _, h, _, _ => by simp at h
 | i, 0, x :: H, L, hij, h, hd, ht => by
  simp at h;subst h
  have : i = j := by omega
  subst this
  have e := (resS_congr (S := S) (S' := S') (us := us) (us' := us') (i := i + 1) (H := H) (L := L) (fun k hk => hS k (by omega)) (fun k j V hk hs => (hS j (deps_tl hd k j V hk hs)).2) (fun k j T A V hk => hS j (taks_tl ht k j T A V hk))).symm
  cases x with
  | val c => exact e
  | cpy c => exact e
  | fn c d => exact e
  | res U => cases hn
  | upd A U => cases hn
  | dep q U => cases hn
  | lnd c p d => cases hn
  | tak c T d U => cases hn
 | i, k + 1, x :: H, L, hij, h, hd, ht => by
  have h' : H[k]? = some hv := by simpa using h
  have ih := resS_add_val hn hS (i := i + 1) (k := k) (L := L) (by omega) h' (deps_tl hd) (taks_tl ht)
  obtain ⟨e1, e2⟩ := hS i (by omega)
  cases x with
  | val c => exact ih
  | cpy c => exact ih
  | fn c d => exact ih
  | res U =>
   simp only [resS]
   rw [← e1, ← e2, ih]
  | upd A U =>
   simp only [resS]
   rw [← e1, ← e2, ih]
  | dep q U =>
   simp only [resS]
   rw [← e1, ← e2, ih]
   cases hs : S i with
   | false => rfl
   | true => rw [← (hS q (hd 0 q U rfl (by simpa using hs))).2]
  | lnd c p d =>
   simp only [resS]
   rw [← e1, ← e2, ih]
  | tak c T d U =>
   have hc := hS c (ht 0 c T d U rfl)
   simp only [resS]
   rw [← e1, ← e2, ← hc.1, ← hc.2, ih]
theorem resS_upd {S S' : Nat → Bool} {us : Nat → Value} {j : Nat} {A : HP} {V : Value → HP} (hj : S j = false) (hj' : S' j = true) (hS : ∀ k, k ≠ j → S k = S' k) :
  ∀ {i k : Nat} {H : List HV} {L : List HP}, i + k = j → H[k]? = some (.upd A V) → (∀ k j' V, H[k]? = some (HV.dep j' V) → S (i + k) = true → j' ≠ j) → (∀ (k j' : Nat) (T : List HP) (A V : Value → HP), H[k]? = some (HV.tak j' T A V) → j' ≠ j) → ∃ X, At A (resS S us i H L) X ∧ Sub L X ∧ ∀ us' : Nat → Value, (∀ k, k ≠ j → us k = us' k) → Sub (resS S' us' i H L) (V (us' j) :: X)
 | _, _, [], _, _, h, _, _ => by simp at h
 | i, 0, x :: H, L, hij, h, hd, ht => by
  simp at h;subst h
  have : i = j := by omega
  subst this
  simp only [resS, hj, hj', cond_true, cond_false]
  refine ⟨_, At.here, resS_sub, fun us' hu => ?_⟩
  rw [resS_congr (S := S) (S' := S') (us := us) (us' := us') (i := i + 1) (fun k hk => ⟨hS k (by omega), hu k (by omega)⟩) (fun k j V hk hs => hu j (deps_tl hd k j V hk hs)) (fun k j T A V hk => ⟨hS j (taks_tl ht k j T A V hk), hu j (taks_tl ht k j T A V hk)⟩)]
  exact .refl
 | i, k + 1, x :: H, L, hij, h, hd, ht => by
  have h' : H[k]? = some (.upd A V) := by simpa using h
  obtain ⟨X, h1, h2, h3⟩ := resS_upd hj hj' hS (i := i + 1) (k := k) (us := us) (L := L) (by omega) h' (deps_tl hd) (taks_tl ht)
  have e1 := hS i (by omega)
  cases x with
  | val c => exact ⟨X, h1, h2, h3⟩
  | cpy c => exact ⟨X, h1, h2, h3⟩
  | fn c d => exact ⟨X, h1, h2, h3⟩
  | res U =>
   simp only [resS]
   rw [← e1]
   cases S i with
   | false => exact ⟨X, h1, h2, h3⟩
   | true => exact ⟨_, h1.there, h2.under, fun us' hu => by rw [← hu i (by omega)];exact .cons (At.there At.here) (h3 us' hu)⟩
  | upd B U =>
   simp only [resS]
   rw [← e1]
   exact ⟨_, h1.there, h2.under, fun us' hu => by rw [← hu i (by omega)];exact .cons (At.there At.here) (h3 us' hu)⟩
  | dep q U =>
   simp only [resS]
   rw [← e1]
   cases hs : S i with
   | false => exact ⟨X, h1, h2, h3⟩
   | true => exact ⟨_, h1.there, h2.under, fun us' hu => by rw [← hu i (by omega), ← hu q (hd 0 q U rfl (by simpa using hs))];exact .cons (At.there At.here) (h3 us' hu)⟩
  | lnd c p d =>
   simp only [resS]
   rw [← e1]
   cases S i with
   | false => exact ⟨X, h1, h2, h3⟩
   | true => exact ⟨_, h1.there, h2.under, fun us' hu => by rw [← hu i (by omega)];exact .cons (At.there At.here) (h3 us' hu)⟩
  | tak c T d U =>
   have hc := ht 0 c T d U rfl
   simp only [resS]
   rw [← e1, ← hS c hc]
   cases S i with
   | true => exact ⟨_, h1.there, h2.under, fun us' hu => by rw [← hu i (by omega)];exact .cons (At.there At.here) (h3 us' hu)⟩
   | false =>
    cases S c with
    | true => exact ⟨_, h1.there.pre T, h2.under.pre T, fun us' hu => by rw [← hu c hc];exact Sub.preC (.cons (At.there At.here) (h3 us' hu)) T⟩
    | false => exact ⟨_, h1.pre T, h2.pre T, fun us' hu => Sub.preC (h3 us' hu) T⟩
theorem resS_tak {S S' : Nat → Bool} {us : Nat → Value} {j : Nat} {q0 : Nat} {T0 : List HP} {A V : Value → HP} (hj : S j = false) (hq0 : S q0 = true) (hj' : S' j = true) (hS : ∀ k, k ≠ j → S k = S' k) :
  ∀ {i k : Nat} {H : List HV} {L : List HP}, i + k = j → H[k]? = some (.tak q0 T0 A V) → (∀ k j' V, H[k]? = some (HV.dep j' V) → S (i + k) = true → j' ≠ j) → (∀ (k j' : Nat) (T : List HP) (A V : Value → HP), H[k]? = some (HV.tak j' T A V) → j' ≠ j) → ∃ X, Sub ((A (us q0) :: T0) ++ X) (resS S us i H L) ∧ Sub L X ∧ ∀ us' : Nat → Value, (∀ k, k ≠ j → us k = us' k) → Sub (resS S' us' i H L) (V (us' j) :: X)
 | _, _, [], _, _, h, _, _ => by simp at h
 | i, 0, x :: H, L, hij, h, hd, ht => by
  simp at h;subst h
  have : i = j := by omega
  subst this
  simp only [resS, hj, hj', hq0, cond_true, cond_false]
  refine ⟨resS S us (i + 1) H L, .cons (At.here.pre T0) .refl, resS_sub, fun us' hu => ?_⟩
  rw [resS_congr (S := S) (S' := S') (us := us) (us' := us') (i := i + 1) (fun k hk => ⟨hS k (by omega), hu k (by omega)⟩) (fun k j V hk hs => hu j (deps_tl hd k j V hk hs)) (fun k j T A V hk => ⟨hS j (taks_tl ht k j T A V hk), hu j (taks_tl ht k j T A V hk)⟩)]
  exact .refl
 | i, k + 1, x :: H, L, hij, h, hd, ht => by
  have h' : H[k]? = some (.tak q0 T0 A V) := by simpa using h
  obtain ⟨X, h1, h2, h3⟩ := resS_tak hj hq0 hj' hS (i := i + 1) (k := k) (us := us) (L := L) (by omega) h' (deps_tl hd) (taks_tl ht)
  have e1 := hS i (by omega)
  cases x with
  | val c => exact ⟨X, h1, h2, h3⟩
  | cpy c => exact ⟨X, h1, h2, h3⟩
  | fn c d => exact ⟨X, h1, h2, h3⟩
  | res U =>
   simp only [resS]
   rw [← e1]
   cases S i with
   | false => exact ⟨X, h1, h2, h3⟩
   | true => exact ⟨_, Sub.mid h1, h2.under, fun us' hu => by rw [← hu i (by omega)];exact .cons (At.there At.here) (h3 us' hu)⟩
  | upd B U =>
   simp only [resS]
   rw [← e1]
   exact ⟨_, Sub.mid h1, h2.under, fun us' hu => by rw [← hu i (by omega)];exact .cons (At.there At.here) (h3 us' hu)⟩
  | dep q U =>
   simp only [resS]
   rw [← e1]
   cases hs : S i with
   | false => exact ⟨X, h1, h2, h3⟩
   | true => exact ⟨_, Sub.mid h1, h2.under, fun us' hu => by rw [← hu i (by omega), ← hu q (hd 0 q U rfl (by simpa using hs))];exact .cons (At.there At.here) (h3 us' hu)⟩
  | lnd c p d =>
   simp only [resS]
   rw [← e1]
   cases S i with
   | false => exact ⟨X, h1, h2, h3⟩
   | true => exact ⟨_, Sub.mid h1, h2.under, fun us' hu => by rw [← hu i (by omega)];exact .cons (At.there At.here) (h3 us' hu)⟩
  | tak c T d U =>
   have hc := ht 0 c T d U rfl
   simp only [resS]
   rw [← e1, ← hS c hc]
   cases S i with
   | true => exact ⟨_, Sub.mid h1, h2.under, fun us' hu => by rw [← hu i (by omega)];exact .cons (At.there At.here) (h3 us' hu)⟩
   | false =>
    cases S c with
    | true => exact ⟨_, Sub.midL (Sub.mid h1) T, h2.under.pre T, fun us' hu => by rw [← hu c hc];exact Sub.preC (.cons (At.there At.here) (h3 us' hu)) T⟩
    | false => exact ⟨_, Sub.midL h1 T, h2.pre T, fun us' hu => Sub.preC (h3 us' hu) T⟩
theorem resS_lnd0 {S S' : Nat → Bool} {us us' : Nat → Value} {s c : Nat} {A : Value → HP} (hs : S s = false) (hs' : S' s = true) (hS : ∀ k, k ≠ s → S k = S' k ∧ us k = us' k) :
  ∀ {i : Nat} {H : List HV} {L : List HP}, (∀ (k : Nat) (x : HV), H[k]? = some x → i + k ≠ s) → (∀ k j' V, H[k]? = some (HV.dep j' V) → S (i + k) = true → j' ≠ s) → (∀ (k : Nat) (T : List HP) (A' V : Value → HP), H[k]? = some (HV.tak s T A' V) → i + k = c ∧ A' = A ∧ S c = false ∧ s < c) →
   Sub (resS S' us' i H L) (A (us' s) :: resS S us i H L)
 | _, [], _, _, _, _ => Sub.refl.under
 | i, x :: H, L, hl, hd, ht => by
  have ih := resS_lnd0 hs hs' hS (i := i + 1) (H := H) (L := L) (fun k x hk e => hl (k + 1) x (by simpa using hk) (by omega)) (deps_tl hd) (fun k T A' V hk => by obtain ⟨h1, h2⟩ := ht (k + 1) T A' V (by simpa using hk);exact ⟨by omega, h2⟩)
  have his : ¬ i = s := fun e => hl 0 x rfl (by omega)
  obtain ⟨e1, e2⟩ := hS i his
  cases x with
  | val a => exact ih
  | cpy a => exact ih
  | fn a b => exact ih
  | lnd a p b =>
   simp only [resS]
   rw [← e1, ← e2]
   cases S i with
   | false => exact ih
   | true => exact .cons (At.there At.here) ih
  | res U =>
   simp only [resS]
   rw [← e1, ← e2]
   cases S i with
   | false => exact ih
   | true => exact .cons (At.there At.here) ih
  | upd B U =>
   simp only [resS]
   rw [← e1, ← e2]
   exact .cons (At.there At.here) ih
  | dep q U =>
   simp only [resS]
   rw [← e1, ← e2]
   cases hsi : S i with
   | false => exact ih
   | true =>
    rw [← (hS q (hd 0 q U rfl (by simpa using hsi))).2]
    exact .cons (At.there At.here) ih
  | tak q T B U =>
   simp only [resS]
   rw [← e1, ← e2]
   by_cases hq : q = s
   ·subst hq
    obtain ⟨h1, rfl, hc, hsc⟩ := ht 0 T B U rfl
    have hi0 : S i = false := by rw [show i = c by omega];exact hc
    rw [hi0, hs, hs']
    simp only [cond_true, cond_false]
    have e := resS_congr (S := S) (S' := S') (us := us) (us' := us') (i := i + 1) (H := H) (L := L) (fun k hk => hS k (by omega)) (fun k j V hk hsk => (hS j (deps_tl hd k j V hk hsk)).2) (fun k j T A V hk => hS j (fun e => by
      subst e
      obtain ⟨h2, _⟩ := ht (k + 1) T A V (by simpa using hk)
      omega))
    rw [e]
    exact Sub.preC .refl T
   ·obtain ⟨f1, f2⟩ := hS q hq
    rw [← f1, ← f2]
    cases S i with
    | true => exact .cons (At.there At.here) ih
    | false =>
     cases S q with
     | true => exact Sub.preC (.cons (At.there At.here) ih) T
     | false => exact Sub.preC ih T
theorem resS_lnd {S S' : Nat → Bool} {us us' : Nat → Value} {s c : Nat} {p : Value → Prop} {A : Value → HP} (hs : S s = false) (hs' : S' s = true) (hS : ∀ k, k ≠ s → S k = S' k ∧ us k = us' k) :
  ∀ {i : Nat} {H : List HV} {L : List HP}, i ≤ s → (∀ (k : Nat) (x : HV), H[k]? = some x → i + k = s → ∃ a b, x = .lnd a p b) → (∀ k j' V, H[k]? = some (HV.dep j' V) → S (i + k) = true → j' ≠ s) → (∀ (k : Nat) (T : List HP) (A' V : Value → HP), H[k]? = some (HV.tak s T A' V) → i + k = c ∧ A' = A ∧ S c = false ∧ s < c) →
   Sub (resS S' us' i H L) (A (us' s) :: pureH (p (us' s)) :: resS S us i H L)
 | _, [], _, _, _, _, _ => Sub.refl.under.under
 | i, x :: H, L, hle, hl, hd, ht => by
  by_cases his : i = s
  ·obtain ⟨a, b, rfl⟩ := hl 0 x rfl (by omega)
   subst his
   simp only [resS, hs, hs', cond_true, cond_false]
   exact .cons (At.there At.here) (resS_lnd0 (c := c) hs hs' hS (i := i + 1) (H := H) (L := L) (fun k x _ e => by omega) (deps_tl hd) (fun k T A' V hk => by obtain ⟨h1, h2⟩ := ht (k + 1) T A' V (by simpa using hk);exact ⟨by omega, h2⟩))
  ·have ih := resS_lnd (c := c) (A := A) hs hs' hS (i := i + 1) (H := H) (L := L) (by omega) (fun k x hk e => hl (k + 1) x (by simpa using hk) (by omega)) (deps_tl hd) (fun k T A' V hk => by obtain ⟨h1, h2⟩ := ht (k + 1) T A' V (by simpa using hk);exact ⟨by omega, h2⟩)
   obtain ⟨e1, e2⟩ := hS i his
   cases x with
   | val a => exact ih
   | cpy a => exact ih
   | fn a b => exact ih
   | lnd a q b =>
    simp only [resS]
    rw [← e1, ← e2]
    cases S i with
    | false => exact ih
    | true => exact .cons (At.there (At.there At.here)) ih
   | res U =>
    simp only [resS]
    rw [← e1, ← e2]
    cases S i with
    | false => exact ih
    | true => exact .cons (At.there (At.there At.here)) ih
   | upd B U =>
    simp only [resS]
    rw [← e1, ← e2]
    exact .cons (At.there (At.there At.here)) ih
   | dep q U =>
    simp only [resS]
    rw [← e1, ← e2]
    cases hsi : S i with
    | false => exact ih
    | true =>
     rw [← (hS q (hd 0 q U rfl (by simpa using hsi))).2]
     exact .cons (At.there (At.there At.here)) ih
   | tak q T B U =>
    have hq : q ≠ s := fun e => by
     subst e
     obtain ⟨h1, _, _, h4⟩ := ht 0 T B U rfl
     omega
    obtain ⟨f1, f2⟩ := hS q hq
    simp only [resS]
    rw [← e1, ← e2, ← f1, ← f2]
    cases S i with
    | true => exact .cons (At.there (At.there At.here)) ih
    | false =>
     cases S q with
     | true => exact Sub.preC2 (.cons (At.there (At.there At.here)) ih) T
     | false => exact Sub.preC2 ih T
structure Inv (df : List Deferred) (n m : Nat) (os : List Oper) (l : List (Nat × Value)) (w0 : Bs) (L : List HP) (H : List HV) (M : List Nat) (listed : Array Bool) (us : Nat → Value) (a : Act) (w : World) : Prop where
 size : a.tmps.size = n
 defers : a.defers = df
 get : ∀ t v, (match lastIn (fun k => listed.getD k false) os m t with | some k => some (HV.of H[k]? us k) | none => lk l t) = some v → a.tmps.getD t undef = v
 st : St w0 (resS (fun k => listed.getD k false) us 0 H L) w
 pre : ∀ k, listed.getD k false = true → k < m
 shut : ∀ k j, listed.getD k false = true → (M.getD k 0).testBit j = true → listed.getD j false = true
 len : listed.size = os.length
 cp : ∀ k hv k1, listed.getD k false = true → H[k]? = some hv → k1 ∈ hv.srcs → listed.getD k1 false = true
structure Chk (n m : Nat) (os : List Oper) (M : List Nat) : Prop where
 mask : ∀ i o, os[i]? = some o → M.getD i 0 = maskAt o M
 edge : ∀ i o, os[i]? = some o → ∀ e ∈ o.after, Region.binds .any e = true → e.on < i
 look : ∀ i o, os[i]? = some o → i < m → ∀ k p t, os[k]? = some p → k < m → k ≠ i → p.dst = some t → (t ∈ o.looksAt os.toArray ∨ o.dst = some t) →
  (k < i → (M.getD i 0).testBit k = true) ∧ (i < k → (M.getD k 0).testBit i = true)
 tail : ∀ i o, os[i]? = some o → m ≤ i → ∀ j, j < i → (M.getD i 0).testBit j = true
 le : m ≤ os.length
 dst : ∀ i o, os[i]? = some o → i < m → okDst n o.dst = true
theorem Chk.of (h : chk os m n = true) : Chk n m os (masksOf os) := by
  unfold chk at h
  simp only [Bool.and_eq_true] at h
  obtain ⟨⟨h1, h2⟩, h3⟩ := h
  have hle : m ≤ os.length := Nat.le_of_ble_eq_true h2
  have hall := List.all_eq_true.1 h1
  have key : ∀ i o, os[i]? = some o → _ := fun i o ho => hall (o, i) (List.mem_zipIdx_iff_getElem?.2 ho)
  refine ⟨?_, ?_, ?_, ?_, hle, ?_⟩
  · intro i o ho
    have := key i o ho
    simp only [Bool.and_eq_true, beq_iff_eq] at this
    exact this.1.1
  · intro i o ho e he hb
    have := key i o ho
    simp only [Bool.and_eq_true] at this
    have h4 := this.1.2
    rw [Array.all_eq_true_iff_forall_mem] at h4
    have h5 := h4 e he
    rw [hb] at h5
    have h6 : Nat.blt e.on i = true := by simpa using h5
    have : e.on + 1 ≤ i := by simpa [Nat.blt, Nat.ble_eq] using h6
    omega
  · intro i o ho hi k p t hp hk hki hd hl
    have := key i o ho
    simp only [Bool.and_eq_true] at this
    have h4 := this.2
    have hb : Nat.blt i m = true := by simp [Nat.blt, Nat.ble_eq]; omega
    rw [hb, cond_true] at h4
    have hp' : (os.take m)[k]? = some p := by rw [List.getElem?_take, if_pos hk]; exact hp
    have h5 := (List.all_eq_true.1 h4) (p, k) (List.mem_zipIdx_iff_getElem?.2 hp')
    simp only [Bool.or_eq_true, beq_iff_eq] at h5
    rcases h5 with h5 | h5
    · exact absurd h5 hki
    · rw [hd] at h5
      simp only [Bool.or_eq_true, Bool.and_eq_true, Bool.not_eq_true', beq_eq_false_iff_ne, ne_eq] at h5
      rcases h5 with ⟨h6, h7⟩ | h5
      · rcases hl with hl | hl
        · have : (o.looksAt os.toArray).contains t = true := by simpa using hl
          rw [this] at h6; cases h6
        · exact absurd hl h7
      · constructor
        · intro hlt
          have : Nat.blt k i = true := by simp [Nat.blt, Nat.ble_eq]; omega
          rw [this, cond_true] at h5; exact h5
        · intro hlt
          have : Nat.blt k i = false := by
            cases hb : Nat.blt k i with
            | false => rfl
            | true => have : k + 1 ≤ i := by simpa [Nat.blt, Nat.ble_eq] using hb
                      omega
          rw [this, cond_false] at h5; exact h5
  · intro i o ho hi j hj
    have := key i o ho
    simp only [Bool.and_eq_true] at this
    have h4 := this.2
    have hb : Nat.blt i m = false := by
      cases hb : Nat.blt i m with
      | false => rfl
      | true => have : i + 1 ≤ m := by simpa [Nat.blt, Nat.ble_eq] using hb
                omega
    rw [hb, cond_false] at h4
    exact (List.all_eq_true.1 h4) j (by simpa using hj)
  · intro i o ho hi
    have : (os.take m)[i]? = some o := by rw [List.getElem?_take, if_pos hi]; exact ho
    exact (List.all_eq_true.1 h3) o (List.mem_of_getElem? this)
end
end Go.Proofs.YtnjmonkehjlaoaaGreatDoor
