/- Loops that count. Maps that the call makes: as lists of keys and values. Slices by their elements: each kind of element has its cells. -/
import Derived.Test.YtkcjkbnbblpomaaDoorQ05
import Derived.Laws.MakeOwn
set_option linter.all false
namespace Go.Proofs.YtkcjkbnbblpomaaDoor
variable {df : List Deferred}
variable {rr : Option Nat}
open Go.RowKit

inductive KP (l : List (Nat × Value)) : List Nat → List (Nat × Value) → Prop
  | nil : KP l [] []
  | cons {t : Nat} {v : Value} {ts : List Nat} {r : List (Nat × Value)} (h : lk l t = some v) (hr : KP l ts r) : KP l (t :: ts) ((t, v) :: r)

theorem KP.sub {l : List (Nat × Value)} {ts : List Nat} {r : List (Nat × Value)} (h : KP l ts r) : subK l r := by
  induction h with
  | nil => trivial
  | cons h _ ih => exact ⟨h, ih⟩

theorem Kn.keep {n : Nat} {a : Act} {l r : List (Nat × Value)} {ts : List Nat} (hk : Kn df n a l) (h : KP l ts r) : Kn df n a r := hk.sub h.sub

def subD (l : List (Nat × Value)) : List Nat → List (Nat × Value) → Prop
  | _, [] => True
  | seen, (x, v) :: r => (match seen.contains x with | true => True | false => lk l x = some v) ∧ subD l (x :: seen) r

theorem subD.get {l : List (Nat × Value)} : ∀ {r : List (Nat × Value)} {seen : List Nat}, subD l seen r → ∀ x v, seen.contains x = false → lk r x = some v → lk l x = some v
  | [], _, _, _, _, _, h => by simp [lk] at h
  | (y, u) :: r, seen, ⟨h1, h2⟩, x, v, hs, h => by
    by_cases hx : y = x
    · subst hx
      rw [lk_cons_same] at h
      injection h with h
      subst h
      rw [hs] at h1
      exact h1
    · rw [lk_cons_ne u r hx] at h
      refine subD.get h2 x v ?_ h
      simp only [List.contains_cons, hs, Bool.or_false, beq_eq_false_iff_ne, ne_eq]
      exact fun e => hx e.symm

theorem Kn.subD {n : Nat} {a : Act} {l r : List (Nat × Value)} (hk : Kn df n a l) (h : Proofs.YtkcjkbnbblpomaaDoor.subD l [] r) : Kn df n a r :=
  ⟨hk.size, fun x v hx => hk.get x v (h.get x v rfl hx), hk.defers⟩

section
variable {P : Program} {Q : Exit → Act → World → Prop} {a : Act} {w : World} {w0 : Bs} {n : Nat} {l0 : List (Nat × Value)}

theorem lk_app {V l : List (Nat × Value)} {x : Nat} {v : Value} : lk (V ++ l) x = some v → lk V x = some v ∨ (lk V x = none ∧ lk l x = some v) := by
  induction V with
  | nil => intro h; exact .inr ⟨rfl, h⟩
  | cons p V ih =>
    obtain ⟨y, u⟩ := p
    intro h
    by_cases hx : y = x
    · subst hx
      simp only [List.cons_append, lk_cons_same] at h ⊢
      exact .inl h
    · simp only [List.cons_append, lk_cons_ne _ _ hx] at h ⊢
      exact ih h

theorem Kn.app {V : List (Nat × Value)} (hk : Kn df n a l0) (hV : subK l0 V) : Kn df n a (V ++ l0) :=
  ⟨hk.size, fun x v hx => by
    rcases lk_app hx with h | ⟨_, h⟩
    · exact hk.get x v (hV.lk x v h)
    · exact hk.get x v h, hk.defers⟩

theorem wp_for {ι : Type} {c : Code} (N : Nat) (V : Nat → ι → List (Nat × Value)) (Ls : Nat → ι → List HP) (F : Nat → ι → Prop) (x0 : ι) (hk : Kn df n a l0) (hV : subK l0 (V 0 x0)) (hS : St w0 (Ls 0 x0) w) (hF : F 0 x0)
    (step : ∀ (i : Nat) (x : ι) (a : Act) (w : World), i ≤ N → Kn df n a (V i x ++ l0) → St w0 (Ls i x) w → F i x →
      c.wpIn (FR rr) 0 P (Exit.then (fun a' w' => i < N ∧ ∃ x', Kn df n a' (V (i + 1) x' ++ l0) ∧ St w0 (Ls (i + 1) x') w' ∧ F (i + 1) x') Q) a w) : (Code.loop c).wpIn (FR rr) 0 P Q a w := by
  refine wp_loopN (fun k a w => ∃ i x, i ≤ N ∧ k = N - i ∧ Kn df n a (V i x ++ l0) ∧ St w0 (Ls i x) w ∧ F i x) (k := N) ⟨0, x0, by omega, by omega, hk.app hV, hS, hF⟩ ?_
  rintro k a w ⟨i, x, hi, rfl, hk, hS, hF⟩
  refine wpIn_mono (step i x a w hi hk hS hF) ?_
  intro e a' w' hq
  cases e with
  | normal =>
    obtain ⟨hlt, x', h1, h2, h3⟩ := hq
    exact ⟨N - (i + 1), by omega, i + 1, x', by omega, rfl, h1, h2, h3⟩
  | exit i => exact hq
  | goto i => exact hq
  | ret => exact hq
  | panic c => exact hq
  | outgrown => exact hq
end
end Go.Proofs.YtkcjkbnbblpomaaDoor
namespace Go.Proofs.YtkcjkbnbblpomaaDoor
variable {df : List Deferred}
open Go.RowKit

section
variable {κ : Type}
def mapH (enc : κ → Value) (v : Value) (l : List (κ × Value)) : HP where
  holds F w := ∃ b es c, v = .map (some b) ∧ F b ∧ (∀ c, F c → c = b) ∧ w.heap[b]? = some (.map es c) ∧ es.toList.map (fun e => (e.key, e.val)) = l.map (fun p => (enc p.1, p.2)) ∧ (l.map Prod.fst).Nodup
  stable := fun F w w' ⟨b, es, c, h1, h2, h3, h4, h5⟩ h => ⟨b, es, c, h1, h2, h3, by rw [h b h2]; exact h4, h5⟩
  dom := fun F w x ⟨b, es, c, h1, h2, h3, h4, h5⟩ hx => by
    rw [h3 x hx]
    rcases Nat.lt_or_ge b w.heap.size with h' | h'
    · exact h'
    · rw [Array.getElem?_eq_none h'] at h4; cases h4

theorem St.setObj {w0 : Bs} {w : World} {L L' : List HP} {enc : κ → Value} {b : Nat} {l l' : List (κ × Value)} {es' : Array MapEntry} {c' : Nat} (h : St w0 L w) (hat : At (mapH enc (.map (some b)) l) L L')
    (he : es'.toList.map (fun e => (e.key, e.val)) = l'.map (fun p => (enc p.1, p.2))) (hn : (l'.map (·.1)).Nodup) : St w0 (mapH enc (.map (some b)) l' :: L') { w with heap := w.heap.setIfInBounds b (.map es' c') } := by
  refine h.change (As := [_]) hat (fun F ⟨b2, es, c, h1, h2, h3, h4, h5⟩ => ?_)
  have hb : b2 = b := by injection h1 with h1; injection h1 with h1; exact h1.symm
  subst hb
  have hlt : b2 < w.heap.size := by
    rcases Nat.lt_or_ge b2 w.heap.size with h' | h'
    · exact h'
    · rw [Array.getElem?_eq_none h'] at h4; cases h4
  refine ⟨rfl, rfl, rfl, by simp, fun x _ hx => ?_, F, fun x hx => ⟨.inl hx, ?_⟩, Sep.one ⟨b2, es', c', rfl, h2, h3, ?_, he, hn⟩⟩
  · have : b2 ≠ x := fun e => hx (by rw [← e]; exact h2)
    simp [Array.getElem?_setIfInBounds_ne this]
  · rw [h3 x hx]; simpa using hlt
  · simp [hlt]

variable {P : Program} {a : Act} {w w' : World} {w0 : Bs} {n : Nat} {l : List (Nat × Value)} {L L' : List HP}
  {dst : Option Nat} {R : Value → World → Prop} {ty : TypeId} {pos : String} {af : Array Edge} {g : Option (Nat × Bool)} {enc : κ → Value} {K E T : TypeId} {m : List (κ × Value)}

theorem mapOf_und {T K E : Nat} (h : mapOf P T = some (K, E)) : P.underlying T = some (.map K E) := by
  unfold mapOf at h
  cases hu : P.underlying T with
  | none => rw [hu] at h; simp at h
  | some d => rw [hu] at h; cases d <;> simp at h; rw [h.1, h.2]

theorem g_makeMap (enc : κ → Value) (hS : St w0 L w) (h : ∀ w' v, St w0 (mapH enc v [] :: L) w' → R v w') : Gives P ⟨dst, .makeMap T none, ty, pos, af, g⟩ a w R := by
  refine givesv (v := .map (some w.heap.size)) (w' := w.alloc (.map #[] 0)) (by simp [execOp, Instr.makeMap]) (h _ _ ?_)
  refine hS.new (As := [_]) ((Below.refl _ _).alloc (Nat.le_refl _) _) ⟨fun b => b = w.heap.size, fun b hb => by subst hb; simp, Sep.one ⟨w.heap.size, #[], 0, rfl, rfl, fun _ h => h, heap_alloc_new w _, by simp, by simp⟩⟩

end

section
variable {κ : Type} [DecidableEq κ]

def posK (k : κ) : List (κ × Value) → Nat → Option (Nat × Value)
  | [], _ => none
  | (k', v) :: r, i => if k = k' then some (i, v) else posK k r (i + 1)
def getL (l : List (κ × Value)) (k : κ) : Option Value := (posK k l 0).map (·.2)
def setL : List (κ × Value) → κ → Value → List (κ × Value)
  | [], k, v => [(k, v)]
  | (k', v') :: r, k, v => if k = k' then (k, v) :: r else (k', v') :: setL r k v
def delL : List (κ × Value) → κ → List (κ × Value)
  | [], _ => []
  | (k', v') :: r, k => if k = k' then r else (k', v') :: delL r k

theorem posK_shift (k : κ) : ∀ (l : List (κ × Value)) (i : Nat), (posK k l i).map (·.2) = getL l k
  | [], _ => rfl
  | (k', v) :: r, i => by
    unfold getL
    simp only [posK]
    split
    · rfl
    · rw [posK_shift k r (i + 1), posK_shift k r (0 + 1)]

theorem getL_cons (k k' : κ) (v : Value) (r : List (κ × Value)) : getL ((k', v) :: r) k = if k = k' then some v else getL r k := by
  conv => lhs; unfold getL
  simp only [posK]
  split
  · rfl
  · exact posK_shift k r 1

theorem getL_none {l : List (κ × Value)} {k : κ} (h : k ∉ l.map Prod.fst) : getL l k = none := by
  induction l with
  | nil => rfl
  | cons p r ih =>
    obtain ⟨k', v'⟩ := p
    simp only [List.map_cons, List.mem_cons, not_or] at h
    rw [getL_cons, if_neg h.1]
    exact ih h.2

theorem setL_keys (l : List (κ × Value)) (k : κ) (v : Value) : (setL l k v).map Prod.fst = if k ∈ l.map Prod.fst then l.map Prod.fst else l.map Prod.fst ++ [k] := by
  induction l with
  | nil => simp [setL]
  | cons p r ih =>
    obtain ⟨k', v'⟩ := p
    simp only [setL]
    split
    · rename_i h; subst h; simp
    · rename_i h
      simp only [List.map_cons, ih, List.mem_cons]
      by_cases hm : k ∈ r.map Prod.fst
      · rw [if_pos hm, if_pos (.inr hm)]
      · rw [if_neg hm, if_neg (fun e => e.elim h hm)]
        rfl

theorem setL_nodup {l : List (κ × Value)} (h : (l.map Prod.fst).Nodup) (k : κ) (v : Value) : ((setL l k v).map Prod.fst).Nodup := by
  rw [setL_keys]
  split
  · exact h
  · rename_i hm
    rw [List.nodup_append]
    exact ⟨h, by simp, fun a ha b hb e => hm (by rw [List.mem_singleton] at hb; rw [← hb, ← e]; exact ha)⟩

structure KeyT (P : Program) (K : TypeId) (enc : κ → Value) : Prop where
  check : ∀ b k (w : World), (Instr.checkKey b 10000 K (enc k)).run P w = .ok () w
  find : ∀ (k : κ) (es : List MapEntry) (l : List (κ × Value)) (w : World), es.map (fun e => (e.key, e.val)) = l.map (fun p => (enc p.1, p.2)) → (Instr.findKey K (enc k) es).run P w = .ok (posK k l 0) w
  bits : ∀ k, Instr.sameBits 10000 (enc k) (enc k) = true

theorem findNow_pos {enc : κ → Value} {d : TypeDesc} (hd : ∀ j k, Instr.sameNow d (enc j) (enc k) = some (decide (j = k))) (k : κ) : ∀ (es : List MapEntry) (l : List (κ × Value)) (i : Nat),
    es.map (fun e => (e.key, e.val)) = l.map (fun p => (enc p.1, p.2)) → Instr.findNow d (enc k) es i = some (posK k l i)
  | [], [], _, _ => rfl
  | [], _ :: _, _, h => by simp at h
  | _ :: _, [], _, h => by simp at h
  | e :: es, (k', v) :: l, i, h => by
    simp only [List.map_cons, List.cons.injEq, Prod.mk.injEq] at h
    obtain ⟨⟨h1, h2⟩, h3⟩ := h
    simp only [Instr.findNow, posK, h1, hd k k']
    by_cases hk : k = k'
    · simp [hk, h2]
    · simp only [hk, decide_false, if_false]
      exact findNow_pos hd k es l (i + 1) h3

theorem checkKey_int {P : Program} {K : TypeId} {kk : IntKind} (h : P.underlying K = some (.int kk)) (b : Bool) (N : Nat) (v : Value) (w : World) : (Instr.checkKey b (N + 1) K v).run P w = .ok () w := by
  simp [Instr.checkKey, run_underlying h]
theorem keyInt {P : Program} {K : TypeId} {kk : IntKind} (h : P.underlying K = some (.int kk)) : KeyT P K (fun n : Int => Value.int kk n) where
  check := fun b k w => checkKey_int h b 9999 _ w
  find := fun k es l w he => by
    have := findNow_pos (enc := fun n : Int => Value.int kk n) (d := .int kk) (fun j k => by simp [Instr.sameNow]; rfl) k es l 0 he
    simp only [Instr.findKey, Sem.run_bind, run_underlying h, Result.andThen_ok, this]
    rfl
  bits := fun k => by simp [Instr.sameBits]

variable {P : Program} {a : Act} {w w' : World} {w0 : Bs} {n : Nat} {l : List (Nat × Value)} {L L' : List HP}
  {dst : Option Nat} {R : Value → World → Prop} {ty : TypeId} {pos : String} {af : Array Edge} {g : Option (Nat × Bool)} {enc : κ → Value} {K E T : TypeId} {m : List (κ × Value)}

theorem run_lookup {v : Value} {k : κ} {z : Value} (hm : (mapH enc v m).rd w) (hT : mapOf P T = some (K, E)) (hK : KeyT P K enc) (hz : zeroOf P E = some z) (ok : Bool) :
    (Instr.lookup T v (enc k) ok).run P w = .ok (if ok then .tuple #[(getL m k).getD z, .bool (getL m k).isSome] else (getL m k).getD z) w := by
  obtain ⟨F, b, es, c, rfl, hF, hF', hb, he, _⟩ := hm
  have hf := hK.find k es.toList m w he
  unfold getL
  cases hp : posK k m 0 with
  | none => rw [hp] at hf; cases ok <;> simp [Instr.lookup, run_underlying (mapOf_und hT), getObj, Sem.run, hb, hK.check, hf, zeroOf_run hz]
  | some p => rw [hp] at hf; cases ok <;> simp [Instr.lookup, run_underlying (mapOf_und hT), getObj, Sem.run, hb, hK.check, hf]

theorem g_lookupOk {x y : Operand} {v : Value} {k : κ} {z : Value} (hk : Kn df n a l) (hm : (mapH enc v m).rd w) (h : R (.tuple #[(getL m k).getD z, .bool (getL m k).isSome]) w) (hT : mapOf P T = some (K, E)) (hK : KeyT P K enc) (hz : zeroOf P E = some z)
    (hx : ev l x = some v := by rfl) (hy : ev l y = some (enc k) := by rfl) : Gives P ⟨dst, .lookup T x y true, ty, pos, af, g⟩ a w R := by
  refine givesv (v := .tuple #[(getL m k).getD z, .bool (getL m k).isSome]) ?_ h
  have := run_lookup (k := k) hm hT hK hz true
  simp [execOp, hk.eval hx, hk.eval hy, this]

theorem posK_lt {k : κ} : ∀ {l : List (κ × Value)} {i j : Nat} {v : Value}, posK k l i = some (j, v) → i ≤ j ∧ l[j - i]? = some (k, v) ∧ ∀ u, (l.set (j - i) (k, u)) = setL l k u
  | [], _, _, _, h => by simp [posK] at h
  | (k', v') :: r, i, j, v, h => by
    simp only [posK] at h
    split at h
    · rename_i hk
      simp at h
      obtain ⟨rfl, rfl⟩ := h
      subst hk
      exact ⟨Nat.le_refl _, by simp, fun u => by simp [setL]⟩
    · rename_i hk
      obtain ⟨h1, h2, h3⟩ := posK_lt h
      refine ⟨by omega, ?_, fun u => ?_⟩
      · rw [show j - i = (j - (i + 1)) + 1 by omega]; simpa using h2
      · rw [show j - i = (j - (i + 1)) + 1 by omega]
        simp only [List.set_cons_succ, setL, hk, if_false, h3 u]

theorem posK_none {k : κ} : ∀ {l : List (κ × Value)} {i : Nat}, posK k l i = none → ∀ u, setL l k u = l ++ [(k, u)]
  | [], _, _, _ => rfl
  | (k', v') :: r, i, h, u => by
    simp only [posK] at h
    split at h
    · cases h
    · rename_i hk
      simp [setL, hk, posK_none h u]

theorem g_mapUpdate {x y z : Operand} {v u : Value} {k : κ} (hk : Kn df n a l) (hS : St w0 L w) (h : ∀ w', St w0 (mapH enc v (setL m k u) :: L') w' → R undef w') (hT : mapOf P T = some (K, E)) (hK : KeyT P K enc)
    (hx : ev l x = some v := by rfl) (hat : At (mapH enc v m) L L' := by (repeat (first | exact At.here | apply At.there))) (hy : ev l y = some (enc k) := by rfl) (hz : ev l z = some u := by rfl) :
    Gives P ⟨dst, .mapUpdate T x y z, ty, pos, af, g⟩ a w R := by
  obtain ⟨F, b, es, c, hv, hF, hF', hb, he, hn⟩ := hS.rd hat
  subst hv
  have hf := hK.find k es.toList m w he
  have hlt : b < w.heap.size := by
    rcases Nat.lt_or_ge b w.heap.size with h' | h'
    · exact h'
    · rw [Array.getElem?_eq_none h'] at hb; cases hb
  cases hp : posK k m 0 with
  | none =>
    rw [hp] at hf
    refine givesu (w' := { w with heap := w.heap.setIfInBounds b (.map (es.push { key := enc k, val := u, born := c }) (c + 1)) }) ?_ (h _ (hS.setObj hat ?_ (setL_nodup hn k u)))
    · simp [execOp, Instr.mapUpdate, run_underlying (mapOf_und hT), hk.eval hx, hk.eval hy, hk.eval hz, getObj, setObj, Sem.run, hb, hK.check, hf]
    · rw [posK_none hp u]; simp [he]
  | some p =>
    obtain ⟨j, v0⟩ := p
    rw [hp] at hf
    obtain ⟨_, h2, h3⟩ := posK_lt hp
    simp only [Nat.sub_zero] at h2 h3
    have hej : es.toList[j]?.map (fun e => (e.key, e.val)) = some (enc k, v0) := by
      have := congrArg (·[j]?) he
      simpa [h2] using this
    have hkey : ((es[j]?).map (·.key)).getD (enc k) = enc k := by
      cases hes : es[j]? with
      | none => rfl
      | some e =>
        have : es.toList[j]? = some e := by simpa using hes
        rw [this] at hej
        simp at hej
        simp [hej.1]
    refine givesu (w' := { w with heap := w.heap.setIfInBounds b (.map (es.modify j fun e => { e with key := enc k, val := u }) c) }) ?_ (h _ (hS.setObj hat ?_ (setL_nodup hn k u)))
    · simp [execOp, Instr.mapUpdate, run_underlying (mapOf_und hT), hk.eval hx, hk.eval hy, hk.eval hz, getObj, setObj, Sem.run, hb, hK.check, hf, Instr.keyThatStays]
      intro hq
      rw [hkey, hK.bits] at hq
      cases hq
    · rw [← h3 u]
      apply List.ext_getElem?
      intro i
      have hi := congrArg (·[i]?) he
      simp only [List.getElem?_map, Array.getElem?_toList] at hi
      simp only [List.getElem?_map, Array.getElem?_toList, Array.getElem?_modify]
      by_cases hji : j = i
      · subst hji
        have hlt2 : j < m.length := by
          rcases Nat.lt_or_ge j m.length with h' | h'
          · exact h'
          · rw [List.getElem?_eq_none h'] at h2; cases h2
        rw [List.getElem?_set_self hlt2]
        cases hes : es[j]? with
        | none => rw [hes] at hi; simp [h2] at hi
        | some e => simp
      · rw [if_neg hji, List.getElem?_set_ne hji]
        exact hi

end
end Go.Proofs.YtkcjkbnbblpomaaDoor
namespace Go.Proofs.YtkcjkbnbblpomaaDoor
variable {df : List Deferred}
open Go.RowKit

class Enc (α : Type) where
  k : Nat
  f : α → List Value
  len : ∀ x, (f x).length = k + 1
  one : ∀ x, ∀ u ∈ f x, u.oneCell' = true

instance encInt : Enc Int := ⟨0, fun n => [.int .i64 n], fun _ => rfl, fun _ u h => by rw [List.mem_singleton] at h; subst h; rfl⟩
instance encStr : Enc ByteArray := ⟨0, fun s => [.string s], fun _ => rfl, fun _ u h => by rw [List.mem_singleton] at h; subst h; rfl⟩
instance encBool : Enc Bool := ⟨0, fun b => [.bool b], fun _ => rfl, fun _ u h => by rw [List.mem_singleton] at h; subst h; rfl⟩
structure Hd where
  a : Option Addr
  n : Nat
  c : Nat
def Hd.v (h : Hd) : Value := .slice h.a h.n h.c
instance encHd : Enc Hd := ⟨0, fun h => [h.v], fun _ => rfl, fun _ u h => by rw [List.mem_singleton] at h; subst h; rfl⟩
instance encProd {α β : Type} [Enc α] [Enc β] : Enc (α × β) := ⟨Enc.k α + Enc.k β + 1, fun p => Enc.f p.1 ++ Enc.f p.2, fun p => by rw [List.length_append, Enc.len, Enc.len]; omega,
  fun p u h => (List.mem_append.1 h).elim (Enc.one p.1 u) (Enc.one p.2 u)⟩

section
variable {α : Type} [Enc α]
def enc (xs : List α) : List Value := xs.flatMap Enc.f

theorem enc_len : ∀ xs : List α, (enc xs).length = xs.length * (Enc.k α + 1)
  | [] => by simp [enc]
  | x :: xs => by
    have := enc_len xs
    unfold enc at this ⊢
    rw [List.flatMap_cons, List.length_append, Enc.len, this, List.length_cons, Nat.add_mul]
    omega

theorem enc_cons (x : α) (xs : List α) : enc (x :: xs) = Enc.f x ++ enc xs := by simp [enc]
theorem enc_append (xs ys : List α) : enc (xs ++ ys) = enc xs ++ enc ys := by simp [enc]

theorem enc_get : ∀ (xs : List α) (i : Nat) (hi : i < xs.length), ((enc xs).drop (i * (Enc.k α + 1))).take (Enc.k α + 1) = Enc.f xs[i]
  | x :: xs, 0, _ => by
    rw [enc_cons, Nat.zero_mul, List.drop_zero, ← Enc.len x]
    simp
  | x :: xs, i + 1, hi => by
    have := enc_get xs i (by simpa using hi)
    rw [enc_cons, show (i + 1) * (Enc.k α + 1) = (Enc.f x).length + i * (Enc.k α + 1) by rw [Enc.len, Nat.add_mul]; omega, List.drop_length_add_append]
    simpa using this

theorem enc_one (xs : List α) : ∀ u ∈ enc xs, u.oneCell' = true := fun u h => by
  obtain ⟨x, _, hx⟩ := List.mem_flatMap.1 h
  exact Enc.one x u hx

theorem enc_drop : ∀ (xs : List α) (i : Nat), (enc xs).drop (i * (Enc.k α + 1)) = enc (xs.drop i)
  | xs, 0 => by simp
  | [], i + 1 => by simp [enc]
  | x :: xs, i + 1 => by
    rw [enc_cons, show (i + 1) * (Enc.k α + 1) = (Enc.f x).length + i * (Enc.k α + 1) by rw [Enc.len, Nat.add_mul]; omega, List.drop_length_add_append, enc_drop xs i]
    rfl
theorem enc_take : ∀ (xs : List α) (i : Nat), (enc xs).take (i * (Enc.k α + 1)) = enc (xs.take i)
  | xs, 0 => by simp [enc]
  | [], i + 1 => by simp [enc]
  | x :: xs, i + 1 => by
    rw [enc_cons, show (i + 1) * (Enc.k α + 1) = (Enc.f x).length + i * (Enc.k α + 1) by rw [Enc.len, Nat.add_mul]; omega, List.take_length_add_append, enc_take xs i, List.take_succ_cons, enc_cons]

def SlT (xs : List α) (v : Value) (w : World) : Prop := Slr (Enc.k α + 1) xs.length v (enc xs) w
def OwT (E : TypeId) (xs : List α) (v : Value) : HP := slo E (Enc.k α + 1) xs.length v (enc xs)

theorem St.rdT {w0 : Bs} {w : World} {L : List HP} (hS : St w0 L w) {xs : List α} {v : Value} (h : SlT xs v w0.g) : SlT xs v w := St.slr hS h
theorem SlT.frz {xs : List α} {v : Value} {w w' : World} (h : SlT xs v w) (hb : Frz w w') : SlT xs v w' := Slr.frz h hb
theorem OwT.rd {E : TypeId} {xs : List α} {v : Value} {w : World} (h : (OwT E xs v).rd w) : SlT xs v w := slo.slr h

theorem SlT.at {xs : List α} {v : Value} {w : World} (h : SlT xs v w) {i : Nat} (hi : i < xs.length) : Cells (blk v) (offs v + i * (Enc.k α + 1)) (Enc.f xs[i]) w := by
  have := Slr.cells h (i := i)
  rw [enc_get xs i hi] at this
  exact this

theorem SlT.len_le {xs : List α} {v : Value} {w : World} (h : SlT xs v w) : xs.length ≤ maxLen := h.2.1
theorem SlT.nil (w : World) : SlT ([] : List α) (.slice none 0 0) w := ⟨by simp [enc], by simp [maxLen], .inl ⟨rfl, rfl⟩⟩

theorem St.nilT {w0 : Bs} {w : World} {L : List HP} (h : St w0 L w) (E : TypeId) (α : Type) [Enc α] : St w0 (OwT E ([] : List α) (.slice none 0 0) :: L) w := h.ownNil E _

theorem SlT.shape {xs : List α} {v : Value} {w : World} (h : SlT xs v w) : ∃ ao c, v = .slice ao xs.length c ∧ (ao = none → xs = [] ∧ c = 0) ∧ xs.length ≤ c ∧ c ≤ maxLen := by
  rcases h.2.2 with ⟨hv, h0⟩ | ⟨a, c, hv, hc, hm, _⟩
  · refine ⟨none, 0, by rw [hv, h0], fun _ => ⟨List.eq_nil_of_length_eq_zero h0, rfl⟩, by omega, by simp⟩
  · refine ⟨some a, c, hv, fun h => ?_, hc, hm⟩
    cases h

end

section
variable {P : Program} {a : Act} {w w' : World} {w0 : Bs} {n : Nat} {l : List (Nat × Value)} {L L' : List HP}
  {dst : Option Nat} {R : Value → World → Prop} {ty : TypeId} {pos : String} {af : Array Edge} {g : Option (Nat × Bool)} {α : Type} [Enc α]

theorem g_lenT {x : Operand} {t : TypeId} {v : Value} {xs : List α} (hk : Kn df n a l) (h : R (.int .i64 xs.length) w) (hx : ev l x = some v := by rfl) {E : Nat} (ht : elOf P t = some E) (hs : SlT xs v w) :
    Gives P ⟨dst, .call { callee := .builtin .len, args := #[x], argTypes := #[t] }, ty, pos, af, g⟩ a w R :=
  g_lenSl hk hs h ht hx

theorem g_ixT {x y : Operand} {t : TypeId} {i : Nat} {v : Value} {xs : List α} {E : Nat} {kk : IntKind} (hk : Kn df n a l) (h : R (.pointer (some ⟨blk v, offs v + i * (Enc.k α + 1), none⟩)) w)
    (hx : ev l x = some v := by rfl) (hy : ev l y = some (.int kk (i : Int)) := by rfl) (ht : elOf P t = some E) (hs : SlT xs v w) (hi : i < xs.length) (hE : szOf P E = some (Enc.k α + 1)) :
    Gives P ⟨dst, .indexAddr t x y, ty, pos, af, g⟩ a w R := g_index hk hs hi h ht hE hx hy

theorem g_ixTi {x y : Operand} {t : TypeId} {p : Int} {v : Value} {xs : List α} {E : Nat} {kk : IntKind} (hk : Kn df n a l) (h : R (.pointer (some ⟨blk v, offs v + p.toNat * (Enc.k α + 1), none⟩)) w)
    (hx : ev l x = some v := by rfl) (hy : ev l y = some (.int kk p) := by rfl) (ht : elOf P t = some E) (hs : SlT xs v w) (h0 : 0 ≤ p) (hi : p < xs.length) (hE : szOf P E = some (Enc.k α + 1)) :
    Gives P ⟨dst, .indexAddr t x y, ty, pos, af, g⟩ a w R :=
  g_index (i := p.toNat) hk hs (by omega) h ht hE hx (by rw [Int.toNat_of_nonneg h0]; exact hy)

theorem SlT.get {xs : List α} {v : Value} {w : World} (h : SlT xs v w) {i : Nat} {x : α} (hi : xs[i]? = some x) : Cells (blk v) (offs v + i * (Enc.k α + 1)) (Enc.f x) w := by
  obtain ⟨h1, rfl⟩ := List.getElem?_eq_some_iff.1 hi
  exact h.at h1
theorem take_snoc {β : Type} {xs : List β} {i : Nat} {x : β} (h : xs[i]? = some x) : xs.take (i + 1) = xs.take i ++ [x] := by
  rw [List.take_add_one, h]; rfl
theorem lt_of_get {β : Type} {xs : List β} {i : Nat} {x : β} (h : xs[i]? = some x) : i < xs.length := (List.getElem?_eq_some_iff.1 h).1

theorem g_ldT1 {x : Operand} {T : TypeId} {v : Value} {i : Nat} {xs : List α} {e : α} {u : Value} (hk : Kn df n a l) (h : R u w) (hT : aggOf P T = some false)
    (hx : ev l x = some (.pointer (some ⟨blk v, offs v + i * (Enc.k α + 1), none⟩)) := by rfl) (hs : SlT xs v w) (hi : xs[i]? = some e) (hu : Enc.f e = [u] := by rfl) :
    Gives P ⟨dst, .load T x, ty, pos, af, g⟩ a w R := by
  have hc := hs.get hi
  rw [hu] at hc
  exact g_load1 hk h hT (hc.get (j := 0) rfl) hx

theorem g_ldTN {x : Operand} {T : TypeId} {v : Value} {i : Nat} {xs : List α} {e : α} {us : List Value} (hk : Kn df n a l) (h : R (.agg us.toArray) w) (hT : aggOf P T = some true)
    (hx : ev l x = some (.pointer (some ⟨blk v, offs v + i * (Enc.k α + 1), none⟩)) := by rfl) (hs : SlT xs v w) (hi : xs[i]? = some e) (hu : Enc.f e = us) (hz : szOf P T = some (Enc.k α + 1)) :
    Gives P ⟨dst, .load T x, ty, pos, af, g⟩ a w R := by
  subst hu
  refine g_loadN hk h hT (hs.get hi) ?_ hx
  rw [Enc.len]; exact hz

theorem g_ldTF {x : Operand} {T : TypeId} {v : Value} {i f : Nat} {xs : List α} {e : α} {u : Value} (hk : Kn df n a l) (h : R u w) (hT : aggOf P T = some false)
    (hx : ev l x = some (.pointer (some ⟨blk v, offs v + i * (Enc.k α + 1) + f, none⟩)) := by rfl) (hs : SlT xs v w) (hi : xs[i]? = some e) (hu : (Enc.f e)[f]? = some u := by rfl) :
    Gives P ⟨dst, .load T x, ty, pos, af, g⟩ a w R :=
  g_load1 hk h hT ((hs.get hi).get hu) hx

theorem Src.ofT {tx E : TypeId} {ys : List α} {v : Value} (hT : elOf P tx = some E) (hs : SlT ys v w) : Src P (Enc.k α + 1) tx v ys.length (enc ys) w := by
  obtain ⟨h1, h2, h3⟩ := hs
  rcases h3 with ⟨rfl, h0⟩ | ⟨ad, c, rfl, hn, hc, hcell⟩
  · have : ys = [] := List.eq_nil_of_length_eq_zero h0
    subst this
    exact Src.ofNil w (elOf_und hT) 0
  · refine Src.ofSlice w (elOf_und hT) ad _ c (enc ys) h1 (fun j u hj => ?_) (enc_one ys)
    obtain ⟨hsp, hcl⟩ := hcell j u hj
    obtain ⟨b, o, sp⟩ := ad
    simp only at hsp
    subst hsp
    rw [addr_add]
    exact hcl

theorem g_appT {x y : Operand} {t tx : TypeId} {E E' : Nat} {v y0 z : Value} {xs ys : List α} (hk : Kn df n a l) (hS : St w0 L w)
    (h : ∀ w' v', St w0 (OwT E (xs ++ ys) v' :: L') w' → R v' w')
    (hx : ev l x = some v := by rfl) (hy : ev l y = some y0 := by rfl)
    (hat : At (OwT E xs v) L L' := by (repeat (first | exact At.here | apply At.there)))
    (hT : elOf P t = some E) (hTx : elOf P tx = some E') (hE : szOf P E = some (Enc.k α + 1)) (hz : zeroOf P E = some z) (hzs : z.cells.size = Enc.k α + 1) (hs : SlT ys y0 w) {by_ : Nat} (hby : ((P.info? E).map (·.bytes)).getD 0 = by_) (hbytes : (xs.length + ys.length) * by_ ≤ 140737488355328) (h63 : xs.length + ys.length ≤ maxLen) :
    Gives P ⟨dst, .call { callee := .builtin .append, args := #[x, y], argTypes := #[t, tx] }, ty, pos, af, g⟩ a w R :=
  g_append hk hS (Src.ofT hTx hs) (fun w' v' hS' => h w' v' (by
    have : OwT E (xs ++ ys) v' = slo E (Enc.k α + 1) (xs.length + ys.length) v' (enc xs ++ enc ys) := by unfold OwT; rw [enc_append, List.length_append]
    rw [this]; exact hS')) hT hE hz hzs h63 hby hbytes hx hy hat

theorem At.rest {A : HP} {X Y : List HP} (h : At A X Y) : Sub Y X := by
  induction h with
  | here => exact Sub.cons_drop
  | there _ ih => exact .cons At.here ih

theorem g_appD {x y : Operand} {t tx : TypeId} {E E' : Nat} {v y0 z : Value} {xs ys : List α} {L'' : List HP} (hk : Kn df n a l) (hS : St w0 L w)
    (h : ∀ w' v', St w0 (OwT E (xs ++ ys) v' :: L'') w' → R v' w')
    (hx : ev l x = some v := by rfl) (hy : ev l y = some y0 := by rfl)
    (hat : At (OwT E xs v) L L' := by (repeat (first | exact At.here | apply At.there)))
    (hT : elOf P t = some E) (hTx : elOf P tx = some E')
    (hat2 : At (OwT E' ys y0) L' L'' := by (repeat (first | exact At.here | apply At.there)))
    (hE : szOf P E = some (Enc.k α + 1)) (hz : zeroOf P E = some z) (hzs : z.cells.size = Enc.k α + 1) {by_ : Nat} (hby : ((P.info? E).map (·.bytes)).getD 0 = by_) (hbytes : (xs.length + ys.length) * by_ ≤ 140737488355328) (h63 : xs.length + ys.length ≤ maxLen) :
    Gives P ⟨dst, .call { callee := .builtin .append, args := #[x, y], argTypes := #[t, tx] }, ty, pos, af, g⟩ a w R :=
  g_appT hk hS (fun w' v' hS' => h w' v' (hS'.sub (.cons .here hat2.rest))) hx hy hat hT hTx hE hz hzs (OwT.rd (hS.sub hat.rest |>.rd hat2)) hby hbytes h63

theorem g_bsT {T E : Nat} {q : List (Nat × Operand)} {vals : List (Nat × Value)} {z : Value} {xs : List α} {m : Nat} (hk : Kn df n a l) (hS : St w0 L w)
    (h : ∀ w' v, St w0 (OwT E xs v :: L) w' → R v w')
    (hp : evP l q = some vals := by rfl)
    (hT : elOf P T = some E) (hE : szOf P E = some (Enc.k α + 1)) (hz : zeroOf P E = some z)
    (hb : bldP (fun i => some (i * (Enc.k α + 1), Enc.k α + 1)) (zerosL z (m + 1) (Enc.k α + 1)) vals = some (enc xs) := by rfl) (hl : xs.length = m + 1 := by rfl) (hm : Nat.ble ((m + 1) * (Enc.k α + 1)) 16777216 = true := by rfl) :
    Gives P ⟨dst, .buildSlice T (m + 1) q.toArray, ty, pos, af, g⟩ a w R :=
  g_buildSlice hk hS (fun w' v hS' => h w' v (by unfold OwT; rw [hl]; exact hS')) hT hE hz hp hb (by rw [enc_len, hl]) hm

theorem enc_set : ∀ (xs : List α) (i : Nat) (y : α), i < xs.length → ∀ j, (enc (xs.set i y))[j]? = if i * (Enc.k α + 1) ≤ j ∧ j < i * (Enc.k α + 1) + (Enc.k α + 1) then (Enc.f y)[j - i * (Enc.k α + 1)]? else (enc xs)[j]?
  | [], i, _, h, _ => by simp at h
  | x :: xs, 0, y, _, j => by
    simp only [List.set_cons_zero, enc_cons, Nat.zero_mul, Nat.zero_add, Nat.zero_le, true_and, Nat.sub_zero]
    by_cases hj : j < Enc.k α + 1
    · rw [if_pos hj, List.getElem?_append_left (by rw [Enc.len]; exact hj)]
    · rw [if_neg hj, List.getElem?_append_right (by rw [Enc.len]; omega), List.getElem?_append_right (by rw [Enc.len]; omega), Enc.len, Enc.len]
  | x :: xs, i + 1, y, h, j => by
    have ih := enc_set xs i y (by simpa using h)
    simp only [List.set_cons_succ, enc_cons]
    rw [Nat.add_mul, Nat.one_mul]
    by_cases hj : j < Enc.k α + 1
    · rw [List.getElem?_append_left (by rw [Enc.len]; exact hj), List.getElem?_append_left (by rw [Enc.len]; exact hj), if_neg (by omega)]
    · rw [List.getElem?_append_right (by rw [Enc.len]; omega), List.getElem?_append_right (by rw [Enc.len]; omega), Enc.len, ih]
      by_cases h1 : i * (Enc.k α + 1) ≤ j - (Enc.k α + 1) ∧ j - (Enc.k α + 1) < i * (Enc.k α + 1) + (Enc.k α + 1)
      · rw [if_pos h1, if_pos (by omega)]
        congr 1
        omega
      · rw [if_neg h1, if_neg (by omega)]

theorem mul_lt_of {i m k : Nat} (h : i < m) : i * (k + 1) + (k + 1) ≤ m * (k + 1) := by
  have := Nat.mul_le_mul_right (k + 1) h
  rwa [Nat.succ_mul] at this

theorem St.setT {E : TypeId} {v : Value} {i : Nat} {xs : List α} {y : α} (hS : St w0 L w) (hat : At (OwT E xs v) L L') (hi : i < xs.length) :
    ∃ w', (storeCells ⟨blk v, offs v + i * (Enc.k α + 1), none⟩ (Enc.f y) 0).run P w = .ok () w' ∧ St w0 (OwT E (xs.set i y) v :: L') w' := by
  obtain ⟨F0, _, _, h3, _⟩ := hS.rd hat
  rcases h3 with ⟨_, h0⟩ | ⟨b, off, cap, cur, rfl, _⟩
  · omega
  · obtain ⟨vs, hP, hvl, hn, hcm, hcl, hvs⟩ := hS.ownPts hat
    have hle := mul_lt_of (k := Enc.k α) hi
    have hle2 : xs.length * (Enc.k α + 1) ≤ cap * (Enc.k α + 1) := Nat.mul_le_mul_right _ hn
    have hfit : off + i * (Enc.k α + 1) + (Enc.f y).length ≤ vs.length := by rw [Enc.len]; omega
    obtain ⟨w', hr, hS'⟩ := run_storeCells_own (P := P) (Enc.f y) (off + i * (Enc.k α + 1)) 0 vs w hP At.here (Enc.one y) (by simpa using hfit)
    refine ⟨w', hr, ?_⟩
    simp only [Nat.add_zero] at hS'
    refine hS'.conv (As := [_]) At.here (fun F hF => ⟨F, fun _ h => h, Sep.one ⟨by rw [enc_len], by rw [List.length_set]; exact Nat.le_trans hn hcm, .inr ⟨b, off, cap, _, by rw [List.length_set], hF.1, hF.2.1, hF.2.2, by rw [List.length_set]; exact hn, hcm, by rw [List.size_toArray, splice_len]; exact hvl, fun j u hj => ?_⟩, fun c hc => (pts _ _ E).dom F _ c hF hc⟩⟩)
    rw [List.getElem?_toArray, splice_get _ _ _ _ hfit, Enc.len]
    rw [enc_set xs i y hi] at hj
    by_cases h1 : i * (Enc.k α + 1) ≤ j ∧ j < i * (Enc.k α + 1) + (Enc.k α + 1)
    · rw [if_pos h1] at hj
      rw [if_pos (by omega), show off + j - (off + i * (Enc.k α + 1)) = j - i * (Enc.k α + 1) by omega]
      exact hj
    · rw [if_neg h1] at hj
      rw [if_neg (by omega)]
      exact hvs j u hj

theorem g_stT {x y : Operand} {T E : TypeId} {v u : Value} {i : Nat} {xs : List α} {z : α} (hk : Kn df n a l) (hS : St w0 L w) (h : ∀ w', St w0 (OwT E (xs.set i z) v :: L') w' → R undef w')
    (hx : ev l x = some (.pointer (some ⟨blk v, offs v + i * (Enc.k α + 1), none⟩)) := by rfl) (hy : ev l y = some u := by rfl) (hat : At (OwT E xs v) L L' := by (repeat (first | exact At.here | apply At.there)))
    (hu : u.cells.toList = Enc.f z := by rfl) (hsz : szOf P T = some (Enc.k α + 1)) (hi : i < xs.length) :
    Gives P ⟨dst, .store T x y, ty, pos, af, g⟩ a w R := by
  obtain ⟨w', hr, hS'⟩ := St.setT (P := P) (y := z) hS hat hi
  refine givesu (w' := w') ?_ (h w' hS')
  have hv : u.cells = (Enc.f z).toArray := by rw [← hu]
  simp [execOp, hk.eval hx, hk.eval hy, Instr.storeAt, Instr.sureAddr, storeVar, szOf_run hsz, hv, hr, Enc.len]

end
end Go.Proofs.YtkcjkbnbblpomaaDoor
