/- Maps that the call makes: as lists of keys and values. -/
import Derived.Test.YtakejjfmbgbedaaL11
namespace Go.Proofs.Ytakejjfmbgbedaa
variable {df : List Deferred}
open Go.RowKit

section
variable {κ : Type}
/-- A map of the call's own. -/
def mapH (enc : κ → Value) (v : Value) (l : List (κ × Value)) : HP where
  holds F w := ∃ b es c, v = .map (some b) ∧ F b ∧ (∀ c, F c → c = b) ∧ w.heap[b]? = some (.map es c) ∧ es.toList.map (fun e => (e.key, e.val)) = l.map (fun p => (enc p.1, p.2)) ∧ (l.map Prod.fst).Nodup
  stable := fun F w w' ⟨b, es, c, h1, h2, h3, h4, h5⟩ h => ⟨b, es, c, h1, h2, h3, by rw [h b h2]; exact h4, h5⟩
  dom := fun F w x ⟨b, es, c, h1, h2, h3, h4, h5⟩ hx => by
    rw [h3 x hx]
    rcases Nat.lt_or_ge b w.heap.size with h' | h'
    · exact h'
    · rw [Array.getElem?_eq_none h'] at h4; cases h4

theorem mapH.nodup {enc : κ → Value} {v : Value} {l : List (κ × Value)} {w : World} (h : (mapH enc v l).rd w) : (l.map Prod.fst).Nodup := by
  obtain ⟨_, _, _, _, _, _, _, _, _, hn⟩ := h
  exact hn

theorem St.setObj {w0 : Bs} {w : World} {L L' : List HP} {enc : κ → Value} {b : Nat} {l l' : List (κ × Value)} {es' : Array MapEntry} {c' : Nat} (h : St w0 L w) (hat : At (mapH enc (.map (some b)) l) L L')
    (he : es'.toList.map (fun e => (e.key, e.val)) = l'.map (fun p => (enc p.1, p.2))) (hn : (l'.map (·.1)).Nodup) : St w0 (mapH enc (.map (some b)) l' :: L') { w with heap := w.heap.setIfInBounds b (.map es' c') } := by
  refine h.change (As := [_]) hat (fun F ⟨b2, es, c, h1, h2, h3, h4, h5⟩ => ?_)
  have hb : b2 = b := by injection h1 with h1; injection h1 with h1; exact h1.symm
  subst hb
  have hlt : b2 < w.heap.size := by
    rcases Nat.lt_or_ge b2 w.heap.size with h' | h'
    · exact h'
    · rw [Array.getElem?_eq_none h'] at h4; cases h4
  refine ⟨rfl, rfl, rfl, by simp, fun x _ hx => ?_, F, fun x hx => ⟨.inl hx, ?_⟩, Sep.one ⟨b2, es', c', rfl, h2, h3, ?_, he, hn⟩⟩
  · have : b2 ≠ x := fun e => hx (by rw [← e]; exact h2)
    simp [Array.getElem?_setIfInBounds_ne this]
  · rw [h3 x hx]; simpa using hlt
  · simp [hlt]

variable {P : Program} {a : Act} {w w' : World} {w0 : Bs} {n : Nat} {l : List (Nat × Value)} {L L' : List HP}
  {dst : Option Nat} {R : Value → World → Prop} {ty : TypeId} {pos : String} {af : Array Edge} {g : Option (Nat × Bool)} {enc : κ → Value} {K E T : TypeId} {m : List (κ × Value)}

theorem mapOf_und {T K E : Nat} (h : mapOf P T = some (K, E)) : P.underlying T = some (.map K E) := by
  unfold mapOf at h
  cases hu : P.underlying T with
  | none => rw [hu] at h; simp at h
  | some d => rw [hu] at h; cases d <;> simp at h; rw [h.1, h.2]

theorem g_makeMap (enc : κ → Value) (hS : St w0 L w) (h : ∀ w' v, St w0 (mapH enc v [] :: L) w' → R v w') : Gives P ⟨dst, .makeMap T none, ty, pos, af, g⟩ a w R := by
  refine givesv (v := .map (some w.heap.size)) (w' := w.alloc (.map #[] 0)) (by simp [execOp, Instr.makeMap]) (h _ _ ?_)
  refine hS.new (As := [_]) ((Below.refl _ _).alloc (Nat.le_refl _) _) ⟨fun b => b = w.heap.size, fun b hb => by subst hb; simp, Sep.one ⟨w.heap.size, #[], 0, rfl, rfl, fun _ h => h, heap_alloc_new w _, by simp, by simp⟩⟩

theorem g_makeMapN (enc : κ → Value) {x : Operand} {q : Int} {kk : IntKind} (hk : Kn df n a l) (hS : St w0 L w) (h : ∀ w' v, St w0 (mapH enc v [] :: L) w' → R v w') (hT : mapOf P T = some (K, E)) (hx : ev l x = some (.int kk q) := by rfl) :
    Gives P ⟨dst, .makeMap T (some x), ty, pos, af, g⟩ a w R := by
  refine givesv (v := .map (some w.heap.size)) (w' := w.alloc (.map #[] 0)) (by simp [execOp, Instr.makeMap, hk.eval hx, run_underlying (mapOf_und hT), asInt, asIntOf]) (h _ _ ?_)
  refine hS.new (As := [_]) ((Below.refl _ _).alloc (Nat.le_refl _) _) ⟨fun b => b = w.heap.size, fun b hb => by subst hb; simp, Sep.one ⟨w.heap.size, #[], 0, rfl, rfl, fun _ h => h, heap_alloc_new w _, by simp, by simp⟩⟩

end

section
variable {κ : Type} [DecidableEq κ]

def posK (k : κ) : List (κ × Value) → Nat → Option (Nat × Value)
  | [], _ => none
  | (k', v) :: r, i => if k = k' then some (i, v) else posK k r (i + 1)
def getL (l : List (κ × Value)) (k : κ) : Option Value := (posK k l 0).map (·.2)
def setL : List (κ × Value) → κ → Value → List (κ × Value)
  | [], k, v => [(k, v)]
  | (k', v') :: r, k, v => if k = k' then (k, v) :: r else (k', v') :: setL r k v
def delL : List (κ × Value) → κ → List (κ × Value)
  | [], _ => []
  | (k', v') :: r, k => if k = k' then r else (k', v') :: delL r k

theorem posK_shift (k : κ) : ∀ (l : List (κ × Value)) (i : Nat), (posK k l i).map (·.2) = getL l k
  | [], _ => rfl
  | (k', v) :: r, i => by
    unfold getL
    simp only [posK]
    split
    · rfl
    · rw [posK_shift k r (i + 1), posK_shift k r (0 + 1)]

theorem getL_cons (k k' : κ) (v : Value) (r : List (κ × Value)) : getL ((k', v) :: r) k = if k = k' then some v else getL r k := by
  conv => lhs; unfold getL
  simp only [posK]
  split
  · rfl
  · exact posK_shift k r 1

theorem getL_set (l : List (κ × Value)) (k j : κ) (v : Value) : getL (setL l k v) j = if j = k then some v else getL l j := by
  induction l with
  | nil => simp [setL, getL, posK]
  | cons p r ih =>
    obtain ⟨k', v'⟩ := p
    simp only [setL]
    split
    · rename_i h
      subst h
      simp only [getL_cons]
      split <;> rfl
    · rename_i h
      simp only [getL_cons, ih]
      by_cases h1 : j = k'
      · subst h1
        rw [if_pos rfl, if_neg (fun e => h e.symm), if_pos rfl]
      · rw [if_neg h1, if_neg h1]

theorem getL_none {l : List (κ × Value)} {k : κ} (h : k ∉ l.map Prod.fst) : getL l k = none := by
  induction l with
  | nil => rfl
  | cons p r ih =>
    obtain ⟨k', v'⟩ := p
    simp only [List.map_cons, List.mem_cons, not_or] at h
    rw [getL_cons, if_neg h.1]
    exact ih h.2

theorem getL_del {l : List (κ × Value)} (hn : (l.map Prod.fst).Nodup) (k j : κ) : getL (delL l k) j = if j = k then none else getL l j := by
  induction l with
  | nil => simp [delL, getL, posK]
  | cons p r ih =>
    obtain ⟨k', v'⟩ := p
    simp only [List.map_cons, List.nodup_cons] at hn
    simp only [delL]
    split
    · rename_i h
      subst h
      by_cases h1 : j = k
      · subst h1
        rw [if_pos rfl]
        exact getL_none hn.1
      · rw [if_neg h1, getL_cons, if_neg h1]
    · rename_i h
      simp only [getL_cons, ih hn.2]
      by_cases h1 : j = k'
      · subst h1
        rw [if_pos rfl, if_neg (fun e => h e.symm), if_pos rfl]
      · rw [if_neg h1, if_neg h1]

theorem setL_keys (l : List (κ × Value)) (k : κ) (v : Value) : (setL l k v).map Prod.fst = if k ∈ l.map Prod.fst then l.map Prod.fst else l.map Prod.fst ++ [k] := by
  induction l with
  | nil => simp [setL]
  | cons p r ih =>
    obtain ⟨k', v'⟩ := p
    simp only [setL]
    split
    · rename_i h; subst h; simp
    · rename_i h
      simp only [List.map_cons, ih, List.mem_cons]
      by_cases hm : k ∈ r.map Prod.fst
      · rw [if_pos hm, if_pos (.inr hm)]
      · rw [if_neg hm, if_neg (fun e => e.elim h hm)]
        rfl

theorem setL_nodup {l : List (κ × Value)} (h : (l.map Prod.fst).Nodup) (k : κ) (v : Value) : ((setL l k v).map Prod.fst).Nodup := by
  rw [setL_keys]
  split
  · exact h
  · rename_i hm
    rw [List.nodup_append]
    exact ⟨h, by simp, fun a ha b hb e => hm (by rw [List.mem_singleton] at hb; rw [← hb, ← e]; exact ha)⟩

theorem delL_sub (l : List (κ × Value)) (k : κ) : List.Sublist (delL l k) l := by
  induction l with
  | nil => exact .slnil
  | cons p r ih =>
    obtain ⟨k', v'⟩ := p
    simp only [delL]
    split
    · exact List.sublist_cons_self _ _
    · exact ih.cons_cons _

theorem delL_nodup {l : List (κ × Value)} (h : (l.map Prod.fst).Nodup) (k : κ) : ((delL l k).map Prod.fst).Nodup := h.sublist ((delL_sub l k).map _)

/-- How a map's keys are found. -/
structure KeyT (P : Program) (K : TypeId) (enc : κ → Value) : Prop where
  check : ∀ b k (w : World), (Instr.checkKey b 10000 K (enc k)).run P w = .ok () w
  find : ∀ (k : κ) (es : List MapEntry) (l : List (κ × Value)) (w : World), es.map (fun e => (e.key, e.val)) = l.map (fun p => (enc p.1, p.2)) → (Instr.findKey K (enc k) es).run P w = .ok (posK k l 0) w
  bits : ∀ k, Instr.sameBits 10000 (enc k) (enc k) = true

theorem findNow_pos {enc : κ → Value} {d : TypeDesc} (hd : ∀ j k, Instr.sameNow d (enc j) (enc k) = some (decide (j = k))) (k : κ) : ∀ (es : List MapEntry) (l : List (κ × Value)) (i : Nat),
    es.map (fun e => (e.key, e.val)) = l.map (fun p => (enc p.1, p.2)) → Instr.findNow d (enc k) es i = some (posK k l i)
  | [], [], _, _ => rfl
  | [], _ :: _, _, h => by simp at h
  | _ :: _, [], _, h => by simp at h
  | e :: es, (k', v) :: l, i, h => by
    simp only [List.map_cons, List.cons.injEq, Prod.mk.injEq] at h
    obtain ⟨⟨h1, h2⟩, h3⟩ := h
    simp only [Instr.findNow, posK, h1, hd k k']
    by_cases hk : k = k'
    · simp [hk, h2]
    · simp only [hk, decide_false, if_false]
      exact findNow_pos hd k es l (i + 1) h3

theorem checkKey_int {P : Program} {K : TypeId} {kk : IntKind} (h : P.underlying K = some (.int kk)) (b : Bool) (N : Nat) (v : Value) (w : World) : (Instr.checkKey b (N + 1) K v).run P w = .ok () w := by
  simp [Instr.checkKey, run_underlying h]
theorem checkKey_str {P : Program} {K : TypeId} (h : P.underlying K = some .string) (b : Bool) (N : Nat) (v : Value) (w : World) : (Instr.checkKey b (N + 1) K v).run P w = .ok () w := by
  simp [Instr.checkKey, run_underlying h]

theorem keyInt {P : Program} {K : TypeId} {kk : IntKind} (h : P.underlying K = some (.int kk)) : KeyT P K (fun n : Int => Value.int kk n) where
  check := fun b k w => checkKey_int h b 9999 _ w
  find := fun k es l w he => by
    have := findNow_pos (enc := fun n : Int => Value.int kk n) (d := .int kk) (fun j k => by simp [Instr.sameNow]; rfl) k es l 0 he
    simp only [Instr.findKey, Sem.run_bind, run_underlying h, Result.andThen_ok, this]
    rfl
  bits := fun k => by simp [Instr.sameBits]

theorem keyStr {P : Program} {K : TypeId} (h : P.underlying K = some .string) : KeyT P K (fun s : ByteArray => Value.string s) where
  check := fun b k w => checkKey_str h b 9999 _ w
  find := fun k es l w he => by
    have := findNow_pos (enc := fun s : ByteArray => Value.string s) (d := .string) (fun j k => by
      simp only [Instr.sameNow, Option.some.injEq]
      rw [Bool.eq_iff_iff]; simp [beq_toListBytes, ByteArray.toList_eq]
      exact ⟨fun h => ByteArray.ext h, fun h => by rw [h]⟩) k es l 0 he
    simp only [Instr.findKey, Sem.run_bind, run_underlying h, Result.andThen_ok, this]
    rfl
  bits := fun k => by simp [Instr.sameBits, beq_toListBytes]

variable {P : Program} {a : Act} {w w' : World} {w0 : Bs} {n : Nat} {l : List (Nat × Value)} {L L' : List HP}
  {dst : Option Nat} {R : Value → World → Prop} {ty : TypeId} {pos : String} {af : Array Edge} {g : Option (Nat × Bool)} {enc : κ → Value} {K E T : TypeId} {m : List (κ × Value)}

theorem run_lookup {v : Value} {k : κ} {z : Value} (hm : (mapH enc v m).rd w) (hT : mapOf P T = some (K, E)) (hK : KeyT P K enc) (hz : zeroOf P E = some z) (ok : Bool) :
    (Instr.lookup T v (enc k) ok).run P w = .ok (if ok then .tuple #[(getL m k).getD z, .bool (getL m k).isSome] else (getL m k).getD z) w := by
  obtain ⟨F, b, es, c, rfl, hF, hF', hb, he, _⟩ := hm
  have hf := hK.find k es.toList m w he
  unfold getL
  cases hp : posK k m 0 with
  | none => rw [hp] at hf; cases ok <;> simp [Instr.lookup, run_underlying (mapOf_und hT), getObj, Sem.run, hb, hK.check, hf, zeroOf_run hz]
  | some p => rw [hp] at hf; cases ok <;> simp [Instr.lookup, run_underlying (mapOf_und hT), getObj, Sem.run, hb, hK.check, hf]

theorem g_lookup {x y : Operand} {v : Value} {k : κ} {z : Value} (hk : Kn df n a l) (hm : (mapH enc v m).rd w) (h : R ((getL m k).getD z) w) (hT : mapOf P T = some (K, E)) (hK : KeyT P K enc) (hz : zeroOf P E = some z)
    (hx : ev l x = some v := by rfl) (hy : ev l y = some (enc k) := by rfl) : Gives P ⟨dst, .lookup T x y false, ty, pos, af, g⟩ a w R := by
  refine givesv (v := (getL m k).getD z) ?_ h
  have := run_lookup (k := k) hm hT hK hz false
  simp [execOp, hk.eval hx, hk.eval hy, this]

theorem g_lookupOk {x y : Operand} {v : Value} {k : κ} {z : Value} (hk : Kn df n a l) (hm : (mapH enc v m).rd w) (h : R (.tuple #[(getL m k).getD z, .bool (getL m k).isSome]) w) (hT : mapOf P T = some (K, E)) (hK : KeyT P K enc) (hz : zeroOf P E = some z)
    (hx : ev l x = some v := by rfl) (hy : ev l y = some (enc k) := by rfl) : Gives P ⟨dst, .lookup T x y true, ty, pos, af, g⟩ a w R := by
  refine givesv (v := .tuple #[(getL m k).getD z, .bool (getL m k).isSome]) ?_ h
  have := run_lookup (k := k) hm hT hK hz true
  simp [execOp, hk.eval hx, hk.eval hy, this]

theorem posK_lt {k : κ} : ∀ {l : List (κ × Value)} {i j : Nat} {v : Value}, posK k l i = some (j, v) → i ≤ j ∧ l[j - i]? = some (k, v) ∧ ∀ u, (l.set (j - i) (k, u)) = setL l k u
  | [], _, _, _, h => by simp [posK] at h
  | (k', v') :: r, i, j, v, h => by
    simp only [posK] at h
    split at h
    · rename_i hk
      simp at h
      obtain ⟨rfl, rfl⟩ := h
      subst hk
      exact ⟨Nat.le_refl _, by simp, fun u => by simp [setL]⟩
    · rename_i hk
      obtain ⟨h1, h2, h3⟩ := posK_lt h
      refine ⟨by omega, ?_, fun u => ?_⟩
      · rw [show j - i = (j - (i + 1)) + 1 by omega]; simpa using h2
      · rw [show j - i = (j - (i + 1)) + 1 by omega]
        simp only [List.set_cons_succ, setL, hk, if_false, h3 u]

theorem posK_none {k : κ} : ∀ {l : List (κ × Value)} {i : Nat}, posK k l i = none → ∀ u, setL l k u = l ++ [(k, u)]
  | [], _, _, _ => rfl
  | (k', v') :: r, i, h, u => by
    simp only [posK] at h
    split at h
    · cases h
    · rename_i hk
      simp [setL, hk, posK_none h u]

theorem g_mapUpdate {x y z : Operand} {v u : Value} {k : κ} (hk : Kn df n a l) (hS : St w0 L w) (h : ∀ w', St w0 (mapH enc v (setL m k u) :: L') w' → R undef w') (hT : mapOf P T = some (K, E)) (hK : KeyT P K enc)
    (hx : ev l x = some v := by rfl) (hat : At (mapH enc v m) L L' := by (repeat (first | exact At.here | apply At.there))) (hy : ev l y = some (enc k) := by rfl) (hz : ev l z = some u := by rfl) :
    Gives P ⟨dst, .mapUpdate T x y z, ty, pos, af, g⟩ a w R := by
  obtain ⟨F, b, es, c, hv, hF, hF', hb, he, hn⟩ := hS.rd hat
  subst hv
  have hf := hK.find k es.toList m w he
  have hlt : b < w.heap.size := by
    rcases Nat.lt_or_ge b w.heap.size with h' | h'
    · exact h'
    · rw [Array.getElem?_eq_none h'] at hb; cases hb
  cases hp : posK k m 0 with
  | none =>
    rw [hp] at hf
    refine givesu (w' := { w with heap := w.heap.setIfInBounds b (.map (es.push { key := enc k, val := u, born := c }) (c + 1)) }) ?_ (h _ (hS.setObj hat ?_ (setL_nodup hn k u)))
    · simp [execOp, Instr.mapUpdate, run_underlying (mapOf_und hT), hk.eval hx, hk.eval hy, hk.eval hz, getObj, setObj, Sem.run, hb, hK.check, hf]
    · rw [posK_none hp u]; simp [he]
  | some p =>
    obtain ⟨j, v0⟩ := p
    rw [hp] at hf
    obtain ⟨_, h2, h3⟩ := posK_lt hp
    simp only [Nat.sub_zero] at h2 h3
    have hej : es.toList[j]?.map (fun e => (e.key, e.val)) = some (enc k, v0) := by
      have := congrArg (·[j]?) he
      simpa [h2] using this
    have hkey : ((es[j]?).map (·.key)).getD (enc k) = enc k := by
      cases hes : es[j]? with
      | none => rfl
      | some e =>
        have : es.toList[j]? = some e := by simpa using hes
        rw [this] at hej
        simp at hej
        simp [hej.1]
    refine givesu (w' := { w with heap := w.heap.setIfInBounds b (.map (es.modify j fun e => { e with key := enc k, val := u }) c) }) ?_ (h _ (hS.setObj hat ?_ (setL_nodup hn k u)))
    · simp [execOp, Instr.mapUpdate, run_underlying (mapOf_und hT), hk.eval hx, hk.eval hy, hk.eval hz, getObj, setObj, Sem.run, hb, hK.check, hf, Instr.keyThatStays]
      intro hq
      rw [hkey, hK.bits] at hq
      cases hq
    · rw [← h3 u]
      apply List.ext_getElem?
      intro i
      have hi := congrArg (·[i]?) he
      simp only [List.getElem?_map, Array.getElem?_toList] at hi
      simp only [List.getElem?_map, Array.getElem?_toList, Array.getElem?_modify]
      by_cases hji : j = i
      · subst hji
        have hlt2 : j < m.length := by
          rcases Nat.lt_or_ge j m.length with h' | h'
          · exact h'
          · rw [List.getElem?_eq_none h'] at h2; cases h2
        rw [List.getElem?_set_self hlt2]
        cases hes : es[j]? with
        | none => rw [hes] at hi; simp [h2] at hi
        | some e => simp
      · rw [if_neg hji, List.getElem?_set_ne hji]
        exact hi

theorem delL_pos {k : κ} : ∀ {l : List (κ × Value)} {i j : Nat} {v : Value}, posK k l i = some (j, v) → delL l k = l.eraseIdx (j - i)
  | [], _, _, _, h => by simp [posK] at h
  | (k', v') :: r, i, j, v, h => by
    simp only [posK] at h
    split at h
    · rename_i hk
      simp at h
      obtain ⟨rfl, rfl⟩ := h
      simp [delL, hk]
    · rename_i hk
      have := posK_lt h
      rw [show j - i = (j - (i + 1)) + 1 by omega]
      simp [delL, hk, delL_pos h]

theorem delL_none {k : κ} : ∀ {l : List (κ × Value)} {i : Nat}, posK k l i = none → delL l k = l
  | [], _, _ => rfl
  | (k', v') :: r, i, h => by
    simp only [posK] at h
    split at h
    · cases h
    · rename_i hk
      simp [delL, hk, delL_none h]

theorem g_delete {x y : Operand} {ts : Array TypeId} {v : Value} {k : κ} (hk : Kn df n a l) (hS : St w0 L w) (h : ∀ w', St w0 (mapH enc v (delL m k) :: L') w' → R (.tuple #[]) w') (hts : ts[0]? = some T) (hT : mapOf P T = some (K, E)) (hK : KeyT P K enc)
    (hx : ev l x = some v := by rfl) (hat : At (mapH enc v m) L L' := by (repeat (first | exact At.here | apply At.there))) (hy : ev l y = some (enc k) := by rfl) :
    Gives P ⟨dst, .call { callee := .builtin .delete, args := #[x, y], argTypes := ts }, ty, pos, af, g⟩ a w R := by
  obtain ⟨F, b, es, c, hv, hF, hF', hb, he, hn⟩ := hS.rd hat
  subst hv
  have hf := hK.find k es.toList m w he
  cases hp : posK k m 0 with
  | none =>
    rw [hp] at hf
    refine givesv (v := .tuple #[]) (w' := { w with heap := w.heap.setIfInBounds b (.map es c) }) ?_ (h _ (hS.setObj hat ?_ (delL_nodup hn k)))
    · simp [execOp, resolve, invoke, builtin, Builtin.delete_, run_underlying (mapOf_und hT), hk.eval hx, hk.eval hy, hts, getObj, setObj, Sem.run, hb, hK.check, hf]
    · rw [delL_none hp]; exact he
  | some p =>
    obtain ⟨j, v0⟩ := p
    rw [hp] at hf
    refine givesv (v := .tuple #[]) (w' := { w with heap := w.heap.setIfInBounds b (.map (es.eraseIdxIfInBounds j) c) }) ?_ (h _ (hS.setObj hat ?_ (delL_nodup hn k)))
    · simp [execOp, resolve, invoke, builtin, Builtin.delete_, run_underlying (mapOf_und hT), hk.eval hx, hk.eval hy, hts, getObj, setObj, Sem.run, hb, hK.check, hf]
    · rw [delL_pos hp, Nat.sub_zero]
      have hm : ∀ {α β : Type} (f : α → β) (l : List α) (j : Nat), (l.eraseIdx j).map f = (l.map f).eraseIdx j := by
        intro α β f l
        induction l with
        | nil => intro j; rfl
        | cons x l ih => intro j; cases j with
          | zero => rfl
          | succ j => simp [ih]
      rw [hm, ← he, ← hm]
      simp

end
end Go.Proofs.Ytakejjfmbgbedaa
