/- Slices: those that are read, and those that the call owns. Loops that count. Maps that the call makes: as lists of keys and values. Slices by their elements: each kind of element has its cells. Texts, parts of slices, fields of values, functions as values. Keys that can be put in a row: numbers, and texts as the model compares them. -/
import Derived.Test.YtnjmonkehjlaoaaGreatDoorG03
import Derived.Deep.AppendSrc
import Derived.Laws.MakeOwn
import Derived.Laws.Strings3
import Derived.Laws.DeepStrings4
set_option linter.all false
namespace Go.Proofs.YtnjmonkehjlaoaaGreatDoor
variable {df : List Deferred}
open Go.RowKit
def blk : Value → Nat
 | .slice (some a) _ _ => a.block
 | _ => 0
def offs : Value → Nat
 | .slice (some a) _ _ => a.off
 | _ => 0
def Slr (k n : Nat) (v : Value) (cs : List Value) (w : World) : Prop :=
 cs.length = n * k ∧ n ≤ maxLen ∧ ((v = .slice none 0 0 ∧ n = 0) ∨ ∃ a cap, v = .slice (some a) n cap ∧ n ≤ cap ∧ cap ≤ maxLen ∧ ∀ j u, cs[j]? = some u → a.spot = none ∧ w.cell? ⟨a.block, a.off + j, none⟩ = some u)
theorem Slr.frz {k n : Nat} {v : Value} {cs : List Value} {w w' : World} (h : Slr k n v cs w) (hb : Frz w w') : Slr k n v cs w' := by
 obtain ⟨h1, h2, h3⟩ := h
 refine ⟨h1, h2, ?_⟩
 rcases h3 with h3 | ⟨a, cap, hv, hc, hm, hcell⟩
 ·exact .inl h3
 ·refine .inr ⟨a, cap, hv, hc, hm, fun j u hj => ?_⟩
  obtain ⟨hs, hcl⟩ := hcell j u hj
  exact ⟨hs, Frz.cell hb hcl⟩
theorem St.slr {w0 : Bs} {w : World} {L : List HP} (hS : St w0 L w) {k n : Nat} {v : Value} {cs : List Value} (h : Slr k n v cs w0.g) : Slr k n v cs w := h.frz hS.frz
theorem Slr.cells {k n : Nat} {v : Value} {cs : List Value} {w : World} (h : Slr k n v cs w) {i : Nat} : Cells (blk v) (offs v + i * k) ((cs.drop (i * k)).take k) w := by
 obtain ⟨h1, h2, h3⟩ := h
 intro j u hj
 rw [List.getElem?_take] at hj
 split at hj
 ·rw [List.getElem?_drop] at hj
  rcases h3 with ⟨rfl, rfl⟩ | ⟨a, cap, rfl, _, _, hcell⟩
  ·have : cs = [] := List.eq_nil_of_length_eq_zero (by simpa using h1)
   subst this;simp at hj
  ·have := (hcell _ u hj).2
   simp only [blk, offs]
   rw [show a.off + i * k + j = a.off + (i * k + j) by omega]
   exact this
 ·cases hj
def ints (xs : List Int) : List Value := xs.map (Value.int .i64)
def slo (E : TypeId) (k n : Nat) (v : Value) (cs : List Value) : HP where
 holds F w := cs.length = n * k ∧ n ≤ maxLen ∧ ((v = .slice none 0 0 ∧ n = 0) ∨
  ∃ b off cap cur, v = .slice (some ⟨b, off, none⟩) n cap ∧ F b ∧ (∀ c, F c → c = b) ∧ w.heap[b]? = some (.cells cur E (0, 0)) ∧ n ≤ cap ∧ cap ≤ maxLen ∧ off + cap * k ≤ cur.size ∧ ∀ j u, cs[j]? = some u → cur[off + j]? = some u) ∧
  (∀ c, F c → c < w.heap.size)
 stable := fun F w w' ⟨h1, h2, h3, h4⟩ h => ⟨h1, h2, by
  rcases h3 with h3 | ⟨b, off, cap, cur, hv, hF, hF', hb, hn, hc, hs, hcell⟩
  ·exact .inl h3
  ·exact .inr ⟨b, off, cap, cur, hv, hF, hF', by rw [h b hF];exact hb, hn, hc, hs, hcell⟩, fun c hc => by
   have := h c hc
   have hlt := h4 c hc
   rcases Nat.lt_or_ge c w'.heap.size with h' | h'
   ·exact h'
   ·rw [Array.getElem?_eq_none h', Array.getElem?_eq_getElem hlt] at this;cases this⟩
 dom := fun F w c ⟨_, _, _, h4⟩ hc => h4 c hc
theorem slo.slr {E k n : Nat} {v : Value} {cs : List Value} {w : World} (h : (slo E k n v cs).rd w) : Slr k n v cs w := by
 obtain ⟨F, h1, h2, h3, _⟩ := h
 refine ⟨h1, h2, ?_⟩
 rcases h3 with h3 | ⟨b, off, cap, cur, hv, hF, hF', hb, hn, hc, hs, hcell⟩
 ·exact .inl h3
 ·refine .inr ⟨_, cap, hv, hn, hc, fun j u hj => ⟨rfl, ?_⟩⟩
  rw [cell_of_row w b (off + j) _ E _ hb]
  exact hcell j u hj
theorem slo_nil (E k : Nat) (w : World) : (slo E k 0 (.slice none 0 0) []).holds (fun _ => False) w := ⟨by simp, by simp [maxLen], .inl ⟨rfl, rfl⟩, fun _ h => h.elim⟩
theorem St.conv {w0 : Bs} {w : World} {L L' : List HP} {A : HP} {As : List HP} (h : St w0 L w) (hat : At A L L') (hc : ∀ F, A.holds F w → ∃ G : Nat → Prop, (∀ b, G b → F b) ∧ Sep As G w) : St w0 (As ++ L') w :=
 h.change hat (fun F hF => by
  obtain ⟨G, hG, hs⟩ := hc F hF
  exact ⟨rfl, rfl, rfl, Nat.le_refl _, fun _ _ _ => rfl, G, fun b hb => ⟨.inl (hG b hb), A.dom F w b hF (hG b hb)⟩, hs⟩)
theorem St.ownNil {w0 : Bs} {w : World} {L : List HP} (h : St w0 L w) (E k : Nat) : St w0 (slo E k 0 (.slice none 0 0) [] :: L) w :=
 h.call ⟨Below.refl _ _, Frz.refl _, fun _ => False, fun _ h => h.elim, Sep.one (slo_nil E k w)⟩
theorem St.ptsOwn {w0 : Bs} {w : World} {L L' : List HP} {E k n b : Nat} {us : List Value} (h : St w0 L w) (hat : At (pts b us E) L L') (hl : us.length = n * k) (hn : n ≤ maxLen) : St w0 (slo E k n (.slice (some ⟨b, 0, none⟩) n n) us :: L') w :=
 h.conv (As := [_]) hat (fun F hF => ⟨F, fun _ h => h, Sep.one ⟨hl, hn, .inr ⟨b, 0, n, us.toArray, rfl, hF.1, hF.2.1, hF.2.2, Nat.le_refl _, hn, by simp [hl], fun j u hj => by simpa using hj⟩, fun c hc => (pts b us E).dom F w c hF hc⟩⟩)
theorem St.ownPts {w0 : Bs} {w : World} {L L' : List HP} {E k n b off cap : Nat} {cs : List Value} (h : St w0 L w) (hat : At (slo E k n (.slice (some ⟨b, off, none⟩) n cap) cs) L L') :
  ∃ vs : List Value, St w0 (pts b vs E :: L') w ∧ off + cap * k ≤ vs.length ∧ n ≤ cap ∧ cap ≤ maxLen ∧ cs.length = n * k ∧ ∀ j u, cs[j]? = some u → vs[off + j]? = some u := by
 obtain ⟨F0, h1, h2, h3, h4⟩ := h.rd hat
 rcases h3 with ⟨hv, _⟩ | ⟨b', off', cap', cur, hv, hF, hF', hb, hn, hc, hs, hcell⟩
 ·cases hv
 ·simp only [Value.slice.injEq, Option.some.injEq, Addr.mk.injEq] at hv
  obtain ⟨⟨e1, e2, _⟩, _, e3⟩ := hv
  subst e1;subst e2;subst e3
  refine ⟨cur.toList, ?_, by simpa using hs, hn, hc, h1, fun j u hj => by simpa using hcell j u hj⟩
  refine h.conv (As := [_]) hat (fun F hF2 => ⟨F, fun _ h => h, Sep.one ?_⟩)
  obtain ⟨_, _, g3, _⟩ := hF2
  rcases g3 with ⟨hv, _⟩ | ⟨b', off', cap', cur', hv, gF, gF', gb, _⟩
  ·cases hv
  ·simp only [Value.slice.injEq, Option.some.injEq, Addr.mk.injEq] at hv
   obtain ⟨⟨e1, _, _⟩, _, _⟩ := hv
   subst e1
   exact ⟨gF, gF', by simpa using hb⟩
theorem splice_len : ∀ (us : List Value) (o : Nat) (vs : List Value), (splice vs o us).length = vs.length
 | [], _, _ => rfl
 | u :: us, o, vs => by simp [splice, splice_len us]
theorem splice_get : ∀ (us : List Value) (o : Nat) (vs : List Value) (j : Nat), o + us.length ≤ vs.length → (splice vs o us)[j]? = if o ≤ j ∧ j < o + us.length then us[j - o]? else vs[j]?
 | [], o, vs, j, _ => by
  have : ¬ (o ≤ j ∧ j < o + 0) := by omega
  simp only [splice, List.length_nil]
  rw [if_neg this]
 | u :: us, o, vs, j, h => by
  simp only [splice]
  rw [splice_get us (o + 1) (vs.set o u) j (by simp at h ⊢;omega)]
  simp only [List.length_cons] at h ⊢
  by_cases h1 : o + 1 ≤ j ∧ j < o + 1 + us.length
  ·rw [if_pos h1, if_pos (by omega)]
   rw [show j - o = (j - (o + 1)) + 1 by omega]
   simp
  ·rw [if_neg h1]
   by_cases h2 : j = o
   ·subst h2
    rw [if_pos (by omega)]
    simp [show j < vs.length by omega]
   ·rw [if_neg (by omega), List.getElem?_set_ne (by omega)]
theorem byOf_info {P : Program} {E k : Nat} {z : Value} (hs : szOf P E = some k) (hz : zeroOf P E = some z) : ∃ i, P.info? E = some i ∧ i.size = k ∧ i.zero = some z := by
 unfold szOf at hs
 unfold zeroOf at hz
 cases hi : P.info? E with
 | none => rw [hi] at hs;simp at hs
 | some i => rw [hi] at hs hz;simp at hs hz;exact ⟨i, rfl, hs, hz⟩
section
variable {P : Program} {a : Act} {w w' : World} {w0 : Bs} {n : Nat} {l : List (Nat × Value)} {L L' : List HP}
 {dst : Option Nat} {R : Value → World → Prop} {ty : TypeId} {pos : String} {af : Array Edge} {g : Option (Nat × Bool)}
theorem g_lenSl {x : Operand} {t : TypeId} {k m : Nat} {v : Value} {cs : List Value} (hk : Kn df n a l) (hs : Slr k m v cs w) (h : R (.int .i64 m) w) {E : Nat} (ht : elOf P t = some E)
  (hx : ev l x = some v := by rfl) : Gives P ⟨dst, .call { callee := .builtin .len, args := #[x], argTypes := #[t] }, ty, pos, af, g⟩ a w R := by
 have hv : ∃ ao c, v = .slice ao m c := by
  rcases hs.2.2 with ⟨rfl, rfl⟩ | ⟨a, c, rfl, _⟩
  ·exact ⟨_, _, rfl⟩
  ·exact ⟨_, _, rfl⟩
 obtain ⟨ao, c, rfl⟩ := hv
 refine givesv (v := .int .i64 m) ?_ h
 simp [execOp, resolve, invoke, builtin, hk.eval hx, Builtin.len_, run_underlying (elOf_und ht), goInt]
theorem g_lenSt {x : Operand} {t : TypeId} {s : ByteArray} (hk : Kn df n a l) (h : R (.int .i64 s.size) w) (ht : P.underlying t = some .string)
  (hx : ev l x = some (.string s) := by rfl) : Gives P ⟨dst, .call { callee := .builtin .len, args := #[x], argTypes := #[t] }, ty, pos, af, g⟩ a w R := by
 refine givesv (v := .int .i64 s.size) ?_ h
 simp [execOp, resolve, invoke, builtin, hk.eval hx, Builtin.len_, run_underlying ht, goInt]
theorem g_index {x y : Operand} {t : TypeId} {k m i : Nat} {v : Value} {cs : List Value} {E : Nat} {kk : IntKind} (hk : Kn df n a l) (hs : Slr (k + 1) m v cs w) (hi : i < m) (h : R (.pointer (some ⟨blk v, offs v + i * (k + 1), none⟩)) w)
  (ht : elOf P t = some E) (hE : szOf P E = some (k + 1)) (hx : ev l x = some v := by rfl) (hy : ev l y = some (.int kk (i : Int)) := by rfl) :
  Gives P ⟨dst, .indexAddr t x y, ty, pos, af, g⟩ a w R := by
 rcases hs.2.2 with ⟨rfl, rfl⟩ | ⟨ad, c, rfl, _, _, hcell⟩
 ·omega
 ·have hlt : i * (k + 1) < cs.length := by
   rw [hs.1]
   exact Nat.mul_lt_mul_of_pos_right hi (by omega)
  obtain ⟨hsp, _⟩ := hcell (i * (k + 1)) _ (List.getElem?_eq_getElem hlt)
  obtain ⟨b, o, sp⟩ := ad
  simp only at hsp
  subst hsp
  refine givesv (v := .pointer (some ⟨b, o + i * (k + 1), none⟩)) ?_ h
  have hi0 : (0 : Int) ≤ (i : Int) ∧ (i : Int) < (m : Int) := ⟨by omega, by omega⟩
  simp [execOp, hk.eval hx, hk.eval hy, Instr.indexAt, run_underlying (elOf_und ht), asIntOf, hi, szOf_run hE, addr_add]
def zerosL (z : Value) (m k : Nat) : List Value := (List.range (m * k)).map (fun i => z.cells[i % z.cells.size]!)
theorem g_buildSlice {T E k m : Nat} {parts : List (Nat × Operand)} {vals : List (Nat × Value)} {z : Value} {us : List Value} (hk : Kn df n a l) (hS : St w0 L w)
  (h : ∀ w' v, St w0 (slo E (k + 1) (m + 1) v us :: L) w' → R v w')
  (hT : elOf P T = some E) (hE : szOf P E = some (k + 1)) (hz : zeroOf P E = some z)
  (hp : evP l parts = some vals := by rfl) (hb : bldP (fun i => some (i * (k + 1), k + 1)) (zerosL z (m + 1) (k + 1)) vals = some us := by rfl) (hl : us.length = (m + 1) * (k + 1) := by rfl) (hm : Nat.ble ((m + 1) * (k + 1)) 16777216 = true := by rfl) :
  Gives P ⟨dst, .buildSlice T (m + 1) parts.toArray, ty, pos, af, g⟩ a w R := by
 have hm' := Nat.le_of_ble_eq_true hm
 have hle : m + 1 ≤ maxLen := by
  have : m + 1 ≤ (m + 1) * (k + 1) := Nat.le_mul_of_pos_right _ (by omega)
  simp only [maxLen];omega
 refine givesv (v := .slice (some ⟨w.heap.size, 0, none⟩) (m + 1) (m + 1)) (w' := w.alloc (.cells us.toArray E)) ?_ (h _ _ ((hS.alloc us E).ptsOwn At.here hl hle))
 have he := evP_map hk hp
 have h3 := fill_bldP (fun i => some (i * (k + 1), k + 1)) vals ((Array.range ((m + 1) * (k + 1))).map (fun i => z.cells[i % z.cells.size]!)) us (by simpa [zerosL] using hb)
 have hne : ¬ (m + 1) * (k + 1) = 0 := by have := Nat.mul_pos (show 0 < m + 1 by omega) (show 0 < k + 1 by omega);omega
 simp only [execOp, Instr.buildSlice, Sem.run_bind, run_underlying (elOf_und hT), Result.andThen_ok, szOf_run hE, List.map_toArray, he]
 have hng : ¬ (2 ^ 24 < (m + 1) * (k + 1)) := by omega
 simp [hng, hne, zeroOf_run hz, h3, newRow]
theorem g_append {x y : Operand} {t tx : TypeId} {E k m q : Nat} {v y0 z : Value} {cs news : List Value} (hk : Kn df n a l) (hS : St w0 L w) (hsrc : Src P (k + 1) tx y0 q news w)
  (h : ∀ w' v', St w0 (slo E (k + 1) (m + q) v' (cs ++ news) :: L') w' → R v' w')
  (hT : elOf P t = some E) (hE : szOf P E = some (k + 1)) (hz : zeroOf P E = some z) (hzs : z.cells.size = k + 1) (h63 : m + q ≤ maxLen) {by_ : Nat} (hby : ((P.info? E).map (·.bytes)).getD 0 = by_) (hbytes : (m + q) * by_ ≤ 140737488355328)
  (hx : ev l x = some v := by rfl) (hy : ev l y = some y0 := by rfl)
  (hat : At (slo E (k + 1) m v cs) L L' := by (repeat (first | exact At.here | apply At.there))) :
  Gives P ⟨dst, .call { callee := .builtin .append, args := #[x, y], argTypes := #[t, tx] }, ty, pos, af, g⟩ a w R := by
 obtain ⟨i, hi, his, hiz⟩ := byOf_info hE hz
 have hib : i.bytes = by_ := by rw [hi] at hby;exact hby
 obtain ⟨F0, h1, h2, h3, h4⟩ := hS.rd hat
 have run : ∀ {v' : Value} {w' : World}, (Builtin.append_ #[t, tx] ty #[v, y0]).run P w = .ok v' w' → R v' w' → Gives P ⟨dst, .call { callee := .builtin .append, args := #[x, y], argTypes := #[t, tx] }, ty, pos, af, g⟩ a w R := by
  intro v' w' hr hR
  refine givesv (v := v') ?_ hR
  simp [execOp, resolve, invoke, builtin, hk.eval hx, hk.eval hy, hr]
 -- a new row
 have fresh : ∀ (base : Option Addr) (cap : Nat), v = .slice base m cap → cap < m + q → (Builtin.firstCells i.size m (.slice base m cap)).run P w.drew = .ok cs.toArray w.drew → Gives P ⟨dst, .call { callee := .builtin .append, args := #[x, y], argTypes := #[t, tx] }, ty, pos, af, g⟩ a w R := by
  intro base cap hv hcap hold
  subst hv
  have hsmall : m + q ≤ 9223372036854775807 := by simp only [maxLen] at h63;omega
  have hr := run_append_grow_src (P := P) w t tx ty E i z (elOf_und hT) hi hiz base m cap cs hold y0 q news (by rw [his];exact hsrc) hcap (by omega) (growslice_fits hcap (by rw [hib];exact hbytes))
  refine run hr (h _ _ ?_)
  have hge := grownCap_ge w (m + q) cap E
  have hcm := grownCap_le_maxLen w (m + q) cap E h63
  generalize hgc : grownCap w (m + q) cap E = gc at *
  have hal := hS.drew.alloc ((cs ++ news) ++ (Builtin.zeroCells z.cells (gc - (m + q))).toList) E
  have hww : (w.drew.alloc (.cells ((cs ++ news) ++ (Builtin.zeroCells z.cells (gc - (m + q))).toList).toArray E)) = w.drew.alloc (.cells ((cs ++ news).toArray ++ Builtin.zeroCells z.cells (gc - (m + q))) E) := by
   congr 2
   apply Array.ext'
   simp
  rw [hww] at hal
  have hlen : (cs ++ news).length = (m + q) * (k + 1) := by rw [List.length_append, h1, hsrc.newsLen, Nat.add_mul]
  have hc1 := hal.conv (As := [slo E (k + 1) (m + q) (.slice (some ⟨w.heap.size, 0, none⟩) (m + q) gc) (cs ++ news)]) At.here (fun F hF => ⟨F, fun _ h => h, Sep.one ⟨hlen, h63, .inr ⟨w.heap.size, 0, gc, _, rfl, hF.1, hF.2.1, hF.2.2, hge, hcm, ?_, fun j u hj => ?_⟩, fun c hc => (pts _ _ E).dom F _ c hF hc⟩⟩)
  ·obtain ⟨L2, hat2⟩ : ∃ L2, L2 = L' := ⟨_, rfl⟩
   subst hat2
   refine hc1.sub ?_
   exact .cons At.here (by
    have : ∀ {A : HP} {X Y : List HP}, At A X Y → Sub Y X := by
     intro A X Y h
     induction h with
     | here => exact Sub.cons_drop
     | there _ ih => exact .cons At.here ih
    exact this hat)
  ·have e1 : z.cells.size = k + 1 := hzs
   rw [List.size_toArray, List.length_append, hlen, Array.length_toList, size_zeroCells, e1, ← Nat.add_mul, Nat.zero_add]
   rw [show m + q + (gc - (m + q)) = gc by omega]
   exact Nat.le_refl _
  ·have hlt : j < (cs ++ news).length := by
    rcases Nat.lt_or_ge j (cs ++ news).length with h' | h'
    ·exact h'
    ·rw [List.getElem?_eq_none h'] at hj;cases hj
   rw [Nat.zero_add, List.getElem?_toArray, List.getElem?_append_left hlt]
   exact hj
 rcases h3 with ⟨hv, hm0⟩ | ⟨b, off, cap, cur, hv, hF, hF', hb, hn, hc, hs, hcell⟩
 ·subst hv;subst hm0
  have hcs : cs = [] := List.eq_nil_of_length_eq_zero (by simpa using h1)
  subst hcs
  by_cases hq : q = 0
  ·subst hq
   have hnews : news = [] := List.eq_nil_of_length_eq_zero (by simpa using hsrc.newsLen)
   subst hnews
   have hr : (Builtin.append_ #[t, tx] ty #[.slice none 0 0, y0]).run P w = .ok (.slice none 0 0) w := by
    rcases hsrc.kind with ⟨e', hk'⟩ | hk' <;> simp [Builtin.append_, run_underlying (elOf_und hT), run_underlying hk', sizeOf, typeInfo, hi, hsrc.len, his, hsrc.cells]
   refine run hr (h _ _ ?_)
   exact hS.sub (.cons hat .refl)
  ·exact fresh none 0 rfl (by omega) (by simp [Builtin.firstCells])
 ·subst hv
  by_cases hroom : m + q ≤ cap
  ·obtain ⟨vs, hP, hvl, _, hcm, _, hvs⟩ := hS.ownPts hat
   have hnl := hsrc.newsLen
   have hfit : off + m * (k + 1) + news.length ≤ vs.length := by
    rw [hnl]
    have : (m + q) * (k + 1) ≤ cap * (k + 1) := Nat.mul_le_mul_right _ hroom
    rw [Nat.add_mul] at this
    omega
   obtain ⟨w', hr, hS'⟩ := run_storeCells_own (P := P) news (off + m * (k + 1)) 0 vs w hP At.here hsrc.one (by simpa using hfit)
   have hr2 : (Builtin.append_ #[t, tx] ty #[.slice (some ⟨b, off, none⟩) m cap, y0]).run P w = .ok (.slice (some ⟨b, off, none⟩) (m + q) cap) w' := by
    rcases hsrc.kind with ⟨e', hk'⟩ | hk' <;> simp [Builtin.append_, run_underlying (elOf_und hT), run_underlying hk', sizeOf, typeInfo, hi, hsrc.len, hroom, his, hsrc.cells, addr_add, hr]
   refine run hr2 (h _ _ ?_)
   simp only [Nat.add_zero] at hS'
   refine hS'.conv (As := [_]) At.here (fun F hF => ⟨F, fun _ h => h, Sep.one ⟨by rw [List.length_append, h1, hnl, Nat.add_mul], h63, .inr ⟨b, off, cap, _, rfl, hF.1, hF.2.1, hF.2.2, hroom, hcm, by rw [List.size_toArray, splice_len];exact hvl, fun j u hj => ?_⟩, fun c hc => (pts _ _ E).dom F _ c hF hc⟩⟩)
   rw [List.getElem?_toArray, splice_get _ _ _ _ hfit]
   by_cases hjc : j < cs.length
   ·rw [List.getElem?_append_left hjc] at hj
    rw [if_neg (by rw [h1] at hjc;omega)]
    exact hvs j u hj
   ·rw [List.getElem?_append_right (by omega)] at hj
    have hjn : j - cs.length < news.length := by
     rcases Nat.lt_or_ge (j - cs.length) news.length with h' | h'
     ·exact h'
     ·rw [List.getElem?_eq_none h'] at hj;cases hj
    rw [h1] at hj hjn hjc
    rw [if_pos (by omega)]
    rw [show off + j - (off + m * (k + 1)) = j - m * (k + 1) by omega]
    exact hj
  ·refine fresh _ cap rfl (by omega) ?_
   rw [his]
   refine run_firstCells_some w.drew (k + 1) m ⟨b, off, none⟩ m cap cs h1 (fun j u hj => ?_)
   rw [addr_add]
   have := cell_of_row w b (off + j) _ E _ hb
   show w.cell? ⟨b, off + j, none⟩ = some u
   rw [this]
   exact hcell j u hj
end
end Go.Proofs.YtnjmonkehjlaoaaGreatDoor
namespace Go.Proofs.YtnjmonkehjlaoaaGreatDoor
variable {df : List Deferred}
variable {rr : Option Nat}
open Go.RowKit
inductive KP (l : List (Nat × Value)) : List Nat → List (Nat × Value) → Prop
 | nil : KP l [] []
 | cons {t : Nat} {v : Value} {ts : List Nat} {r : List (Nat × Value)} (h : lk l t = some v) (hr : KP l ts r) : KP l (t :: ts) ((t, v) :: r)
theorem KP.sub {l : List (Nat × Value)} {ts : List Nat} {r : List (Nat × Value)} (h : KP l ts r) : subK l r := by
 induction h with
 | nil => trivial
 | cons h _ ih => exact ⟨h, ih⟩
theorem Kn.keep {n : Nat} {a : Act} {l r : List (Nat × Value)} {ts : List Nat} (hk : Kn df n a l) (h : KP l ts r) : Kn df n a r := hk.sub h.sub
def subD (l : List (Nat × Value)) : List Nat → List (Nat × Value) → Prop
 | _, [] => True
 | seen, (x, v) :: r => (match seen.contains x with | true => True | false => lk l x = some v) ∧ subD l (x :: seen) r
theorem subD.get {l : List (Nat × Value)} : ∀ {r : List (Nat × Value)} {seen : List Nat}, subD l seen r → ∀ x v, seen.contains x = false → lk r x = some v → lk l x = some v
 | [], _, _, _, _, _, h => by simp [lk] at h
 | (y, u) :: r, seen, ⟨h1, h2⟩, x, v, hs, h => by
  by_cases hx : y = x
  ·subst hx
   rw [lk_cons_same] at h
   injection h with h
   subst h
   rw [hs] at h1
   exact h1
  ·rw [lk_cons_ne u r hx] at h
   refine subD.get h2 x v ?_ h
   simp only [List.contains_cons, hs, Bool.or_false, beq_eq_false_iff_ne, ne_eq]
   exact fun e => hx e.symm
theorem Kn.subD {n : Nat} {a : Act} {l r : List (Nat × Value)} (hk : Kn df n a l) (h : Proofs.YtnjmonkehjlaoaaGreatDoor.subD l [] r) : Kn df n a r :=
 ⟨hk.size, fun x v hx => hk.get x v (h.get x v rfl hx), hk.defers⟩
section
variable {P : Program} {Q : Exit → Act → World → Prop} {a : Act} {w : World} {w0 : Bs} {n : Nat} {l0 : List (Nat × Value)}
theorem lk_app {V l : List (Nat × Value)} {x : Nat} {v : Value} : lk (V ++ l) x = some v → lk V x = some v ∨ (lk V x = none ∧ lk l x = some v) := by
 induction V with
 | nil => intro h;exact .inr ⟨rfl, h⟩
 | cons p V ih =>
  obtain ⟨y, u⟩ := p
  intro h
  by_cases hx : y = x
  ·subst hx
   simp only [List.cons_append, lk_cons_same] at h ⊢
   exact .inl h
  ·simp only [List.cons_append, lk_cons_ne _ _ hx] at h ⊢
   exact ih h
theorem Kn.app {V : List (Nat × Value)} (hk : Kn df n a l0) (hV : subK l0 V) : Kn df n a (V ++ l0) :=
 ⟨hk.size, fun x v hx => by
  rcases lk_app hx with h | ⟨_, h⟩
  ·exact hk.get x v (hV.lk x v h)
  ·exact hk.get x v h, hk.defers⟩
theorem wp_for {ι : Type} {c : Code} (N : Nat) (V : Nat → ι → List (Nat × Value)) (Ls : Nat → ι → List HP) (F : Nat → ι → Prop) (x0 : ι) (hk : Kn df n a l0) (hV : subK l0 (V 0 x0)) (hS : St w0 (Ls 0 x0) w) (hF : F 0 x0)
  (step : ∀ (i : Nat) (x : ι) (a : Act) (w : World), i ≤ N → Kn df n a (V i x ++ l0) → St w0 (Ls i x) w → F i x →
   c.wpIn (FR rr) 0 P (Exit.then (fun a' w' => i < N ∧ ∃ x', Kn df n a' (V (i + 1) x' ++ l0) ∧ St w0 (Ls (i + 1) x') w' ∧ F (i + 1) x') Q) a w) : (Code.loop c).wpIn (FR rr) 0 P Q a w := by
 refine wp_loopN (fun k a w => ∃ i x, i ≤ N ∧ k = N - i ∧ Kn df n a (V i x ++ l0) ∧ St w0 (Ls i x) w ∧ F i x) (k := N) ⟨0, x0, by omega, by omega, hk.app hV, hS, hF⟩ ?_
 rintro k a w ⟨i, x, hi, rfl, hk, hS, hF⟩
 refine wpIn_mono (step i x a w hi hk hS hF) ?_
 intro e a' w' hq
 cases e with
 | normal =>
  obtain ⟨hlt, x', h1, h2, h3⟩ := hq
  exact ⟨N - (i + 1), by omega, i + 1, x', by omega, rfl, h1, h2, h3⟩
 | exit i => exact hq
 | goto i => exact hq
 | ret => exact hq
 | panic c => exact hq
 | outgrown => exact hq
end
end Go.Proofs.YtnjmonkehjlaoaaGreatDoor
namespace Go.Proofs.YtnjmonkehjlaoaaGreatDoor
variable {df : List Deferred}
open Go.RowKit
section
variable {κ : Type}
def mapH (enc : κ → Value) (v : Value) (l : List (κ × Value)) : HP where
 holds F w := ∃ b es c, v = .map (some b) ∧ F b ∧ (∀ c, F c → c = b) ∧ w.heap[b]? = some (.map es c) ∧ es.toList.map (fun e => (e.key, e.val)) = l.map (fun p => (enc p.1, p.2)) ∧ (l.map Prod.fst).Nodup
 stable := fun F w w' ⟨b, es, c, h1, h2, h3, h4, h5⟩ h => ⟨b, es, c, h1, h2, h3, by rw [h b h2];exact h4, h5⟩
 dom := fun F w x ⟨b, es, c, h1, h2, h3, h4, h5⟩ hx => by
  rw [h3 x hx]
  rcases Nat.lt_or_ge b w.heap.size with h' | h'
  ·exact h'
  ·rw [Array.getElem?_eq_none h'] at h4;cases h4
theorem St.setObj {w0 : Bs} {w : World} {L L' : List HP} {enc : κ → Value} {b : Nat} {l l' : List (κ × Value)} {es' : Array MapEntry} {c' : Nat} (h : St w0 L w) (hat : At (mapH enc (.map (some b)) l) L L')
  (he : es'.toList.map (fun e => (e.key, e.val)) = l'.map (fun p => (enc p.1, p.2))) (hn : (l'.map (·.1)).Nodup) : St w0 (mapH enc (.map (some b)) l' :: L') { w with heap := w.heap.setIfInBounds b (.map es' c') } := by
 refine h.change (As := [_]) hat (fun F ⟨b2, es, c, h1, h2, h3, h4, h5⟩ => ?_)
 have hb : b2 = b := by injection h1 with h1;injection h1 with h1;exact h1.symm
 subst hb
 have hlt : b2 < w.heap.size := by
  rcases Nat.lt_or_ge b2 w.heap.size with h' | h'
  ·exact h'
  ·rw [Array.getElem?_eq_none h'] at h4;cases h4
 refine ⟨rfl, rfl, rfl, by simp, fun x _ hx => ?_, F, fun x hx => ⟨.inl hx, ?_⟩, Sep.one ⟨b2, es', c', rfl, h2, h3, ?_, he, hn⟩⟩
 ·have : b2 ≠ x := fun e => hx (by rw [← e];exact h2)
  simp [Array.getElem?_setIfInBounds_ne this]
 ·rw [h3 x hx];simpa using hlt
 ·simp [hlt]
variable {P : Program} {a : Act} {w w' : World} {w0 : Bs} {n : Nat} {l : List (Nat × Value)} {L L' : List HP}
 {dst : Option Nat} {R : Value → World → Prop} {ty : TypeId} {pos : String} {af : Array Edge} {g : Option (Nat × Bool)} {enc : κ → Value} {K E T : TypeId} {m : List (κ × Value)}
theorem mapOf_und {T K E : Nat} (h : mapOf P T = some (K, E)) : P.underlying T = some (.map K E) := by
 unfold mapOf at h
 cases hu : P.underlying T with
 | none => rw [hu] at h;simp at h
 | some d => rw [hu] at h;cases d <;> simp at h;rw [h.1, h.2]
theorem g_makeMap (enc : κ → Value) (hS : St w0 L w) (h : ∀ w' v, St w0 (mapH enc v [] :: L) w' → R v w') : Gives P ⟨dst, .makeMap T none, ty, pos, af, g⟩ a w R := by
 refine givesv (v := .map (some w.heap.size)) (w' := w.alloc (.map #[] 0)) (by simp [execOp, Instr.makeMap]) (h _ _ ?_)
 refine hS.new (As := [_]) ((Below.refl _ _).alloc (Nat.le_refl _) _) ⟨fun b => b = w.heap.size, fun b hb => by subst hb;simp, Sep.one ⟨w.heap.size, #[], 0, rfl, rfl, fun _ h => h, heap_alloc_new w _, by simp, by simp⟩⟩
end
section
variable {κ : Type} [DecidableEq κ]
def posK (k : κ) : List (κ × Value) → Nat → Option (Nat × Value)
 | [], _ => none
 | (k', v) :: r, i => if k = k' then some (i, v) else posK k r (i + 1)
def getL (l : List (κ × Value)) (k : κ) : Option Value := (posK k l 0).map (·.2)
def setL : List (κ × Value) → κ → Value → List (κ × Value)
 | [], k, v => [(k, v)]
 | (k', v') :: r, k, v => if k = k' then (k, v) :: r else (k', v') :: setL r k v
def delL : List (κ × Value) → κ → List (κ × Value)
 | [], _ => []
 | (k', v') :: r, k => if k = k' then r else (k', v') :: delL r k
theorem posK_shift (k : κ) : ∀ (l : List (κ × Value)) (i : Nat), (posK k l i).map (·.2) = getL l k
 | [], _ => rfl
 | (k', v) :: r, i => by
  unfold getL
  simp only [posK]
  split
  ·rfl
  ·rw [posK_shift k r (i + 1), posK_shift k r (0 + 1)]
theorem getL_cons (k k' : κ) (v : Value) (r : List (κ × Value)) : getL ((k', v) :: r) k = if k = k' then some v else getL r k := by
 conv => lhs;unfold getL
 simp only [posK]
 split
 ·rfl
 ·exact posK_shift k r 1
theorem getL_set (l : List (κ × Value)) (k j : κ) (v : Value) : getL (setL l k v) j = if j = k then some v else getL l j := by
 induction l with
 | nil => simp [setL, getL, posK]
 | cons p r ih =>
  obtain ⟨k', v'⟩ := p
  simp only [setL]
  split
  ·rename_i h
   subst h
   simp only [getL_cons]
   split <;> rfl
  ·rename_i h
   simp only [getL_cons, ih]
   by_cases h1 : j = k'
   ·subst h1
    rw [if_pos rfl, if_neg (fun e => h e.symm), if_pos rfl]
   ·rw [if_neg h1, if_neg h1]
theorem getL_none {l : List (κ × Value)} {k : κ} (h : k ∉ l.map Prod.fst) : getL l k = none := by
 induction l with
 | nil => rfl
 | cons p r ih =>
  obtain ⟨k', v'⟩ := p
  simp only [List.map_cons, List.mem_cons, not_or] at h
  rw [getL_cons, if_neg h.1]
  exact ih h.2
theorem setL_keys (l : List (κ × Value)) (k : κ) (v : Value) : (setL l k v).map Prod.fst = if k ∈ l.map Prod.fst then l.map Prod.fst else l.map Prod.fst ++ [k] := by
 induction l with
 | nil => simp [setL]
 | cons p r ih =>
  obtain ⟨k', v'⟩ := p
  simp only [setL]
  split
  ·rename_i h;subst h;simp
  ·rename_i h
   simp only [List.map_cons, ih, List.mem_cons]
   by_cases hm : k ∈ r.map Prod.fst
   ·rw [if_pos hm, if_pos (.inr hm)]
   ·rw [if_neg hm, if_neg (fun e => e.elim h hm)]
    rfl
theorem setL_nodup {l : List (κ × Value)} (h : (l.map Prod.fst).Nodup) (k : κ) (v : Value) : ((setL l k v).map Prod.fst).Nodup := by
 rw [setL_keys]
 split
 ·exact h
 ·rename_i hm
  rw [List.nodup_append]
  exact ⟨h, by simp, fun a ha b hb e => hm (by rw [List.mem_singleton] at hb;rw [← hb, ← e];exact ha)⟩
structure KeyT (P : Program) (K : TypeId) (enc : κ → Value) : Prop where
 check : ∀ b k (w : World), (Instr.checkKey b 10000 K (enc k)).run P w = .ok () w
 find : ∀ (k : κ) (es : List MapEntry) (l : List (κ × Value)) (w : World), es.map (fun e => (e.key, e.val)) = l.map (fun p => (enc p.1, p.2)) → (Instr.findKey K (enc k) es).run P w = .ok (posK k l 0) w
 bits : ∀ k, Instr.sameBits 10000 (enc k) (enc k) = true
theorem findNow_pos {enc : κ → Value} {d : TypeDesc} (hd : ∀ j k, Instr.sameNow d (enc j) (enc k) = some (decide (j = k))) (k : κ) : ∀ (es : List MapEntry) (l : List (κ × Value)) (i : Nat),
  es.map (fun e => (e.key, e.val)) = l.map (fun p => (enc p.1, p.2)) → Instr.findNow d (enc k) es i = some (posK k l i)
 | [], [], _, _ => rfl
 | [], _ :: _, _, h => by simp at h
 | _ :: _, [], _, h => by simp at h
 | e :: es, (k', v) :: l, i, h => by
  simp only [List.map_cons, List.cons.injEq, Prod.mk.injEq] at h
  obtain ⟨⟨h1, h2⟩, h3⟩ := h
  simp only [Instr.findNow, posK, h1, hd k k']
  by_cases hk : k = k'
  ·simp [hk, h2]
  ·simp only [hk, decide_false, if_false]
   exact findNow_pos hd k es l (i + 1) h3
theorem checkKey_int {P : Program} {K : TypeId} {kk : IntKind} (h : P.underlying K = some (.int kk)) (b : Bool) (N : Nat) (v : Value) (w : World) : (Instr.checkKey b (N + 1) K v).run P w = .ok () w := by
 simp [Instr.checkKey, run_underlying h]
theorem checkKey_str {P : Program} {K : TypeId} (h : P.underlying K = some .string) (b : Bool) (N : Nat) (v : Value) (w : World) : (Instr.checkKey b (N + 1) K v).run P w = .ok () w := by
 simp [Instr.checkKey, run_underlying h]
theorem keyInt {P : Program} {K : TypeId} {kk : IntKind} (h : P.underlying K = some (.int kk)) : KeyT P K (fun n : Int => Value.int kk n) where
 check := fun b k w => checkKey_int h b 9999 _ w
 find := fun k es l w he => by
  have := findNow_pos (enc := fun n : Int => Value.int kk n) (d := .int kk) (fun j k => by simp [Instr.sameNow];rfl) k es l 0 he
  simp only [Instr.findKey, Sem.run_bind, run_underlying h, Result.andThen_ok, this]
  rfl
 bits := fun k => by simp [Instr.sameBits]
theorem keyStr {P : Program} {K : TypeId} (h : P.underlying K = some .string) : KeyT P K (fun s : ByteArray => Value.string s) where
 check := fun b k w => checkKey_str h b 9999 _ w
 find := fun k es l w he => by
  have := findNow_pos (enc := fun s : ByteArray => Value.string s) (d := .string) (fun j k => by
   simp only [Instr.sameNow, Option.some.injEq]
   rw [Bool.eq_iff_iff];simp [beq_toListBytes, ByteArray.toList_eq]
   exact ⟨fun h => ByteArray.ext h, fun h => by rw [h]⟩) k es l 0 he
  simp only [Instr.findKey, Sem.run_bind, run_underlying h, Result.andThen_ok, this]
  rfl
 bits := fun k => by simp [Instr.sameBits, beq_toListBytes]
variable {P : Program} {a : Act} {w w' : World} {w0 : Bs} {n : Nat} {l : List (Nat × Value)} {L L' : List HP}
 {dst : Option Nat} {R : Value → World → Prop} {ty : TypeId} {pos : String} {af : Array Edge} {g : Option (Nat × Bool)} {enc : κ → Value} {K E T : TypeId} {m : List (κ × Value)}
theorem run_lookup {v : Value} {k : κ} {z : Value} (hm : (mapH enc v m).rd w) (hT : mapOf P T = some (K, E)) (hK : KeyT P K enc) (hz : zeroOf P E = some z) (ok : Bool) :
  (Instr.lookup T v (enc k) ok).run P w = .ok (if ok then .tuple #[(getL m k).getD z, .bool (getL m k).isSome] else (getL m k).getD z) w := by
 obtain ⟨F, b, es, c, rfl, hF, hF', hb, he, _⟩ := hm
 have hf := hK.find k es.toList m w he
 unfold getL
 cases hp : posK k m 0 with
 | none => rw [hp] at hf;cases ok <;> simp [Instr.lookup, run_underlying (mapOf_und hT), getObj, Sem.run, hb, hK.check, hf, zeroOf_run hz]
 | some p => rw [hp] at hf;cases ok <;> simp [Instr.lookup, run_underlying (mapOf_und hT), getObj, Sem.run, hb, hK.check, hf]
theorem g_lookup {x y : Operand} {v : Value} {k : κ} {z : Value} (hk : Kn df n a l) (hm : (mapH enc v m).rd w) (h : R ((getL m k).getD z) w) (hT : mapOf P T = some (K, E)) (hK : KeyT P K enc) (hz : zeroOf P E = some z)
  (hx : ev l x = some v := by rfl) (hy : ev l y = some (enc k) := by rfl) : Gives P ⟨dst, .lookup T x y false, ty, pos, af, g⟩ a w R := by
 refine givesv (v := (getL m k).getD z) ?_ h
 have := run_lookup (k := k) hm hT hK hz false
 simp [execOp, hk.eval hx, hk.eval hy, this]
theorem posK_lt {k : κ} : ∀ {l : List (κ × Value)} {i j : Nat} {v : Value}, posK k l i = some (j, v) → i ≤ j ∧ l[j - i]? = some (k, v) ∧ ∀ u, (l.set (j - i) (k, u)) = setL l k u
 | [], _, _, _, h => by simp [posK] at h
 | (k', v') :: r, i, j, v, h => by
  simp only [posK] at h
  split at h
  ·rename_i hk
   simp at h
   obtain ⟨rfl, rfl⟩ := h
   subst hk
   exact ⟨Nat.le_refl _, by simp, fun u => by simp [setL]⟩
  ·rename_i hk
   obtain ⟨h1, h2, h3⟩ := posK_lt h
   refine ⟨by omega, ?_, fun u => ?_⟩
   ·rw [show j - i = (j - (i + 1)) + 1 by omega];simpa using h2
   ·rw [show j - i = (j - (i + 1)) + 1 by omega]
    simp only [List.set_cons_succ, setL, hk, if_false, h3 u]
theorem posK_none {k : κ} : ∀ {l : List (κ × Value)} {i : Nat}, posK k l i = none → ∀ u, setL l k u = l ++ [(k, u)]
 | [], _, _, _ => rfl
 | (k', v') :: r, i, h, u => by
  simp only [posK] at h
  split at h
  ·cases h
  ·rename_i hk
   simp [setL, hk, posK_none h u]
theorem g_mapUpdate {x y z : Operand} {v u : Value} {k : κ} (hk : Kn df n a l) (hS : St w0 L w) (h : ∀ w', St w0 (mapH enc v (setL m k u) :: L') w' → R undef w') (hT : mapOf P T = some (K, E)) (hK : KeyT P K enc)
  (hx : ev l x = some v := by rfl) (hat : At (mapH enc v m) L L' := by (repeat (first | exact At.here | apply At.there))) (hy : ev l y = some (enc k) := by rfl) (hz : ev l z = some u := by rfl) :
  Gives P ⟨dst, .mapUpdate T x y z, ty, pos, af, g⟩ a w R := by
 obtain ⟨F, b, es, c, hv, hF, hF', hb, he, hn⟩ := hS.rd hat
 subst hv
 have hf := hK.find k es.toList m w he
 have hlt : b < w.heap.size := by
  rcases Nat.lt_or_ge b w.heap.size with h' | h'
  ·exact h'
  ·rw [Array.getElem?_eq_none h'] at hb;cases hb
 cases hp : posK k m 0 with
 | none =>
  rw [hp] at hf
  refine givesu (w' := { w with heap := w.heap.setIfInBounds b (.map (es.push { key := enc k, val := u, born := c }) (c + 1)) }) ?_ (h _ (hS.setObj hat ?_ (setL_nodup hn k u)))
  ·simp [execOp, Instr.mapUpdate, run_underlying (mapOf_und hT), hk.eval hx, hk.eval hy, hk.eval hz, getObj, setObj, Sem.run, hb, hK.check, hf]
  ·rw [posK_none hp u];simp [he]
 | some p =>
  obtain ⟨j, v0⟩ := p
  rw [hp] at hf
  obtain ⟨_, h2, h3⟩ := posK_lt hp
  simp only [Nat.sub_zero] at h2 h3
  have hej : es.toList[j]?.map (fun e => (e.key, e.val)) = some (enc k, v0) := by
   have := congrArg (·[j]?) he
   simpa [h2] using this
  have hkey : ((es[j]?).map (·.key)).getD (enc k) = enc k := by
   cases hes : es[j]? with
   | none => rfl
   | some e =>
    have : es.toList[j]? = some e := by simpa using hes
    rw [this] at hej
    simp at hej
    simp [hej.1]
  refine givesu (w' := { w with heap := w.heap.setIfInBounds b (.map (es.modify j fun e => { e with key := enc k, val := u }) c) }) ?_ (h _ (hS.setObj hat ?_ (setL_nodup hn k u)))
  ·simp [execOp, Instr.mapUpdate, run_underlying (mapOf_und hT), hk.eval hx, hk.eval hy, hk.eval hz, getObj, setObj, Sem.run, hb, hK.check, hf, Instr.keyThatStays]
   intro hq
   rw [hkey, hK.bits] at hq
   cases hq
  ·rw [← h3 u]
   apply List.ext_getElem?
   intro i
   have hi := congrArg (·[i]?) he
   simp only [List.getElem?_map, Array.getElem?_toList] at hi
   simp only [List.getElem?_map, Array.getElem?_toList, Array.getElem?_modify]
   by_cases hji : j = i
   ·subst hji
    have hlt2 : j < m.length := by
     rcases Nat.lt_or_ge j m.length with h' | h'
     ·exact h'
     ·rw [List.getElem?_eq_none h'] at h2;cases h2
    rw [List.getElem?_set_self hlt2]
    cases hes : es[j]? with
    | none => rw [hes] at hi;simp [h2] at hi
    | some e => simp
   ·rw [if_neg hji, List.getElem?_set_ne hji]
    exact hi
end
end Go.Proofs.YtnjmonkehjlaoaaGreatDoor
namespace Go.Proofs.YtnjmonkehjlaoaaGreatDoor
variable {df : List Deferred}
open Go.RowKit
class Enc (α : Type) where
 k : Nat
 f : α → List Value
 len : ∀ x, (f x).length = k + 1
 one : ∀ x, ∀ u ∈ f x, u.oneCell' = true
instance encInt : Enc Int := ⟨0, fun n => [.int .i64 n], fun _ => rfl, fun _ u h => by rw [List.mem_singleton] at h; subst h; rfl⟩
instance encStr : Enc ByteArray := ⟨0, fun s => [.string s], fun _ => rfl, fun _ u h => by rw [List.mem_singleton] at h; subst h; rfl⟩
instance encBool : Enc Bool := ⟨0, fun b => [.bool b], fun _ => rfl, fun _ u h => by rw [List.mem_singleton] at h; subst h; rfl⟩
structure Hd where
 a : Option Addr
 n : Nat
 c : Nat
def Hd.v (h : Hd) : Value := .slice h.a h.n h.c
instance encHd : Enc Hd := ⟨0, fun h => [h.v], fun _ => rfl, fun _ u h => by rw [List.mem_singleton] at h; subst h; rfl⟩
instance encProd {α β : Type} [Enc α] [Enc β] : Enc (α × β) := ⟨Enc.k α + Enc.k β + 1, fun p => Enc.f p.1 ++ Enc.f p.2, fun p => by rw [List.length_append, Enc.len, Enc.len]; omega,
 fun p u h => (List.mem_append.1 h).elim (Enc.one p.1 u) (Enc.one p.2 u)⟩
section
variable {α : Type} [Enc α]
def enc (xs : List α) : List Value := xs.flatMap Enc.f
theorem enc_len : ∀ xs : List α, (enc xs).length = xs.length * (Enc.k α + 1)
 | [] => by simp [enc]
 | x :: xs => by
  have := enc_len xs
  unfold enc at this ⊢
  rw [List.flatMap_cons, List.length_append, Enc.len, this, List.length_cons, Nat.add_mul]
  omega
theorem enc_cons (x : α) (xs : List α) : enc (x :: xs) = Enc.f x ++ enc xs := by simp [enc]
theorem enc_append (xs ys : List α) : enc (xs ++ ys) = enc xs ++ enc ys := by simp [enc]
theorem enc_get : ∀ (xs : List α) (i : Nat) (hi : i < xs.length), ((enc xs).drop (i * (Enc.k α + 1))).take (Enc.k α + 1) = Enc.f xs[i]
 | x :: xs, 0, _ => by
  rw [enc_cons, Nat.zero_mul, List.drop_zero, ← Enc.len x]
  simp
 | x :: xs, i + 1, hi => by
  have := enc_get xs i (by simpa using hi)
  rw [enc_cons, show (i + 1) * (Enc.k α + 1) = (Enc.f x).length + i * (Enc.k α + 1) by rw [Enc.len, Nat.add_mul];omega, List.drop_length_add_append]
  simpa using this
theorem enc_one (xs : List α) : ∀ u ∈ enc xs, u.oneCell' = true := fun u h => by
 obtain ⟨x, _, hx⟩ := List.mem_flatMap.1 h
 exact Enc.one x u hx
theorem enc_drop : ∀ (xs : List α) (i : Nat), (enc xs).drop (i * (Enc.k α + 1)) = enc (xs.drop i)
 | xs, 0 => by simp
 | [], i + 1 => by simp [enc]
 | x :: xs, i + 1 => by
  rw [enc_cons, show (i + 1) * (Enc.k α + 1) = (Enc.f x).length + i * (Enc.k α + 1) by rw [Enc.len, Nat.add_mul];omega, List.drop_length_add_append, enc_drop xs i]
  rfl
theorem enc_take : ∀ (xs : List α) (i : Nat), (enc xs).take (i * (Enc.k α + 1)) = enc (xs.take i)
 | xs, 0 => by simp [enc]
 | [], i + 1 => by simp [enc]
 | x :: xs, i + 1 => by
  rw [enc_cons, show (i + 1) * (Enc.k α + 1) = (Enc.f x).length + i * (Enc.k α + 1) by rw [Enc.len, Nat.add_mul];omega, List.take_length_add_append, enc_take xs i, List.take_succ_cons, enc_cons]
def SlT (xs : List α) (v : Value) (w : World) : Prop := Slr (Enc.k α + 1) xs.length v (enc xs) w
def OwT (E : TypeId) (xs : List α) (v : Value) : HP := slo E (Enc.k α + 1) xs.length v (enc xs)
theorem St.rdT {w0 : Bs} {w : World} {L : List HP} (hS : St w0 L w) {xs : List α} {v : Value} (h : SlT xs v w0.g) : SlT xs v w := St.slr hS h
theorem SlT.frz {xs : List α} {v : Value} {w w' : World} (h : SlT xs v w) (hb : Frz w w') : SlT xs v w' := Slr.frz h hb
theorem OwT.rd {E : TypeId} {xs : List α} {v : Value} {w : World} (h : (OwT E xs v).rd w) : SlT xs v w := slo.slr h
theorem SlT.at {xs : List α} {v : Value} {w : World} (h : SlT xs v w) {i : Nat} (hi : i < xs.length) : Cells (blk v) (offs v + i * (Enc.k α + 1)) (Enc.f xs[i]) w := by
 have := Slr.cells h (i := i)
 rw [enc_get xs i hi] at this
 exact this
theorem SlT.len_le {xs : List α} {v : Value} {w : World} (h : SlT xs v w) : xs.length ≤ maxLen := h.2.1
theorem SlT.nil (w : World) : SlT ([] : List α) (.slice none 0 0) w := ⟨by simp [enc], by simp [maxLen], .inl ⟨rfl, rfl⟩⟩
theorem St.nilT {w0 : Bs} {w : World} {L : List HP} (h : St w0 L w) (E : TypeId) (α : Type) [Enc α] : St w0 (OwT E ([] : List α) (.slice none 0 0) :: L) w := h.ownNil E _
theorem SlT.shape {xs : List α} {v : Value} {w : World} (h : SlT xs v w) : ∃ ao c, v = .slice ao xs.length c ∧ (ao = none → xs = [] ∧ c = 0) ∧ xs.length ≤ c ∧ c ≤ maxLen := by
 rcases h.2.2 with ⟨hv, h0⟩ | ⟨a, c, hv, hc, hm, _⟩
 ·refine ⟨none, 0, by rw [hv, h0], fun _ => ⟨List.eq_nil_of_length_eq_zero h0, rfl⟩, by omega, by simp⟩
 ·refine ⟨some a, c, hv, fun h => ?_, hc, hm⟩
  cases h
end
section
variable {P : Program} {a : Act} {w w' : World} {w0 : Bs} {n : Nat} {l : List (Nat × Value)} {L L' : List HP}
 {dst : Option Nat} {R : Value → World → Prop} {ty : TypeId} {pos : String} {af : Array Edge} {g : Option (Nat × Bool)} {α : Type} [Enc α]
theorem g_lenT {x : Operand} {t : TypeId} {v : Value} {xs : List α} (hk : Kn df n a l) (h : R (.int .i64 xs.length) w) (hx : ev l x = some v := by rfl) {E : Nat} (ht : elOf P t = some E) (hs : SlT xs v w) :
  Gives P ⟨dst, .call { callee := .builtin .len, args := #[x], argTypes := #[t] }, ty, pos, af, g⟩ a w R :=
 g_lenSl hk hs h ht hx
theorem g_ixT {x y : Operand} {t : TypeId} {i : Nat} {v : Value} {xs : List α} {E : Nat} {kk : IntKind} (hk : Kn df n a l) (h : R (.pointer (some ⟨blk v, offs v + i * (Enc.k α + 1), none⟩)) w)
  (hx : ev l x = some v := by rfl) (hy : ev l y = some (.int kk (i : Int)) := by rfl) (ht : elOf P t = some E) (hs : SlT xs v w) (hi : i < xs.length) (hE : szOf P E = some (Enc.k α + 1)) :
  Gives P ⟨dst, .indexAddr t x y, ty, pos, af, g⟩ a w R := g_index hk hs hi h ht hE hx hy
theorem g_ixTi {x y : Operand} {t : TypeId} {p : Int} {v : Value} {xs : List α} {E : Nat} {kk : IntKind} (hk : Kn df n a l) (h : R (.pointer (some ⟨blk v, offs v + p.toNat * (Enc.k α + 1), none⟩)) w)
  (hx : ev l x = some v := by rfl) (hy : ev l y = some (.int kk p) := by rfl) (ht : elOf P t = some E) (hs : SlT xs v w) (h0 : 0 ≤ p) (hi : p < xs.length) (hE : szOf P E = some (Enc.k α + 1)) :
  Gives P ⟨dst, .indexAddr t x y, ty, pos, af, g⟩ a w R :=
 g_index (i := p.toNat) hk hs (by omega) h ht hE hx (by rw [Int.toNat_of_nonneg h0];exact hy)
theorem SlT.get {xs : List α} {v : Value} {w : World} (h : SlT xs v w) {i : Nat} {x : α} (hi : xs[i]? = some x) : Cells (blk v) (offs v + i * (Enc.k α + 1)) (Enc.f x) w := by
 obtain ⟨h1, rfl⟩ := List.getElem?_eq_some_iff.1 hi
 exact h.at h1
theorem take_snoc {β : Type} {xs : List β} {i : Nat} {x : β} (h : xs[i]? = some x) : xs.take (i + 1) = xs.take i ++ [x] := by
 rw [List.take_add_one, h];rfl
theorem lt_of_get {β : Type} {xs : List β} {i : Nat} {x : β} (h : xs[i]? = some x) : i < xs.length := (List.getElem?_eq_some_iff.1 h).1
theorem g_ldT1 {x : Operand} {T : TypeId} {v : Value} {i : Nat} {xs : List α} {e : α} {u : Value} (hk : Kn df n a l) (h : R u w) (hT : aggOf P T = some false)
  (hx : ev l x = some (.pointer (some ⟨blk v, offs v + i * (Enc.k α + 1), none⟩)) := by rfl) (hs : SlT xs v w) (hi : xs[i]? = some e) (hu : Enc.f e = [u] := by rfl) :
  Gives P ⟨dst, .load T x, ty, pos, af, g⟩ a w R := by
 have hc := hs.get hi
 rw [hu] at hc
 exact g_load1 hk h hT (hc.get (j := 0) rfl) hx
theorem g_ldTN {x : Operand} {T : TypeId} {v : Value} {i : Nat} {xs : List α} {e : α} {us : List Value} (hk : Kn df n a l) (h : R (.agg us.toArray) w) (hT : aggOf P T = some true)
  (hx : ev l x = some (.pointer (some ⟨blk v, offs v + i * (Enc.k α + 1), none⟩)) := by rfl) (hs : SlT xs v w) (hi : xs[i]? = some e) (hu : Enc.f e = us) (hz : szOf P T = some (Enc.k α + 1)) :
  Gives P ⟨dst, .load T x, ty, pos, af, g⟩ a w R := by
 subst hu
 refine g_loadN hk h hT (hs.get hi) ?_ hx
 rw [Enc.len];exact hz
theorem g_ldTF {x : Operand} {T : TypeId} {v : Value} {i f : Nat} {xs : List α} {e : α} {u : Value} (hk : Kn df n a l) (h : R u w) (hT : aggOf P T = some false)
  (hx : ev l x = some (.pointer (some ⟨blk v, offs v + i * (Enc.k α + 1) + f, none⟩)) := by rfl) (hs : SlT xs v w) (hi : xs[i]? = some e) (hu : (Enc.f e)[f]? = some u := by rfl) :
  Gives P ⟨dst, .load T x, ty, pos, af, g⟩ a w R :=
 g_load1 hk h hT ((hs.get hi).get hu) hx
theorem Src.ofT {tx E : TypeId} {ys : List α} {v : Value} (hT : elOf P tx = some E) (hs : SlT ys v w) : Src P (Enc.k α + 1) tx v ys.length (enc ys) w := by
 obtain ⟨h1, h2, h3⟩ := hs
 rcases h3 with ⟨rfl, h0⟩ | ⟨ad, c, rfl, hn, hc, hcell⟩
 ·have : ys = [] := List.eq_nil_of_length_eq_zero h0
  subst this
  exact Src.ofNil w (elOf_und hT) 0
 ·refine Src.ofSlice w (elOf_und hT) ad _ c (enc ys) h1 (fun j u hj => ?_) (enc_one ys)
  obtain ⟨hsp, hcl⟩ := hcell j u hj
  obtain ⟨b, o, sp⟩ := ad
  simp only at hsp
  subst hsp
  rw [addr_add]
  exact hcl
theorem g_appT {x y : Operand} {t tx : TypeId} {E E' : Nat} {v y0 z : Value} {xs ys : List α} (hk : Kn df n a l) (hS : St w0 L w)
  (h : ∀ w' v', St w0 (OwT E (xs ++ ys) v' :: L') w' → R v' w')
  (hx : ev l x = some v := by rfl) (hy : ev l y = some y0 := by rfl)
  (hat : At (OwT E xs v) L L' := by (repeat (first | exact At.here | apply At.there)))
  (hT : elOf P t = some E) (hTx : elOf P tx = some E') (hE : szOf P E = some (Enc.k α + 1)) (hz : zeroOf P E = some z) (hzs : z.cells.size = Enc.k α + 1) (hs : SlT ys y0 w) {by_ : Nat} (hby : ((P.info? E).map (·.bytes)).getD 0 = by_) (hbytes : (xs.length + ys.length) * by_ ≤ 140737488355328) (h63 : xs.length + ys.length ≤ maxLen) :
  Gives P ⟨dst, .call { callee := .builtin .append, args := #[x, y], argTypes := #[t, tx] }, ty, pos, af, g⟩ a w R :=
 g_append hk hS (Src.ofT hTx hs) (fun w' v' hS' => h w' v' (by
  have : OwT E (xs ++ ys) v' = slo E (Enc.k α + 1) (xs.length + ys.length) v' (enc xs ++ enc ys) := by unfold OwT;rw [enc_append, List.length_append]
  rw [this];exact hS')) hT hE hz hzs h63 hby hbytes hx hy hat
theorem At.rest {A : HP} {X Y : List HP} (h : At A X Y) : Sub Y X := by
 induction h with
 | here => exact Sub.cons_drop
 | there _ ih => exact .cons At.here ih
theorem g_appD {x y : Operand} {t tx : TypeId} {E E' : Nat} {v y0 z : Value} {xs ys : List α} {L'' : List HP} (hk : Kn df n a l) (hS : St w0 L w)
  (h : ∀ w' v', St w0 (OwT E (xs ++ ys) v' :: L'') w' → R v' w')
  (hx : ev l x = some v := by rfl) (hy : ev l y = some y0 := by rfl)
  (hat : At (OwT E xs v) L L' := by (repeat (first | exact At.here | apply At.there)))
  (hT : elOf P t = some E) (hTx : elOf P tx = some E')
  (hat2 : At (OwT E' ys y0) L' L'' := by (repeat (first | exact At.here | apply At.there)))
  (hE : szOf P E = some (Enc.k α + 1)) (hz : zeroOf P E = some z) (hzs : z.cells.size = Enc.k α + 1) {by_ : Nat} (hby : ((P.info? E).map (·.bytes)).getD 0 = by_) (hbytes : (xs.length + ys.length) * by_ ≤ 140737488355328) (h63 : xs.length + ys.length ≤ maxLen) :
  Gives P ⟨dst, .call { callee := .builtin .append, args := #[x, y], argTypes := #[t, tx] }, ty, pos, af, g⟩ a w R :=
 g_appT hk hS (fun w' v' hS' => h w' v' (hS'.sub (.cons .here hat2.rest))) hx hy hat hT hTx hE hz hzs (OwT.rd (hS.sub hat.rest |>.rd hat2)) hby hbytes h63
theorem g_bsT {T E : Nat} {q : List (Nat × Operand)} {vals : List (Nat × Value)} {z : Value} {xs : List α} {m : Nat} (hk : Kn df n a l) (hS : St w0 L w)
  (h : ∀ w' v, St w0 (OwT E xs v :: L) w' → R v w')
  (hp : evP l q = some vals := by rfl)
  (hT : elOf P T = some E) (hE : szOf P E = some (Enc.k α + 1)) (hz : zeroOf P E = some z)
  (hb : bldP (fun i => some (i * (Enc.k α + 1), Enc.k α + 1)) (zerosL z (m + 1) (Enc.k α + 1)) vals = some (enc xs) := by rfl) (hl : xs.length = m + 1 := by rfl) (hm : Nat.ble ((m + 1) * (Enc.k α + 1)) 16777216 = true := by rfl) :
  Gives P ⟨dst, .buildSlice T (m + 1) q.toArray, ty, pos, af, g⟩ a w R :=
 g_buildSlice hk hS (fun w' v hS' => h w' v (by unfold OwT;rw [hl];exact hS')) hT hE hz hp hb (by rw [enc_len, hl]) hm
theorem enc_set : ∀ (xs : List α) (i : Nat) (y : α), i < xs.length → ∀ j, (enc (xs.set i y))[j]? = if i * (Enc.k α + 1) ≤ j ∧ j < i * (Enc.k α + 1) + (Enc.k α + 1) then (Enc.f y)[j - i * (Enc.k α + 1)]? else (enc xs)[j]?
 | [], i, _, h, _ => by simp at h
 | x :: xs, 0, y, _, j => by
  simp only [List.set_cons_zero, enc_cons, Nat.zero_mul, Nat.zero_add, Nat.zero_le, true_and, Nat.sub_zero]
  by_cases hj : j < Enc.k α + 1
  ·rw [if_pos hj, List.getElem?_append_left (by rw [Enc.len];exact hj)]
  ·rw [if_neg hj, List.getElem?_append_right (by rw [Enc.len];omega), List.getElem?_append_right (by rw [Enc.len];omega), Enc.len, Enc.len]
 | x :: xs, i + 1, y, h, j => by
  have ih := enc_set xs i y (by simpa using h)
  simp only [List.set_cons_succ, enc_cons]
  rw [Nat.add_mul, Nat.one_mul]
  by_cases hj : j < Enc.k α + 1
  ·rw [List.getElem?_append_left (by rw [Enc.len];exact hj), List.getElem?_append_left (by rw [Enc.len];exact hj), if_neg (by omega)]
  ·rw [List.getElem?_append_right (by rw [Enc.len];omega), List.getElem?_append_right (by rw [Enc.len];omega), Enc.len, ih]
   by_cases h1 : i * (Enc.k α + 1) ≤ j - (Enc.k α + 1) ∧ j - (Enc.k α + 1) < i * (Enc.k α + 1) + (Enc.k α + 1)
   ·rw [if_pos h1, if_pos (by omega)]
    congr 1
    omega
   ·rw [if_neg h1, if_neg (by omega)]
theorem mul_lt_of {i m k : Nat} (h : i < m) : i * (k + 1) + (k + 1) ≤ m * (k + 1) := by
 have := Nat.mul_le_mul_right (k + 1) h
 rwa [Nat.succ_mul] at this
theorem St.setT {E : TypeId} {v : Value} {i : Nat} {xs : List α} {y : α} (hS : St w0 L w) (hat : At (OwT E xs v) L L') (hi : i < xs.length) :
  ∃ w', (storeCells ⟨blk v, offs v + i * (Enc.k α + 1), none⟩ (Enc.f y) 0).run P w = .ok () w' ∧ St w0 (OwT E (xs.set i y) v :: L') w' := by
 obtain ⟨F0, _, _, h3, _⟩ := hS.rd hat
 rcases h3 with ⟨_, h0⟩ | ⟨b, off, cap, cur, rfl, _⟩
 ·omega
 ·obtain ⟨vs, hP, hvl, hn, hcm, hcl, hvs⟩ := hS.ownPts hat
  have hle := mul_lt_of (k := Enc.k α) hi
  have hle2 : xs.length * (Enc.k α + 1) ≤ cap * (Enc.k α + 1) := Nat.mul_le_mul_right _ hn
  have hfit : off + i * (Enc.k α + 1) + (Enc.f y).length ≤ vs.length := by rw [Enc.len];omega
  obtain ⟨w', hr, hS'⟩ := run_storeCells_own (P := P) (Enc.f y) (off + i * (Enc.k α + 1)) 0 vs w hP At.here (Enc.one y) (by simpa using hfit)
  refine ⟨w', hr, ?_⟩
  simp only [Nat.add_zero] at hS'
  refine hS'.conv (As := [_]) At.here (fun F hF => ⟨F, fun _ h => h, Sep.one ⟨by rw [enc_len], by rw [List.length_set];exact Nat.le_trans hn hcm, .inr ⟨b, off, cap, _, by rw [List.length_set], hF.1, hF.2.1, hF.2.2, by rw [List.length_set];exact hn, hcm, by rw [List.size_toArray, splice_len];exact hvl, fun j u hj => ?_⟩, fun c hc => (pts _ _ E).dom F _ c hF hc⟩⟩)
  rw [List.getElem?_toArray, splice_get _ _ _ _ hfit, Enc.len]
  rw [enc_set xs i y hi] at hj
  by_cases h1 : i * (Enc.k α + 1) ≤ j ∧ j < i * (Enc.k α + 1) + (Enc.k α + 1)
  ·rw [if_pos h1] at hj
   rw [if_pos (by omega), show off + j - (off + i * (Enc.k α + 1)) = j - i * (Enc.k α + 1) by omega]
   exact hj
  ·rw [if_neg h1] at hj
   rw [if_neg (by omega)]
   exact hvs j u hj
theorem g_stT {x y : Operand} {T E : TypeId} {v u : Value} {i : Nat} {xs : List α} {z : α} (hk : Kn df n a l) (hS : St w0 L w) (h : ∀ w', St w0 (OwT E (xs.set i z) v :: L') w' → R undef w')
  (hx : ev l x = some (.pointer (some ⟨blk v, offs v + i * (Enc.k α + 1), none⟩)) := by rfl) (hy : ev l y = some u := by rfl) (hat : At (OwT E xs v) L L' := by (repeat (first | exact At.here | apply At.there)))
  (hu : u.cells.toList = Enc.f z := by rfl) (hsz : szOf P T = some (Enc.k α + 1)) (hi : i < xs.length) :
  Gives P ⟨dst, .store T x y, ty, pos, af, g⟩ a w R := by
 obtain ⟨w', hr, hS'⟩ := St.setT (P := P) (y := z) hS hat hi
 refine givesu (w' := w') ?_ (h w' hS')
 have hv : u.cells = (Enc.f z).toArray := by rw [← hu]
 simp [execOp, hk.eval hx, hk.eval hy, Instr.storeAt, Instr.sureAddr, storeVar, szOf_run hsz, hv, hr, Enc.len]
end
end Go.Proofs.YtnjmonkehjlaoaaGreatDoor
namespace Go.Proofs.YtnjmonkehjlaoaaGreatDoor
variable {df : List Deferred}
open Go.RowKit
section
variable {P : Program} {a : Act} {w w' : World} {w0 : Bs} {n : Nat} {l : List (Nat × Value)} {L L' : List HP}
 {dst : Option Nat} {R : Value → World → Prop} {ty : TypeId} {pos : String} {af : Array Edge} {g : Option (Nat × Bool)} {α : Type} [Enc α]
theorem toList_beq (s t : ByteArray) : (s.toList == t.toList) = decide (s = t) := by
 rw [Bool.eq_iff_iff]
 simp [ByteArray.toList_eq]
 exact ⟨fun h => ByteArray.ext h, fun h => by rw [h]⟩
theorem g_eqS {x y : Operand} {t t' : TypeId} {s r : ByteArray} (hk : Kn df n a l) (h : R (.bool (decide (s = r))) w)
  (hx : ev l x = some (.string s) := by rfl) (hy : ev l y = some (.string r) := by rfl) : Gives P ⟨dst, .binOp .eql t x y t', ty, pos, af, g⟩ a w R :=
 givesv (v := .bool (decide (s = r))) (by simp [execOp, hk.eval hx, hk.eval hy, eqGuard, binOp_string_eql, toList_beq]) h
theorem g_neS {x y : Operand} {t t' : TypeId} {s r : ByteArray} (hk : Kn df n a l) (h : R (.bool (!decide (s = r))) w)
  (hx : ev l x = some (.string s) := by rfl) (hy : ev l y = some (.string r) := by rfl) : Gives P ⟨dst, .binOp .neq t x y t', ty, pos, af, g⟩ a w R :=
 givesv (v := .bool (!decide (s = r))) (by simp [execOp, hk.eval hx, hk.eval hy, eqGuard, binOp_string_neq, toList_beq]) h
theorem g_eqST {x y : Operand} {t t' : TypeId} {s r : ByteArray} (hk : Kn df n a l) (h : R (.bool true) w)
  (hx : ev l x = some (.string s) := by rfl) (hy : ev l y = some (.string r) := by rfl) (hpq : s = r) : Gives P ⟨dst, .binOp .eql t x y t', ty, pos, af, g⟩ a w R :=
 g_eqS hk (by rw [decide_eq_true hpq];exact h) hx hy
theorem g_eqSF {x y : Operand} {t t' : TypeId} {s r : ByteArray} (hk : Kn df n a l) (h : R (.bool false) w)
  (hx : ev l x = some (.string s) := by rfl) (hy : ev l y = some (.string r) := by rfl) (hpq : ¬ s = r) : Gives P ⟨dst, .binOp .eql t x y t', ty, pos, af, g⟩ a w R :=
 g_eqS hk (by rw [decide_eq_false hpq];exact h) hx hy
theorem g_neST {x y : Operand} {t t' : TypeId} {s r : ByteArray} (hk : Kn df n a l) (h : R (.bool true) w)
  (hx : ev l x = some (.string s) := by rfl) (hy : ev l y = some (.string r) := by rfl) (hpq : ¬ s = r) : Gives P ⟨dst, .binOp .neq t x y t', ty, pos, af, g⟩ a w R :=
 g_neS hk (by rw [decide_eq_false hpq];exact h) hx hy
theorem g_neSF {x y : Operand} {t t' : TypeId} {s r : ByteArray} (hk : Kn df n a l) (h : R (.bool false) w)
  (hx : ev l x = some (.string s) := by rfl) (hy : ev l y = some (.string r) := by rfl) (hpq : s = r) : Gives P ⟨dst, .binOp .neq t x y t', ty, pos, af, g⟩ a w R :=
 g_neS hk (by rw [decide_eq_true hpq];exact h) hx hy
theorem g_cat {x y : Operand} {t t' : TypeId} {s r : ByteArray} (hk : Kn df n a l) (h : R (.string (s ++ r)) w)
  (hx : ev l x = some (.string s) := by rfl) (hy : ev l y = some (.string r) := by rfl) (hl : s.size + r.size ≤ maxLen) : Gives P ⟨dst, .binOp .add t x y t', ty, pos, af, g⟩ a w R := by
 refine givesv (v := .string (s ++ r)) ?_ h
 have hm : (IntKind.i64.max : Int) = 9223372036854775807 := by decide
 have hn : ¬ (IntKind.i64.max < ((s.size + r.size : Nat) : Int)) := by
  rw [hm];simp only [maxLen] at hl;omega
 simp only [execOp, hk.eval hx, hk.eval hy, eqGuard, binOp_string_add, Op.stringOp]
 simp only [gt_iff_lt, if_neg hn]
 rfl
theorem g_slSt {x y : Operand} {t : TypeId} {s : ByteArray} {k : IntKind} {j : Int} (hk : Kn df n a l) (h : R (.string (s.extract 0 j.toNat)) w) (hx : ev l x = some (.string s) := by rfl) (hy : ev l y = some (.int k j) := by rfl)
  (ht : P.underlying t = some .string) (h0 : 0 ≤ j) (h1 : j ≤ s.size) : Gives P ⟨dst, .slice t x none (some y) none, ty, pos, af, g⟩ a w R := by
 refine givesv (v := .string (s.extract 0 j.toNat)) ?_ h
 have := run_slice_string_to_if (P := P) w t s k j ht
 rw [if_pos ⟨h0, h1⟩] at this
 simp [execOp, hk.eval hx, hk.eval hy, Instr.sliceAt, run_underlying ht, this]
theorem g_slSf {x y : Operand} {t : TypeId} {s : ByteArray} {k : IntKind} {i : Int} (hk : Kn df n a l) (h : R (.string (s.extract i.toNat s.size)) w) (hx : ev l x = some (.string s) := by rfl) (hy : ev l y = some (.int k i) := by rfl)
  (ht : P.underlying t = some .string) (h0 : 0 ≤ i) (h1 : i ≤ s.size) : Gives P ⟨dst, .slice t x (some y) none none, ty, pos, af, g⟩ a w R := by
 refine givesv (v := .string (s.extract i.toNat s.size)) ?_ h
 have := run_slice_string_from_if (P := P) w t s k i ht
 rw [if_pos ⟨h0, h1⟩] at this
 simp [execOp, hk.eval hx, hk.eval hy, Instr.sliceAt, run_underlying ht, this]
theorem g_slS {x y z : Operand} {t : TypeId} {s : ByteArray} {k k' : IntKind} {i j : Int} (hk : Kn df n a l) (h : R (.string (s.extract i.toNat j.toNat)) w) (hx : ev l x = some (.string s) := by rfl) (hy : ev l y = some (.int k i) := by rfl) (hz : ev l z = some (.int k' j) := by rfl)
  (ht : P.underlying t = some .string) (h0 : 0 ≤ i) (h1 : i ≤ j) (h2 : j ≤ s.size) : Gives P ⟨dst, .slice t x (some y) (some z) none, ty, pos, af, g⟩ a w R := by
 refine givesv (v := .string (s.extract i.toNat j.toNat)) ?_ h
 have := run_slice_string (P := P) w t s k k' i j ht h0 h1 h2
 simp [execOp, hk.eval hx, hk.eval hy, hk.eval hz, Instr.sliceAt, run_underlying ht, this]
theorem g_ixS {x y : Operand} {t : TypeId} {s : ByteArray} {k : IntKind} {i : Nat} (hk : Kn df n a l) (hx : ev l x = some (.string s) := by rfl) (hy : ev l y = some (.int k (i : Int)) := by rfl)
  (ht : P.underlying t = some .string) (h1 : i < s.size) (h : R (.int .u8 (s[i].toNat : Nat)) w) : Gives P ⟨dst, .index t x y, ty, pos, af, g⟩ a w R := by
 refine givesv (v := .int .u8 (s[i].toNat : Nat)) ?_ h
 have h0 : (0 : Int) ≤ (i : Int) := by omega
 simp [execOp, hk.eval hx, hk.eval hy, Instr.index, asIntOf, run_underlying ht, h0, ByteArray.getElem?_lt' s i h1]
theorem g_ixS0 {x y : Operand} {t : TypeId} {s : ByteArray} {k : IntKind} (hk : Kn df n a l) (hx : ev l x = some (.string s) := by rfl) (hy : ev l y = some (.int k 0) := by rfl)
  (ht : P.underlying t = some .string) (h1 : 0 < s.size) (h : R (.int .u8 (s[0].toNat : Nat)) w) : Gives P ⟨dst, .index t x y, ty, pos, af, g⟩ a w R :=
 g_ixS (i := 0) hk hx hy ht h1 h
theorem SlT.part {xs : List α} {v : Value} {w : World} (h : SlT xs v w) {i j : Nat} (hij : i ≤ j) (hj : j ≤ xs.length) :
  ∃ ao c, v = .slice ao xs.length c ∧ SlT ((xs.take j).drop i) (.slice (if c = i then ao else ao.map (·.add (i * (Enc.k α + 1)))) (j - i) (c - i)) w := by
 have hl : ((xs.take j).drop i).length = j - i := by simp;omega
 obtain ⟨h1, h2, h3⟩ := h
 have he : enc ((xs.take j).drop i) = ((enc xs).take (j * (Enc.k α + 1))).drop (i * (Enc.k α + 1)) := by rw [enc_take, enc_drop]
 rcases h3 with ⟨rfl, h0⟩ | ⟨ad, c, rfl, hn, hc, hcell⟩
 ·have e1 : i = 0 := by omega
  have e2 : j = 0 := by omega
  subst e1;subst e2
  refine ⟨none, 0, by rw [h0], ?_⟩
  simp only [List.take_zero, List.drop_nil, if_true]
  exact SlT.nil w
 ·refine ⟨some ad, c, rfl, by rw [enc_len], by rw [hl];omega, ?_⟩
  right
  refine ⟨if c = i then ad else ad.add (i * (Enc.k α + 1)), c - i, by rw [hl];congr 1;split <;> rfl, by omega, by omega, fun q u hq => ?_⟩
  have hql : q < (enc ((xs.take j).drop i)).length := by
   rcases Nat.lt_or_ge q (enc ((xs.take j).drop i)).length with h' | h'
   ·exact h'
   ·rw [List.getElem?_eq_none h'] at hq;cases hq
  have hci : ¬ c = i := by
   intro e
   rw [enc_len, hl] at hql
   have : j - i = 0 := by omega
   rw [this] at hql
   omega
  rw [if_neg hci]
  rw [he, List.getElem?_drop, List.getElem?_take] at hq
  split at hq
  ·obtain ⟨hsp, hcl⟩ := hcell _ u hq
   obtain ⟨b, o, sp⟩ := ad
   simp only at hsp
   subst hsp
   rw [addr_add]
   refine ⟨rfl, ?_⟩
   simp only
   rw [Nat.add_assoc]
   exact hcl
  ·cases hq
theorem g_part {x : Operand} {y z : Option Operand} {vy vz : Option Value} {t E i j : Nat} {v : Value} {xs : List α} (hk : Kn df n a l)
  (h : ∀ v', (∀ w1, SlT xs v w1 → SlT ((xs.take j).drop i) v' w1) → R v' w) (hx : ev l x = some v) (hs : SlT xs v w) (ht : elOf P t = some E) (hE : szOf P E = some (Enc.k α + 1)) (hij : i ≤ j) (hj : j ≤ xs.length)
  (hev : ∀ ρ : Operand → Value, (∀ o u, ev l o = some u → ρ o = u) → y.map ρ = vy ∧ z.map ρ = vz) (hb : ∀ (w1 : World) (c : Nat), xs.length ≤ c → (Instr.sliceBounds true xs.length c vy vz none).run P w1 = .ok (i, j, c) w1) :
  Gives P ⟨dst, .slice t x y z none, ty, pos, af, g⟩ a w R := by
 obtain ⟨ao, c, hv, _, hc, _⟩ := hs.shape
 refine givesv (v := .slice (if c = i then ao else ao.map (·.add (i * (Enc.k α + 1)))) (j - i) (c - i)) ?_ (h _ (fun w1 h1 => ?_))
 ·obtain ⟨e1, e2⟩ := hev a.eval (fun o u ho => hk.eval ho)
  subst hv
  have hbb := hb w c hc
  simp [execOp, hk.eval hx, e1, e2, Instr.sliceAt, Instr.slice, run_underlying (elOf_und ht), hbb, szOf_run hE]
 ·obtain ⟨ao', c', hv', hh⟩ := h1.part hij hj
  rw [hv] at hv'
  cases hv'
  exact hh
theorem g_partT {x y : Operand} {t E j : Nat} {v : Value} {xs : List α} {k : IntKind} (hk : Kn df n a l)
  (h : ∀ v', (∀ w1, SlT xs v w1 → SlT (xs.take j) v' w1) → R v' w) (hx : ev l x = some v := by rfl) (hy : ev l y = some (.int k (j : Int)) := by rfl) (ht : elOf P t = some E) (hs : SlT xs v w) (hE : szOf P E = some (Enc.k α + 1)) (hj : j ≤ xs.length) :
  Gives P ⟨dst, .slice t x none (some y) none, ty, pos, af, g⟩ a w R := by
 refine g_part (i := 0) (j := j) (vy := none) (vz := some (.int k j)) hk (fun v' h' => h v' (by simpa using h')) hx hs ht hE (by omega) hj (fun ρ hρ => ⟨rfl, by simp [hρ y _ hy]⟩) (fun w1 c hc => ?_)
 have h1 : (0 : Int) ≤ (j : Int) ∧ (j : Int) ≤ (c : Int) := ⟨by omega, by omega⟩
 have hjc : j ≤ c := Nat.le_trans hj hc
 simp [Instr.sliceBounds, Instr.sliceBound, asIntOf, hjc]
theorem g_partF {x y : Operand} {t E i : Nat} {v : Value} {xs : List α} {k : IntKind} (hk : Kn df n a l)
  (h : ∀ v', (∀ w1, SlT xs v w1 → SlT (xs.drop i) v' w1) → R v' w) (hx : ev l x = some v := by rfl) (hy : ev l y = some (.int k (i : Int)) := by rfl) (ht : elOf P t = some E) (hs : SlT xs v w) (hE : szOf P E = some (Enc.k α + 1)) (hi : i ≤ xs.length) :
  Gives P ⟨dst, .slice t x (some y) none none, ty, pos, af, g⟩ a w R := by
 refine g_part (i := i) (j := xs.length) (vy := some (.int k i)) (vz := none) hk (fun v' h' => h v' (by simpa using h')) hx hs ht hE hi (Nat.le_refl _) (fun ρ hρ => ⟨by simp [hρ y _ hy], rfl⟩) (fun w1 c hc => ?_)
 simp [Instr.sliceBounds, Instr.sliceBound, asIntOf, hi]
theorem g_makeFunc {f : Fn} {first cap : List Operand} {vf vc : List Value} (hk : Kn df n a l) (h : R (.func f vf.toArray vc.toArray) w) (h1 : evs l first = some vf := by rfl) (h2 : evs l cap = some vc := by rfl) :
  Gives P ⟨dst, .makeFunc f first.toArray cap.toArray, ty, pos, af, g⟩ a w R := by
 refine givesv (v := .func f vf.toArray vc.toArray) ?_ h
 have e1 := evs_map hk h1
 have e2 := evs_map hk h2
 simp [execOp, Instr.makeFunc, e1, e2]
theorem g_shr {x y : Operand} {t t' : TypeId} {k k' : IntKind} {p : Int} {m : Nat} (hk : Kn df n a l) (h : R (.int k (p.fdiv (2 ^ m))) w) (hx : ev l x = some (.int k p) := by rfl) (hy : ev l y = some (.int k' (m : Int)) := by rfl) (hm : m ≤ k.bits) :
  Gives P ⟨dst, .binOp .shr t x y t', ty, pos, af, g⟩ a w R := by
 refine givesv (v := .int k (p.fdiv (2 ^ m))) ?_ h
 have h0 : ¬ ((m : Int) < 0) := by omega
 simp [execOp, hk.eval hx, hk.eval hy, eqGuard, binOp, Op.shift, h0, Nat.min_eq_left hm]
theorem g_convI {x : Operand} {t t' : TypeId} {k k' : IntKind} {p : Int} (hk : Kn df n a l) (h : R (.int k (k.wrap p)) w) (hx : ev l x = some (.int k' p) := by rfl) (ht : P.underlying t' = some (.int k)) {d : TypeDesc} (hs : P.underlying t = some d) :
  Gives P ⟨dst, .convert t t' x, ty, pos, af, g⟩ a w R := by
 refine givesv (v := .int k (k.wrap p)) ?_ h
 simp [execOp, hk.eval hx, convert, run_underlying ht, run_underlying hs, Conv.intToInt]
theorem g_callO {R' : Value → World → Prop} {f : FuncId} {xs : List Operand} {vs : List Value} {ts : Array TypeId} (hk : Kn df n a l) (hxs : evs l xs = some vs := by rfl) (hf : callable P f = true) (hc : Calls P f vs.toArray w (Ret R'))
  (h : ∀ v w', R' v w' → R v w') : Gives P ⟨dst, .call { callee := .value (.func f), args := xs.toArray, argTypes := ts }, ty, pos, af, g⟩ a w R :=
 g_call hk hf hc h hxs
def ptv (us : List Value) (E : TypeId) (v : Value) : HP where
 holds F w := ∃ b, v = .pointer (some ⟨b, 0, none⟩) ∧ (pts b us E).holds F w
 stable := fun F w w' ⟨b, hv, h⟩ hh => ⟨b, hv, (pts b us E).stable F w w' h hh⟩
 dom := fun F w x ⟨b, _, h⟩ hx => (pts b us E).dom F w x h hx
theorem v_bsT {T E : Nat} {q : List (Nat × Operand)} {vals : List (Nat × Value)} {z : Value} {xs : List α} {m : Nat} (hk : Kn df n a l)
  (hp : evP l q = some vals := by rfl)
  (hT : elOf P T = some E) (hE : szOf P E = some (Enc.k α + 1)) (hz : zeroOf P E = some z)
  (hb : bldP (fun i => some (i * (Enc.k α + 1), Enc.k α + 1)) (zerosL z (m + 1) (Enc.k α + 1)) vals = some (enc xs) := by rfl) (hl : xs.length = m + 1 := by rfl) (hm : Nat.ble ((m + 1) * (Enc.k α + 1)) 16777216 = true := by rfl) :
  Gives P ⟨dst, .buildSlice T (m + 1) q.toArray, ty, pos, af, g⟩ a w (fun v w' => St w [OwT E xs v] w') :=
 g_bsT hk (St.refl w) (fun _ _ h => h) hp hT hE hz hb hl hm
theorem v_app {x y : Operand} {t tx : TypeId} {E E' : Nat} {v y0 z : Value} {xs ys : List α} {X : List HP} (hk : Kn df n a l) (hS : St w0 (OwT E xs v :: X) w)
  (hx : ev l x = some v := by rfl) (hy : ev l y = some y0 := by rfl)
  (hT : elOf P t = some E) (hTx : elOf P tx = some E')
  (hs : SlT ys y0 w)
  (hE : szOf P E = some (Enc.k α + 1)) (hz : zeroOf P E = some z) (hzs : z.cells.size = Enc.k α + 1) {by_ : Nat} (hby : ((P.info? E).map (·.bytes)).getD 0 = by_) (hbytes : (xs.length + ys.length) * by_ ≤ 140737488355328) (h63 : xs.length + ys.length ≤ maxLen) :
  Gives P ⟨dst, .call { callee := .builtin .append, args := #[x, y], argTypes := #[t, tx] }, ty, pos, af, g⟩ a w (fun v' w' => St w0 (OwT E (xs ++ ys) v' :: X) w') :=
 g_appT hk hS (fun _ _ h => h) hx hy At.here hT hTx hE hz hzs hs hby hbytes h63
end
end Go.Proofs.YtnjmonkehjlaoaaGreatDoor
namespace Go.Proofs.YtnjmonkehjlaoaaGreatDoor
variable {df : List Deferred}
open Go.RowKit
class Lin (κ : Type) where
 dec : DecidableEq κ
 lt : κ → κ → Bool
 irr : ∀ a, lt a a = false
 tr : ∀ {a b c}, lt a b = true → lt b c = true → lt a c = true
 tri : ∀ {a b}, lt a b = false → lt b a = false → a = b
instance linDec {κ : Type} [Lin κ] : DecidableEq κ := Lin.dec
instance linInt : Lin Int := ⟨inferInstance, fun a b => decide (a < b), fun a => by simp, fun h k => by simp at *; omega, fun h k => by simp at *; omega⟩
theorem less_irr : ∀ a : List UInt8, Op.bytesLess a a = false
 | [] => rfl
 | x :: a => by simp [Op.bytesLess, less_irr a]
theorem less_tr : ∀ {a b c : List UInt8}, Op.bytesLess a b = true → Op.bytesLess b c = true → Op.bytesLess a c = true
 | _, [], _, h, _ => by cases h' : ‹List UInt8› <;> simp [Op.bytesLess] at h
 | _, _ :: _, [], _, h => by simp [Op.bytesLess] at h
 | [], _ :: _, _ :: _, _, _ => rfl
 | x :: a, y :: b, z :: c, h, k => by
  simp only [Op.bytesLess, Bool.or_eq_true, Bool.and_eq_true, decide_eq_true_eq, beq_iff_eq] at h k ⊢
  rcases h with h | ⟨rfl, h⟩
  ·rcases k with k | ⟨rfl, _⟩
   ·exact .inl (UInt8.lt_trans h k)
   ·exact .inl h
  ·rcases k with k | ⟨rfl, k⟩
   ·exact .inl k
   ·exact .inr ⟨rfl, less_tr h k⟩
theorem less_tri : ∀ {a b : List UInt8}, Op.bytesLess a b = false → Op.bytesLess b a = false → a = b
 | [], [], _, _ => rfl
 | [], _ :: _, h, _ => by simp [Op.bytesLess] at h
 | _ :: _, [], _, h => by simp [Op.bytesLess] at h
 | x :: a, y :: b, h, k => by
  simp only [Op.bytesLess, Bool.or_eq_false_iff, Bool.and_eq_false_iff, decide_eq_false_iff_not, beq_eq_false_iff_ne] at h k
  have e : x = y := UInt8.le_antisymm (UInt8.not_lt.1 k.1) (UInt8.not_lt.1 h.1)
  subst e
  rw [less_tri (a := a) (b := b) (by simpa using h.2) (by simpa using k.2)]
theorem toList_inj {s t : ByteArray} (h : s.toList = t.toList) : s = t := by
 have := toList_beq s t
 rw [h, beq_self_eq_true] at this
 exact of_decide_eq_true this.symm
instance linStr : Lin ByteArray := ⟨inferInstance, fun a b => Op.bytesLess a.toList b.toList, fun a => less_irr _, fun h k => less_tr h k, fun h k => toList_inj (less_tri h k)⟩
def cmpS : BinOp → ByteArray → ByteArray → Option Bool
 | .lss, p, q => some (Lin.lt p q)
 | .gtr, p, q => some (Lin.lt q p)
 | .leq, p, q => some (!Lin.lt q p)
 | .geq, p, q => some (!Lin.lt p q)
 | _, _, _ => none
theorem less_eq (p q : ByteArray) : (Op.bytesLess p.toList q.toList || p.toList == q.toList) = !Lin.lt q p := by
 rw [toList_beq]
 change (Lin.lt p q || decide (p = q)) = _
 cases h : Lin.lt p q with
 | true =>
  have : Lin.lt q p = false := by
   cases h2 : Lin.lt q p with
   | false => rfl
   | true => have := Lin.tr h h2;rw [Lin.irr] at this;cases this
  rw [this];rfl
 | false =>
  cases h2 : Lin.lt q p with
  | true =>
   have : p ≠ q := fun e => by subst e;rw [Lin.irr] at h2;cases h2
   simp [this]
  | false => simp [Lin.tri h h2]
section
variable {P : Program} {a : Act} {w : World} {n : Nat} {l : List (Nat × Value)}
 {dst : Option Nat} {R : Value → World → Prop} {ty : TypeId} {pos : String} {af : Array Edge} {g : Option (Nat × Bool)}
theorem g_cmpS {x y : Operand} {t t' : TypeId} {op : BinOp} {p q : ByteArray} {b : Bool} (hk : Kn df n a l) (h : R (.bool b) w)
  (hx : ev l x = some (.string p) := by rfl) (hy : ev l y = some (.string q) := by rfl) (ho : cmpS op p q = some b := by rfl) : Gives P ⟨dst, .binOp op t x y t', ty, pos, af, g⟩ a w R := by
 have e := less_eq p q
 refine givesv (v := .bool b) ?_ h
 cases op <;> simp only [cmpS, reduceCtorEq, Option.some.injEq] at ho <;> subst ho
 ·simp [execOp, hk.eval hx, hk.eval hy, eqGuard, binOp_string_lss];rfl
 ·simp [execOp, hk.eval hx, hk.eval hy, eqGuard, binOp, Op.stringOp, e]
 ·simp [execOp, hk.eval hx, hk.eval hy, eqGuard, binOp, Op.stringOp, e]
 ·simp [execOp, hk.eval hx, hk.eval hy, eqGuard, binOp, Op.stringOp];rfl
end
end Go.Proofs.YtnjmonkehjlaoaaGreatDoor
