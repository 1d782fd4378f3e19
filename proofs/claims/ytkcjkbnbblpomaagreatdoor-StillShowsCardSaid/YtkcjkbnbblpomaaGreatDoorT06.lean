/- Slices: those that are read, and those that the call owns. Loops that count. Maps that the call makes: as lists of keys and values. -/
import Derived.Test.YtkcjkbnbblpomaaGreatDoorT05
import Derived.Deep.AppendSrc
set_option linter.all false
namespace Go.Proofs.YtkcjkbnbblpomaaGreatDoor
variable {df : List Deferred}
open Go.RowKit

def blk : Value → Nat
  | .slice (some a) _ _ => a.block
  | _ => 0
def offs : Value → Nat
  | .slice (some a) _ _ => a.off
  | _ => 0

def Slr (k n : Nat) (v : Value) (cs : List Value) (w : World) : Prop :=
  cs.length = n * k ∧ n ≤ maxLen ∧ ((v = .slice none 0 0 ∧ n = 0) ∨ ∃ a cap, v = .slice (some a) n cap ∧ n ≤ cap ∧ cap ≤ maxLen ∧ ∀ j u, cs[j]? = some u → a.spot = none ∧ w.cell? ⟨a.block, a.off + j, none⟩ = some u)

theorem Slr.frz {k n : Nat} {v : Value} {cs : List Value} {w w' : World} (h : Slr k n v cs w) (hb : Frz w w') : Slr k n v cs w' := by
  obtain ⟨h1, h2, h3⟩ := h
  refine ⟨h1, h2, ?_⟩
  rcases h3 with h3 | ⟨a, cap, hv, hc, hm, hcell⟩
  · exact .inl h3
  · refine .inr ⟨a, cap, hv, hc, hm, fun j u hj => ?_⟩
    obtain ⟨hs, hcl⟩ := hcell j u hj
    exact ⟨hs, Frz.cell hb hcl⟩

theorem St.slr {w0 : Bs} {w : World} {L : List HP} (hS : St w0 L w) {k n : Nat} {v : Value} {cs : List Value} (h : Slr k n v cs w0.g) : Slr k n v cs w := h.frz hS.frz

theorem Slr.cells {k n : Nat} {v : Value} {cs : List Value} {w : World} (h : Slr k n v cs w) {i : Nat} : Cells (blk v) (offs v + i * k) ((cs.drop (i * k)).take k) w := by
  obtain ⟨h1, h2, h3⟩ := h
  intro j u hj
  rw [List.getElem?_take] at hj
  split at hj
  · rw [List.getElem?_drop] at hj
    rcases h3 with ⟨rfl, rfl⟩ | ⟨a, cap, rfl, _, _, hcell⟩
    · have : cs = [] := List.eq_nil_of_length_eq_zero (by simpa using h1)
      subst this; simp at hj
    · have := (hcell _ u hj).2
      simp only [blk, offs]
      rw [show a.off + i * k + j = a.off + (i * k + j) by omega]
      exact this
  · cases hj

def ints (xs : List Int) : List Value := xs.map (Value.int .i64)
def slo (E : TypeId) (k n : Nat) (v : Value) (cs : List Value) : HP where
  holds F w := cs.length = n * k ∧ n ≤ maxLen ∧ ((v = .slice none 0 0 ∧ n = 0) ∨
    ∃ b off cap cur, v = .slice (some ⟨b, off, none⟩) n cap ∧ F b ∧ (∀ c, F c → c = b) ∧ w.heap[b]? = some (.cells cur E (0, 0)) ∧ n ≤ cap ∧ cap ≤ maxLen ∧ off + cap * k ≤ cur.size ∧ ∀ j u, cs[j]? = some u → cur[off + j]? = some u) ∧
    (∀ c, F c → c < w.heap.size)
  stable := fun F w w' ⟨h1, h2, h3, h4⟩ h => ⟨h1, h2, by
    rcases h3 with h3 | ⟨b, off, cap, cur, hv, hF, hF', hb, hn, hc, hs, hcell⟩
    · exact .inl h3
    · exact .inr ⟨b, off, cap, cur, hv, hF, hF', by rw [h b hF]; exact hb, hn, hc, hs, hcell⟩, fun c hc => by
      have := h c hc
      have hlt := h4 c hc
      rcases Nat.lt_or_ge c w'.heap.size with h' | h'
      · exact h'
      · rw [Array.getElem?_eq_none h', Array.getElem?_eq_getElem hlt] at this; cases this⟩
  dom := fun F w c ⟨_, _, _, h4⟩ hc => h4 c hc

theorem slo.slr {E k n : Nat} {v : Value} {cs : List Value} {w : World} (h : (slo E k n v cs).rd w) : Slr k n v cs w := by
  obtain ⟨F, h1, h2, h3, _⟩ := h
  refine ⟨h1, h2, ?_⟩
  rcases h3 with h3 | ⟨b, off, cap, cur, hv, hF, hF', hb, hn, hc, hs, hcell⟩
  · exact .inl h3
  · refine .inr ⟨_, cap, hv, hn, hc, fun j u hj => ⟨rfl, ?_⟩⟩
    rw [cell_of_row w b (off + j) _ E _ hb]
    exact hcell j u hj

theorem slo_nil (E k : Nat) (w : World) : (slo E k 0 (.slice none 0 0) []).holds (fun _ => False) w := ⟨by simp, by simp [maxLen], .inl ⟨rfl, rfl⟩, fun _ h => h.elim⟩

theorem St.conv {w0 : Bs} {w : World} {L L' : List HP} {A : HP} {As : List HP} (h : St w0 L w) (hat : At A L L') (hc : ∀ F, A.holds F w → ∃ G : Nat → Prop, (∀ b, G b → F b) ∧ Sep As G w) : St w0 (As ++ L') w :=
  h.change hat (fun F hF => by
    obtain ⟨G, hG, hs⟩ := hc F hF
    exact ⟨rfl, rfl, rfl, Nat.le_refl _, fun _ _ _ => rfl, G, fun b hb => ⟨.inl (hG b hb), A.dom F w b hF (hG b hb)⟩, hs⟩)

theorem St.ownNil {w0 : Bs} {w : World} {L : List HP} (h : St w0 L w) (E k : Nat) : St w0 (slo E k 0 (.slice none 0 0) [] :: L) w :=
  h.call ⟨Below.refl _ _, Frz.refl _, fun _ => False, fun _ h => h.elim, Sep.one (slo_nil E k w)⟩

theorem St.ptsOwn {w0 : Bs} {w : World} {L L' : List HP} {E k n b : Nat} {us : List Value} (h : St w0 L w) (hat : At (pts b us E) L L') (hl : us.length = n * k) (hn : n ≤ maxLen) : St w0 (slo E k n (.slice (some ⟨b, 0, none⟩) n n) us :: L') w :=
  h.conv (As := [_]) hat (fun F hF => ⟨F, fun _ h => h, Sep.one ⟨hl, hn, .inr ⟨b, 0, n, us.toArray, rfl, hF.1, hF.2.1, hF.2.2, Nat.le_refl _, hn, by simp [hl], fun j u hj => by simpa using hj⟩, fun c hc => (pts b us E).dom F w c hF hc⟩⟩)

theorem St.ownPts {w0 : Bs} {w : World} {L L' : List HP} {E k n b off cap : Nat} {cs : List Value} (h : St w0 L w) (hat : At (slo E k n (.slice (some ⟨b, off, none⟩) n cap) cs) L L') :
    ∃ vs : List Value, St w0 (pts b vs E :: L') w ∧ off + cap * k ≤ vs.length ∧ n ≤ cap ∧ cap ≤ maxLen ∧ cs.length = n * k ∧ ∀ j u, cs[j]? = some u → vs[off + j]? = some u := by
  obtain ⟨F0, h1, h2, h3, h4⟩ := h.rd hat
  rcases h3 with ⟨hv, _⟩ | ⟨b', off', cap', cur, hv, hF, hF', hb, hn, hc, hs, hcell⟩
  · cases hv
  · simp only [Value.slice.injEq, Option.some.injEq, Addr.mk.injEq] at hv
    obtain ⟨⟨e1, e2, _⟩, _, e3⟩ := hv
    subst e1; subst e2; subst e3
    refine ⟨cur.toList, ?_, by simpa using hs, hn, hc, h1, fun j u hj => by simpa using hcell j u hj⟩
    refine h.conv (As := [_]) hat (fun F hF2 => ⟨F, fun _ h => h, Sep.one ?_⟩)
    obtain ⟨_, _, g3, _⟩ := hF2
    rcases g3 with ⟨hv, _⟩ | ⟨b', off', cap', cur', hv, gF, gF', gb, _⟩
    · cases hv
    · simp only [Value.slice.injEq, Option.some.injEq, Addr.mk.injEq] at hv
      obtain ⟨⟨e1, _, _⟩, _, _⟩ := hv
      subst e1
      exact ⟨gF, gF', by simpa using hb⟩

theorem splice_len : ∀ (us : List Value) (o : Nat) (vs : List Value), (splice vs o us).length = vs.length
  | [], _, _ => rfl
  | u :: us, o, vs => by simp [splice, splice_len us]

theorem splice_get : ∀ (us : List Value) (o : Nat) (vs : List Value) (j : Nat), o + us.length ≤ vs.length → (splice vs o us)[j]? = if o ≤ j ∧ j < o + us.length then us[j - o]? else vs[j]?
  | [], o, vs, j, _ => by
    have : ¬ (o ≤ j ∧ j < o + 0) := by omega
    simp only [splice, List.length_nil]
    rw [if_neg this]
  | u :: us, o, vs, j, h => by
    simp only [splice]
    rw [splice_get us (o + 1) (vs.set o u) j (by simp at h ⊢; omega)]
    simp only [List.length_cons] at h ⊢
    by_cases h1 : o + 1 ≤ j ∧ j < o + 1 + us.length
    · rw [if_pos h1, if_pos (by omega)]
      rw [show j - o = (j - (o + 1)) + 1 by omega]
      simp
    · rw [if_neg h1]
      by_cases h2 : j = o
      · subst h2
        rw [if_pos (by omega)]
        simp [show j < vs.length by omega]
      · rw [if_neg (by omega), List.getElem?_set_ne (by omega)]

theorem byOf_info {P : Program} {E k : Nat} {z : Value} (hs : szOf P E = some k) (hz : zeroOf P E = some z) : ∃ i, P.info? E = some i ∧ i.size = k ∧ i.zero = some z := by
  unfold szOf at hs
  unfold zeroOf at hz
  cases hi : P.info? E with
  | none => rw [hi] at hs; simp at hs
  | some i => rw [hi] at hs hz; simp at hs hz; exact ⟨i, rfl, hs, hz⟩

section
variable {P : Program} {a : Act} {w w' : World} {w0 : Bs} {n : Nat} {l : List (Nat × Value)} {L L' : List HP}
  {dst : Option Nat} {R : Value → World → Prop} {ty : TypeId} {pos : String} {af : Array Edge} {g : Option (Nat × Bool)}

theorem g_lenSl {x : Operand} {t : TypeId} {k m : Nat} {v : Value} {cs : List Value} (hk : Kn df n a l) (hs : Slr k m v cs w) (h : R (.int .i64 m) w) {E : Nat} (ht : elOf P t = some E)
    (hx : ev l x = some v := by rfl) : Gives P ⟨dst, .call { callee := .builtin .len, args := #[x], argTypes := #[t] }, ty, pos, af, g⟩ a w R := by
  have hv : ∃ ao c, v = .slice ao m c := by
    rcases hs.2.2 with ⟨rfl, rfl⟩ | ⟨a, c, rfl, _⟩
    · exact ⟨_, _, rfl⟩
    · exact ⟨_, _, rfl⟩
  obtain ⟨ao, c, rfl⟩ := hv
  refine givesv (v := .int .i64 m) ?_ h
  simp [execOp, resolve, invoke, builtin, hk.eval hx, Builtin.len_, run_underlying (elOf_und ht), goInt]

theorem g_lenSt {x : Operand} {t : TypeId} {s : ByteArray} (hk : Kn df n a l) (h : R (.int .i64 s.size) w) (ht : P.underlying t = some .string)
    (hx : ev l x = some (.string s) := by rfl) : Gives P ⟨dst, .call { callee := .builtin .len, args := #[x], argTypes := #[t] }, ty, pos, af, g⟩ a w R := by
  refine givesv (v := .int .i64 s.size) ?_ h
  simp [execOp, resolve, invoke, builtin, hk.eval hx, Builtin.len_, run_underlying ht, goInt]

theorem g_index {x y : Operand} {t : TypeId} {k m i : Nat} {v : Value} {cs : List Value} {E : Nat} {kk : IntKind} (hk : Kn df n a l) (hs : Slr (k + 1) m v cs w) (hi : i < m) (h : R (.pointer (some ⟨blk v, offs v + i * (k + 1), none⟩)) w)
    (ht : elOf P t = some E) (hE : szOf P E = some (k + 1)) (hx : ev l x = some v := by rfl) (hy : ev l y = some (.int kk (i : Int)) := by rfl) :
    Gives P ⟨dst, .indexAddr t x y, ty, pos, af, g⟩ a w R := by
  rcases hs.2.2 with ⟨rfl, rfl⟩ | ⟨ad, c, rfl, _, _, hcell⟩
  · omega
  · have hlt : i * (k + 1) < cs.length := by
      rw [hs.1]
      exact Nat.mul_lt_mul_of_pos_right hi (by omega)
    obtain ⟨hsp, _⟩ := hcell (i * (k + 1)) _ (List.getElem?_eq_getElem hlt)
    obtain ⟨b, o, sp⟩ := ad
    simp only at hsp
    subst hsp
    refine givesv (v := .pointer (some ⟨b, o + i * (k + 1), none⟩)) ?_ h
    have hi0 : (0 : Int) ≤ (i : Int) ∧ (i : Int) < (m : Int) := ⟨by omega, by omega⟩
    simp [execOp, hk.eval hx, hk.eval hy, Instr.indexAt, run_underlying (elOf_und ht), asIntOf, hi, szOf_run hE, addr_add]

def zerosL (z : Value) (m k : Nat) : List Value := (List.range (m * k)).map (fun i => z.cells[i % z.cells.size]!)

theorem g_buildSlice {T E k m : Nat} {parts : List (Nat × Operand)} {vals : List (Nat × Value)} {z : Value} {us : List Value} (hk : Kn df n a l) (hS : St w0 L w)
    (h : ∀ w' v, St w0 (slo E (k + 1) (m + 1) v us :: L) w' → R v w')
    (hT : elOf P T = some E) (hE : szOf P E = some (k + 1)) (hz : zeroOf P E = some z)
    (hp : evP l parts = some vals := by rfl) (hb : bldP (fun i => some (i * (k + 1), k + 1)) (zerosL z (m + 1) (k + 1)) vals = some us := by rfl) (hl : us.length = (m + 1) * (k + 1) := by rfl) (hm : Nat.ble ((m + 1) * (k + 1)) 16777216 = true := by rfl) :
    Gives P ⟨dst, .buildSlice T (m + 1) parts.toArray, ty, pos, af, g⟩ a w R := by
  have hm' := Nat.le_of_ble_eq_true hm
  have hle : m + 1 ≤ maxLen := by
    have : m + 1 ≤ (m + 1) * (k + 1) := Nat.le_mul_of_pos_right _ (by omega)
    simp only [maxLen]; omega
  refine givesv (v := .slice (some ⟨w.heap.size, 0, none⟩) (m + 1) (m + 1)) (w' := w.alloc (.cells us.toArray E)) ?_ (h _ _ ((hS.alloc us E).ptsOwn At.here hl hle))
  have he := evP_map hk hp
  have h3 := fill_bldP (fun i => some (i * (k + 1), k + 1)) vals ((Array.range ((m + 1) * (k + 1))).map (fun i => z.cells[i % z.cells.size]!)) us (by simpa [zerosL] using hb)
  have hne : ¬ (m + 1) * (k + 1) = 0 := by have := Nat.mul_pos (show 0 < m + 1 by omega) (show 0 < k + 1 by omega); omega
  simp only [execOp, Instr.buildSlice, Sem.run_bind, run_underlying (elOf_und hT), Result.andThen_ok, szOf_run hE, List.map_toArray, he]
  have hng : ¬ (2 ^ 24 < (m + 1) * (k + 1)) := by omega
  simp [hng, hne, zeroOf_run hz, h3, newRow]

theorem g_append {x y : Operand} {t tx : TypeId} {E k m q : Nat} {v y0 z : Value} {cs news : List Value} (hk : Kn df n a l) (hS : St w0 L w) (hsrc : Src P (k + 1) tx y0 q news w)
    (h : ∀ w' v', St w0 (slo E (k + 1) (m + q) v' (cs ++ news) :: L') w' → R v' w')
    (hT : elOf P t = some E) (hE : szOf P E = some (k + 1)) (hz : zeroOf P E = some z) (hzs : z.cells.size = k + 1) (h63 : m + q ≤ maxLen) {by_ : Nat} (hby : ((P.info? E).map (·.bytes)).getD 0 = by_) (hbytes : (m + q) * by_ ≤ 140737488355328)
    (hx : ev l x = some v := by rfl) (hy : ev l y = some y0 := by rfl)
    (hat : At (slo E (k + 1) m v cs) L L' := by (repeat (first | exact At.here | apply At.there))) :
    Gives P ⟨dst, .call { callee := .builtin .append, args := #[x, y], argTypes := #[t, tx] }, ty, pos, af, g⟩ a w R := by
  obtain ⟨i, hi, his, hiz⟩ := byOf_info hE hz
  have hib : i.bytes = by_ := by rw [hi] at hby; exact hby
  obtain ⟨F0, h1, h2, h3, h4⟩ := hS.rd hat
  have run : ∀ {v' : Value} {w' : World}, (Builtin.append_ #[t, tx] ty #[v, y0]).run P w = .ok v' w' → R v' w' → Gives P ⟨dst, .call { callee := .builtin .append, args := #[x, y], argTypes := #[t, tx] }, ty, pos, af, g⟩ a w R := by
    intro v' w' hr hR
    refine givesv (v := v') ?_ hR
    simp [execOp, resolve, invoke, builtin, hk.eval hx, hk.eval hy, hr]
  -- a new row
  have fresh : ∀ (base : Option Addr) (cap : Nat), v = .slice base m cap → cap < m + q → (Builtin.firstCells i.size m (.slice base m cap)).run P w.drew = .ok cs.toArray w.drew → Gives P ⟨dst, .call { callee := .builtin .append, args := #[x, y], argTypes := #[t, tx] }, ty, pos, af, g⟩ a w R := by
    intro base cap hv hcap hold
    subst hv
    have hsmall : m + q ≤ 9223372036854775807 := by simp only [maxLen] at h63; omega
    have hr := run_append_grow_src (P := P) w t tx ty E i z (elOf_und hT) hi hiz base m cap cs hold y0 q news (by rw [his]; exact hsrc) hcap (by omega) (growslice_fits hcap (by rw [hib]; exact hbytes))
    refine run hr (h _ _ ?_)
    have hge := grownCap_ge w (m + q) cap E
    have hcm := grownCap_le_maxLen w (m + q) cap E h63
    generalize hgc : grownCap w (m + q) cap E = gc at *
    have hal := hS.drew.alloc ((cs ++ news) ++ (Builtin.zeroCells z.cells (gc - (m + q))).toList) E
    have hww : (w.drew.alloc (.cells ((cs ++ news) ++ (Builtin.zeroCells z.cells (gc - (m + q))).toList).toArray E)) = w.drew.alloc (.cells ((cs ++ news).toArray ++ Builtin.zeroCells z.cells (gc - (m + q))) E) := by
      congr 2
      apply Array.ext'
      simp
    rw [hww] at hal
    have hlen : (cs ++ news).length = (m + q) * (k + 1) := by rw [List.length_append, h1, hsrc.newsLen, Nat.add_mul]
    have hc1 := hal.conv (As := [slo E (k + 1) (m + q) (.slice (some ⟨w.heap.size, 0, none⟩) (m + q) gc) (cs ++ news)]) At.here (fun F hF => ⟨F, fun _ h => h, Sep.one ⟨hlen, h63, .inr ⟨w.heap.size, 0, gc, _, rfl, hF.1, hF.2.1, hF.2.2, hge, hcm, ?_, fun j u hj => ?_⟩, fun c hc => (pts _ _ E).dom F _ c hF hc⟩⟩)
    · obtain ⟨L2, hat2⟩ : ∃ L2, L2 = L' := ⟨_, rfl⟩
      subst hat2
      refine hc1.sub ?_
      exact .cons At.here (by
        have : ∀ {A : HP} {X Y : List HP}, At A X Y → Sub Y X := by
          intro A X Y h
          induction h with
          | here => exact Sub.cons_drop
          | there _ ih => exact .cons At.here ih
        exact this hat)
    · have e1 : z.cells.size = k + 1 := hzs
      rw [List.size_toArray, List.length_append, hlen, Array.length_toList, size_zeroCells, e1, ← Nat.add_mul, Nat.zero_add]
      rw [show m + q + (gc - (m + q)) = gc by omega]
      exact Nat.le_refl _
    · have hlt : j < (cs ++ news).length := by
        rcases Nat.lt_or_ge j (cs ++ news).length with h' | h'
        · exact h'
        · rw [List.getElem?_eq_none h'] at hj; cases hj
      rw [Nat.zero_add, List.getElem?_toArray, List.getElem?_append_left hlt]
      exact hj
  rcases h3 with ⟨hv, hm0⟩ | ⟨b, off, cap, cur, hv, hF, hF', hb, hn, hc, hs, hcell⟩
  · subst hv; subst hm0
    have hcs : cs = [] := List.eq_nil_of_length_eq_zero (by simpa using h1)
    subst hcs
    by_cases hq : q = 0
    · subst hq
      have hnews : news = [] := List.eq_nil_of_length_eq_zero (by simpa using hsrc.newsLen)
      subst hnews
      have hr : (Builtin.append_ #[t, tx] ty #[.slice none 0 0, y0]).run P w = .ok (.slice none 0 0) w := by
        rcases hsrc.kind with ⟨e', hk'⟩ | hk' <;> simp [Builtin.append_, run_underlying (elOf_und hT), run_underlying hk', sizeOf, typeInfo, hi, hsrc.len, his, hsrc.cells]
      refine run hr (h _ _ ?_)
      exact hS.sub (.cons hat .refl)
    · exact fresh none 0 rfl (by omega) (by simp [Builtin.firstCells])
  · subst hv
    by_cases hroom : m + q ≤ cap
    · obtain ⟨vs, hP, hvl, _, hcm, _, hvs⟩ := hS.ownPts hat
      have hnl := hsrc.newsLen
      have hfit : off + m * (k + 1) + news.length ≤ vs.length := by
        rw [hnl]
        have : (m + q) * (k + 1) ≤ cap * (k + 1) := Nat.mul_le_mul_right _ hroom
        rw [Nat.add_mul] at this
        omega
      obtain ⟨w', hr, hS'⟩ := run_storeCells_own (P := P) news (off + m * (k + 1)) 0 vs w hP At.here hsrc.one (by simpa using hfit)
      have hr2 : (Builtin.append_ #[t, tx] ty #[.slice (some ⟨b, off, none⟩) m cap, y0]).run P w = .ok (.slice (some ⟨b, off, none⟩) (m + q) cap) w' := by
        rcases hsrc.kind with ⟨e', hk'⟩ | hk' <;> simp [Builtin.append_, run_underlying (elOf_und hT), run_underlying hk', sizeOf, typeInfo, hi, hsrc.len, hroom, his, hsrc.cells, addr_add, hr]
      refine run hr2 (h _ _ ?_)
      simp only [Nat.add_zero] at hS'
      refine hS'.conv (As := [_]) At.here (fun F hF => ⟨F, fun _ h => h, Sep.one ⟨by rw [List.length_append, h1, hnl, Nat.add_mul], h63, .inr ⟨b, off, cap, _, rfl, hF.1, hF.2.1, hF.2.2, hroom, hcm, by rw [List.size_toArray, splice_len]; exact hvl, fun j u hj => ?_⟩, fun c hc => (pts _ _ E).dom F _ c hF hc⟩⟩)
      rw [List.getElem?_toArray, splice_get _ _ _ _ hfit]
      by_cases hjc : j < cs.length
      · rw [List.getElem?_append_left hjc] at hj
        rw [if_neg (by rw [h1] at hjc; omega)]
        exact hvs j u hj
      · rw [List.getElem?_append_right (by omega)] at hj
        have hjn : j - cs.length < news.length := by
          rcases Nat.lt_or_ge (j - cs.length) news.length with h' | h'
          · exact h'
          · rw [List.getElem?_eq_none h'] at hj; cases hj
        rw [h1] at hj hjn hjc
        rw [if_pos (by omega)]
        rw [show off + j - (off + m * (k + 1)) = j - m * (k + 1) by omega]
        exact hj
    · refine fresh _ cap rfl (by omega) ?_
      rw [his]
      refine run_firstCells_some w.drew (k + 1) m ⟨b, off, none⟩ m cap cs h1 (fun j u hj => ?_)
      rw [addr_add]
      have := cell_of_row w b (off + j) _ E _ hb
      show w.cell? ⟨b, off + j, none⟩ = some u
      rw [this]
      exact hcell j u hj

end
end Go.Proofs.YtkcjkbnbblpomaaGreatDoor
namespace Go.Proofs.YtkcjkbnbblpomaaGreatDoor
variable {df : List Deferred}
variable {rr : Option Nat}
open Go.RowKit

inductive KP (l : List (Nat × Value)) : List Nat → List (Nat × Value) → Prop
  | nil : KP l [] []
  | cons {t : Nat} {v : Value} {ts : List Nat} {r : List (Nat × Value)} (h : lk l t = some v) (hr : KP l ts r) : KP l (t :: ts) ((t, v) :: r)

theorem KP.sub {l : List (Nat × Value)} {ts : List Nat} {r : List (Nat × Value)} (h : KP l ts r) : subK l r := by
  induction h with
  | nil => trivial
  | cons h _ ih => exact ⟨h, ih⟩

theorem Kn.keep {n : Nat} {a : Act} {l r : List (Nat × Value)} {ts : List Nat} (hk : Kn df n a l) (h : KP l ts r) : Kn df n a r := hk.sub h.sub

def subD (l : List (Nat × Value)) : List Nat → List (Nat × Value) → Prop
  | _, [] => True
  | seen, (x, v) :: r => (match seen.contains x with | true => True | false => lk l x = some v) ∧ subD l (x :: seen) r

theorem subD.get {l : List (Nat × Value)} : ∀ {r : List (Nat × Value)} {seen : List Nat}, subD l seen r → ∀ x v, seen.contains x = false → lk r x = some v → lk l x = some v
  | [], _, _, _, _, _, h => by simp [lk] at h
  | (y, u) :: r, seen, ⟨h1, h2⟩, x, v, hs, h => by
    by_cases hx : y = x
    · subst hx
      rw [lk_cons_same] at h
      injection h with h
      subst h
      rw [hs] at h1
      exact h1
    · rw [lk_cons_ne u r hx] at h
      refine subD.get h2 x v ?_ h
      simp only [List.contains_cons, hs, Bool.or_false, beq_eq_false_iff_ne, ne_eq]
      exact fun e => hx e.symm

theorem Kn.subD {n : Nat} {a : Act} {l r : List (Nat × Value)} (hk : Kn df n a l) (h : Proofs.YtkcjkbnbblpomaaGreatDoor.subD l [] r) : Kn df n a r :=
  ⟨hk.size, fun x v hx => hk.get x v (h.get x v rfl hx), hk.defers⟩

section
variable {P : Program} {Q : Exit → Act → World → Prop} {a : Act} {w : World} {w0 : Bs} {n : Nat} {l0 : List (Nat × Value)}

theorem lk_app {V l : List (Nat × Value)} {x : Nat} {v : Value} : lk (V ++ l) x = some v → lk V x = some v ∨ (lk V x = none ∧ lk l x = some v) := by
  induction V with
  | nil => intro h; exact .inr ⟨rfl, h⟩
  | cons p V ih =>
    obtain ⟨y, u⟩ := p
    intro h
    by_cases hx : y = x
    · subst hx
      simp only [List.cons_append, lk_cons_same] at h ⊢
      exact .inl h
    · simp only [List.cons_append, lk_cons_ne _ _ hx] at h ⊢
      exact ih h

theorem Kn.app {V : List (Nat × Value)} (hk : Kn df n a l0) (hV : subK l0 V) : Kn df n a (V ++ l0) :=
  ⟨hk.size, fun x v hx => by
    rcases lk_app hx with h | ⟨_, h⟩
    · exact hk.get x v (hV.lk x v h)
    · exact hk.get x v h, hk.defers⟩

theorem wp_for {ι : Type} {c : Code} (N : Nat) (V : Nat → ι → List (Nat × Value)) (Ls : Nat → ι → List HP) (F : Nat → ι → Prop) (x0 : ι) (hk : Kn df n a l0) (hV : subK l0 (V 0 x0)) (hS : St w0 (Ls 0 x0) w) (hF : F 0 x0)
    (step : ∀ (i : Nat) (x : ι) (a : Act) (w : World), i ≤ N → Kn df n a (V i x ++ l0) → St w0 (Ls i x) w → F i x →
      c.wpIn (FR rr) 0 P (Exit.then (fun a' w' => i < N ∧ ∃ x', Kn df n a' (V (i + 1) x' ++ l0) ∧ St w0 (Ls (i + 1) x') w' ∧ F (i + 1) x') Q) a w) : (Code.loop c).wpIn (FR rr) 0 P Q a w := by
  refine wp_loopN (fun k a w => ∃ i x, i ≤ N ∧ k = N - i ∧ Kn df n a (V i x ++ l0) ∧ St w0 (Ls i x) w ∧ F i x) (k := N) ⟨0, x0, by omega, by omega, hk.app hV, hS, hF⟩ ?_
  rintro k a w ⟨i, x, hi, rfl, hk, hS, hF⟩
  refine wpIn_mono (step i x a w hi hk hS hF) ?_
  intro e a' w' hq
  cases e with
  | normal =>
    obtain ⟨hlt, x', h1, h2, h3⟩ := hq
    exact ⟨N - (i + 1), by omega, i + 1, x', by omega, rfl, h1, h2, h3⟩
  | exit i => exact hq
  | goto i => exact hq
  | ret => exact hq
  | panic c => exact hq
  | outgrown => exact hq
end
end Go.Proofs.YtkcjkbnbblpomaaGreatDoor
namespace Go.Proofs.YtkcjkbnbblpomaaGreatDoor
variable {df : List Deferred}
open Go.RowKit

section
variable {κ : Type}
def mapH (enc : κ → Value) (v : Value) (l : List (κ × Value)) : HP where
  holds F w := ∃ b es c, v = .map (some b) ∧ F b ∧ (∀ c, F c → c = b) ∧ w.heap[b]? = some (.map es c) ∧ es.toList.map (fun e => (e.key, e.val)) = l.map (fun p => (enc p.1, p.2)) ∧ (l.map Prod.fst).Nodup
  stable := fun F w w' ⟨b, es, c, h1, h2, h3, h4, h5⟩ h => ⟨b, es, c, h1, h2, h3, by rw [h b h2]; exact h4, h5⟩
  dom := fun F w x ⟨b, es, c, h1, h2, h3, h4, h5⟩ hx => by
    rw [h3 x hx]
    rcases Nat.lt_or_ge b w.heap.size with h' | h'
    · exact h'
    · rw [Array.getElem?_eq_none h'] at h4; cases h4

theorem St.setObj {w0 : Bs} {w : World} {L L' : List HP} {enc : κ → Value} {b : Nat} {l l' : List (κ × Value)} {es' : Array MapEntry} {c' : Nat} (h : St w0 L w) (hat : At (mapH enc (.map (some b)) l) L L')
    (he : es'.toList.map (fun e => (e.key, e.val)) = l'.map (fun p => (enc p.1, p.2))) (hn : (l'.map (·.1)).Nodup) : St w0 (mapH enc (.map (some b)) l' :: L') { w with heap := w.heap.setIfInBounds b (.map es' c') } := by
  refine h.change (As := [_]) hat (fun F ⟨b2, es, c, h1, h2, h3, h4, h5⟩ => ?_)
  have hb : b2 = b := by injection h1 with h1; injection h1 with h1; exact h1.symm
  subst hb
  have hlt : b2 < w.heap.size := by
    rcases Nat.lt_or_ge b2 w.heap.size with h' | h'
    · exact h'
    · rw [Array.getElem?_eq_none h'] at h4; cases h4
  refine ⟨rfl, rfl, rfl, by simp, fun x _ hx => ?_, F, fun x hx => ⟨.inl hx, ?_⟩, Sep.one ⟨b2, es', c', rfl, h2, h3, ?_, he, hn⟩⟩
  · have : b2 ≠ x := fun e => hx (by rw [← e]; exact h2)
    simp [Array.getElem?_setIfInBounds_ne this]
  · rw [h3 x hx]; simpa using hlt
  · simp [hlt]

variable {P : Program} {a : Act} {w w' : World} {w0 : Bs} {n : Nat} {l : List (Nat × Value)} {L L' : List HP}
  {dst : Option Nat} {R : Value → World → Prop} {ty : TypeId} {pos : String} {af : Array Edge} {g : Option (Nat × Bool)} {enc : κ → Value} {K E T : TypeId} {m : List (κ × Value)}

theorem mapOf_und {T K E : Nat} (h : mapOf P T = some (K, E)) : P.underlying T = some (.map K E) := by
  unfold mapOf at h
  cases hu : P.underlying T with
  | none => rw [hu] at h; simp at h
  | some d => rw [hu] at h; cases d <;> simp at h; rw [h.1, h.2]

theorem g_makeMap (enc : κ → Value) (hS : St w0 L w) (h : ∀ w' v, St w0 (mapH enc v [] :: L) w' → R v w') : Gives P ⟨dst, .makeMap T none, ty, pos, af, g⟩ a w R := by
  refine givesv (v := .map (some w.heap.size)) (w' := w.alloc (.map #[] 0)) (by simp [execOp, Instr.makeMap]) (h _ _ ?_)
  refine hS.new (As := [_]) ((Below.refl _ _).alloc (Nat.le_refl _) _) ⟨fun b => b = w.heap.size, fun b hb => by subst hb; simp, Sep.one ⟨w.heap.size, #[], 0, rfl, rfl, fun _ h => h, heap_alloc_new w _, by simp, by simp⟩⟩

end

section
variable {κ : Type} [DecidableEq κ]

def posK (k : κ) : List (κ × Value) → Nat → Option (Nat × Value)
  | [], _ => none
  | (k', v) :: r, i => if k = k' then some (i, v) else posK k r (i + 1)
def getL (l : List (κ × Value)) (k : κ) : Option Value := (posK k l 0).map (·.2)
def setL : List (κ × Value) → κ → Value → List (κ × Value)
  | [], k, v => [(k, v)]
  | (k', v') :: r, k, v => if k = k' then (k, v) :: r else (k', v') :: setL r k v
def delL : List (κ × Value) → κ → List (κ × Value)
  | [], _ => []
  | (k', v') :: r, k => if k = k' then r else (k', v') :: delL r k

theorem posK_shift (k : κ) : ∀ (l : List (κ × Value)) (i : Nat), (posK k l i).map (·.2) = getL l k
  | [], _ => rfl
  | (k', v) :: r, i => by
    unfold getL
    simp only [posK]
    split
    · rfl
    · rw [posK_shift k r (i + 1), posK_shift k r (0 + 1)]

theorem getL_cons (k k' : κ) (v : Value) (r : List (κ × Value)) : getL ((k', v) :: r) k = if k = k' then some v else getL r k := by
  conv => lhs; unfold getL
  simp only [posK]
  split
  · rfl
  · exact posK_shift k r 1

theorem getL_set (l : List (κ × Value)) (k j : κ) (v : Value) : getL (setL l k v) j = if j = k then some v else getL l j := by
  induction l with
  | nil => simp [setL, getL, posK]
  | cons p r ih =>
    obtain ⟨k', v'⟩ := p
    simp only [setL]
    split
    · rename_i h
      subst h
      simp only [getL_cons]
      split <;> rfl
    · rename_i h
      simp only [getL_cons, ih]
      by_cases h1 : j = k'
      · subst h1
        rw [if_pos rfl, if_neg (fun e => h e.symm), if_pos rfl]
      · rw [if_neg h1, if_neg h1]

theorem getL_none {l : List (κ × Value)} {k : κ} (h : k ∉ l.map Prod.fst) : getL l k = none := by
  induction l with
  | nil => rfl
  | cons p r ih =>
    obtain ⟨k', v'⟩ := p
    simp only [List.map_cons, List.mem_cons, not_or] at h
    rw [getL_cons, if_neg h.1]
    exact ih h.2

theorem setL_keys (l : List (κ × Value)) (k : κ) (v : Value) : (setL l k v).map Prod.fst = if k ∈ l.map Prod.fst then l.map Prod.fst else l.map Prod.fst ++ [k] := by
  induction l with
  | nil => simp [setL]
  | cons p r ih =>
    obtain ⟨k', v'⟩ := p
    simp only [setL]
    split
    · rename_i h; subst h; simp
    · rename_i h
      simp only [List.map_cons, ih, List.mem_cons]
      by_cases hm : k ∈ r.map Prod.fst
      · rw [if_pos hm, if_pos (.inr hm)]
      · rw [if_neg hm, if_neg (fun e => e.elim h hm)]
        rfl

theorem setL_nodup {l : List (κ × Value)} (h : (l.map Prod.fst).Nodup) (k : κ) (v : Value) : ((setL l k v).map Prod.fst).Nodup := by
  rw [setL_keys]
  split
  · exact h
  · rename_i hm
    rw [List.nodup_append]
    exact ⟨h, by simp, fun a ha b hb e => hm (by rw [List.mem_singleton] at hb; rw [← hb, ← e]; exact ha)⟩

structure KeyT (P : Program) (K : TypeId) (enc : κ → Value) : Prop where
  check : ∀ b k (w : World), (Instr.checkKey b 10000 K (enc k)).run P w = .ok () w
  find : ∀ (k : κ) (es : List MapEntry) (l : List (κ × Value)) (w : World), es.map (fun e => (e.key, e.val)) = l.map (fun p => (enc p.1, p.2)) → (Instr.findKey K (enc k) es).run P w = .ok (posK k l 0) w
  bits : ∀ k, Instr.sameBits 10000 (enc k) (enc k) = true

theorem findNow_pos {enc : κ → Value} {d : TypeDesc} (hd : ∀ j k, Instr.sameNow d (enc j) (enc k) = some (decide (j = k))) (k : κ) : ∀ (es : List MapEntry) (l : List (κ × Value)) (i : Nat),
    es.map (fun e => (e.key, e.val)) = l.map (fun p => (enc p.1, p.2)) → Instr.findNow d (enc k) es i = some (posK k l i)
  | [], [], _, _ => rfl
  | [], _ :: _, _, h => by simp at h
  | _ :: _, [], _, h => by simp at h
  | e :: es, (k', v) :: l, i, h => by
    simp only [List.map_cons, List.cons.injEq, Prod.mk.injEq] at h
    obtain ⟨⟨h1, h2⟩, h3⟩ := h
    simp only [Instr.findNow, posK, h1, hd k k']
    by_cases hk : k = k'
    · simp [hk, h2]
    · simp only [hk, decide_false, if_false]
      exact findNow_pos hd k es l (i + 1) h3

theorem checkKey_int {P : Program} {K : TypeId} {kk : IntKind} (h : P.underlying K = some (.int kk)) (b : Bool) (N : Nat) (v : Value) (w : World) : (Instr.checkKey b (N + 1) K v).run P w = .ok () w := by
  simp [Instr.checkKey, run_underlying h]
theorem checkKey_str {P : Program} {K : TypeId} (h : P.underlying K = some .string) (b : Bool) (N : Nat) (v : Value) (w : World) : (Instr.checkKey b (N + 1) K v).run P w = .ok () w := by
  simp [Instr.checkKey, run_underlying h]

theorem keyInt {P : Program} {K : TypeId} {kk : IntKind} (h : P.underlying K = some (.int kk)) : KeyT P K (fun n : Int => Value.int kk n) where
  check := fun b k w => checkKey_int h b 9999 _ w
  find := fun k es l w he => by
    have := findNow_pos (enc := fun n : Int => Value.int kk n) (d := .int kk) (fun j k => by simp [Instr.sameNow]; rfl) k es l 0 he
    simp only [Instr.findKey, Sem.run_bind, run_underlying h, Result.andThen_ok, this]
    rfl
  bits := fun k => by simp [Instr.sameBits]

theorem keyStr {P : Program} {K : TypeId} (h : P.underlying K = some .string) : KeyT P K (fun s : ByteArray => Value.string s) where
  check := fun b k w => checkKey_str h b 9999 _ w
  find := fun k es l w he => by
    have := findNow_pos (enc := fun s : ByteArray => Value.string s) (d := .string) (fun j k => by
      simp only [Instr.sameNow, Option.some.injEq]
      rw [Bool.eq_iff_iff]; simp [beq_toListBytes, ByteArray.toList_eq]
      exact ⟨fun h => ByteArray.ext h, fun h => by rw [h]⟩) k es l 0 he
    simp only [Instr.findKey, Sem.run_bind, run_underlying h, Result.andThen_ok, this]
    rfl
  bits := fun k => by simp [Instr.sameBits, beq_toListBytes]

variable {P : Program} {a : Act} {w w' : World} {w0 : Bs} {n : Nat} {l : List (Nat × Value)} {L L' : List HP}
  {dst : Option Nat} {R : Value → World → Prop} {ty : TypeId} {pos : String} {af : Array Edge} {g : Option (Nat × Bool)} {enc : κ → Value} {K E T : TypeId} {m : List (κ × Value)}

theorem run_lookup {v : Value} {k : κ} {z : Value} (hm : (mapH enc v m).rd w) (hT : mapOf P T = some (K, E)) (hK : KeyT P K enc) (hz : zeroOf P E = some z) (ok : Bool) :
    (Instr.lookup T v (enc k) ok).run P w = .ok (if ok then .tuple #[(getL m k).getD z, .bool (getL m k).isSome] else (getL m k).getD z) w := by
  obtain ⟨F, b, es, c, rfl, hF, hF', hb, he, _⟩ := hm
  have hf := hK.find k es.toList m w he
  unfold getL
  cases hp : posK k m 0 with
  | none => rw [hp] at hf; cases ok <;> simp [Instr.lookup, run_underlying (mapOf_und hT), getObj, Sem.run, hb, hK.check, hf, zeroOf_run hz]
  | some p => rw [hp] at hf; cases ok <;> simp [Instr.lookup, run_underlying (mapOf_und hT), getObj, Sem.run, hb, hK.check, hf]

theorem g_lookup {x y : Operand} {v : Value} {k : κ} {z : Value} (hk : Kn df n a l) (hm : (mapH enc v m).rd w) (h : R ((getL m k).getD z) w) (hT : mapOf P T = some (K, E)) (hK : KeyT P K enc) (hz : zeroOf P E = some z)
    (hx : ev l x = some v := by rfl) (hy : ev l y = some (enc k) := by rfl) : Gives P ⟨dst, .lookup T x y false, ty, pos, af, g⟩ a w R := by
  refine givesv (v := (getL m k).getD z) ?_ h
  have := run_lookup (k := k) hm hT hK hz false
  simp [execOp, hk.eval hx, hk.eval hy, this]

theorem g_lookupOk {x y : Operand} {v : Value} {k : κ} {z : Value} (hk : Kn df n a l) (hm : (mapH enc v m).rd w) (h : R (.tuple #[(getL m k).getD z, .bool (getL m k).isSome]) w) (hT : mapOf P T = some (K, E)) (hK : KeyT P K enc) (hz : zeroOf P E = some z)
    (hx : ev l x = some v := by rfl) (hy : ev l y = some (enc k) := by rfl) : Gives P ⟨dst, .lookup T x y true, ty, pos, af, g⟩ a w R := by
  refine givesv (v := .tuple #[(getL m k).getD z, .bool (getL m k).isSome]) ?_ h
  have := run_lookup (k := k) hm hT hK hz true
  simp [execOp, hk.eval hx, hk.eval hy, this]

theorem posK_lt {k : κ} : ∀ {l : List (κ × Value)} {i j : Nat} {v : Value}, posK k l i = some (j, v) → i ≤ j ∧ l[j - i]? = some (k, v) ∧ ∀ u, (l.set (j - i) (k, u)) = setL l k u
  | [], _, _, _, h => by simp [posK] at h
  | (k', v') :: r, i, j, v, h => by
    simp only [posK] at h
    split at h
    · rename_i hk
      simp at h
      obtain ⟨rfl, rfl⟩ := h
      subst hk
      exact ⟨Nat.le_refl _, by simp, fun u => by simp [setL]⟩
    · rename_i hk
      obtain ⟨h1, h2, h3⟩ := posK_lt h
      refine ⟨by omega, ?_, fun u => ?_⟩
      · rw [show j - i = (j - (i + 1)) + 1 by omega]; simpa using h2
      · rw [show j - i = (j - (i + 1)) + 1 by omega]
        simp only [List.set_cons_succ, setL, hk, if_false, h3 u]

theorem posK_none {k : κ} : ∀ {l : List (κ × Value)} {i : Nat}, posK k l i = none → ∀ u, setL l k u = l ++ [(k, u)]
  | [], _, _, _ => rfl
  | (k', v') :: r, i, h, u => by
    simp only [posK] at h
    split at h
    · cases h
    · rename_i hk
      simp [setL, hk, posK_none h u]

theorem g_mapUpdate {x y z : Operand} {v u : Value} {k : κ} (hk : Kn df n a l) (hS : St w0 L w) (h : ∀ w', St w0 (mapH enc v (setL m k u) :: L') w' → R undef w') (hT : mapOf P T = some (K, E)) (hK : KeyT P K enc)
    (hx : ev l x = some v := by rfl) (hat : At (mapH enc v m) L L' := by (repeat (first | exact At.here | apply At.there))) (hy : ev l y = some (enc k) := by rfl) (hz : ev l z = some u := by rfl) :
    Gives P ⟨dst, .mapUpdate T x y z, ty, pos, af, g⟩ a w R := by
  obtain ⟨F, b, es, c, hv, hF, hF', hb, he, hn⟩ := hS.rd hat
  subst hv
  have hf := hK.find k es.toList m w he
  have hlt : b < w.heap.size := by
    rcases Nat.lt_or_ge b w.heap.size with h' | h'
    · exact h'
    · rw [Array.getElem?_eq_none h'] at hb; cases hb
  cases hp : posK k m 0 with
  | none =>
    rw [hp] at hf
    refine givesu (w' := { w with heap := w.heap.setIfInBounds b (.map (es.push { key := enc k, val := u, born := c }) (c + 1)) }) ?_ (h _ (hS.setObj hat ?_ (setL_nodup hn k u)))
    · simp [execOp, Instr.mapUpdate, run_underlying (mapOf_und hT), hk.eval hx, hk.eval hy, hk.eval hz, getObj, setObj, Sem.run, hb, hK.check, hf]
    · rw [posK_none hp u]; simp [he]
  | some p =>
    obtain ⟨j, v0⟩ := p
    rw [hp] at hf
    obtain ⟨_, h2, h3⟩ := posK_lt hp
    simp only [Nat.sub_zero] at h2 h3
    have hej : es.toList[j]?.map (fun e => (e.key, e.val)) = some (enc k, v0) := by
      have := congrArg (·[j]?) he
      simpa [h2] using this
    have hkey : ((es[j]?).map (·.key)).getD (enc k) = enc k := by
      cases hes : es[j]? with
      | none => rfl
      | some e =>
        have : es.toList[j]? = some e := by simpa using hes
        rw [this] at hej
        simp at hej
        simp [hej.1]
    refine givesu (w' := { w with heap := w.heap.setIfInBounds b (.map (es.modify j fun e => { e with key := enc k, val := u }) c) }) ?_ (h _ (hS.setObj hat ?_ (setL_nodup hn k u)))
    · simp [execOp, Instr.mapUpdate, run_underlying (mapOf_und hT), hk.eval hx, hk.eval hy, hk.eval hz, getObj, setObj, Sem.run, hb, hK.check, hf, Instr.keyThatStays]
      intro hq
      rw [hkey, hK.bits] at hq
      cases hq
    · rw [← h3 u]
      apply List.ext_getElem?
      intro i
      have hi := congrArg (·[i]?) he
      simp only [List.getElem?_map, Array.getElem?_toList] at hi
      simp only [List.getElem?_map, Array.getElem?_toList, Array.getElem?_modify]
      by_cases hji : j = i
      · subst hji
        have hlt2 : j < m.length := by
          rcases Nat.lt_or_ge j m.length with h' | h'
          · exact h'
          · rw [List.getElem?_eq_none h'] at h2; cases h2
        rw [List.getElem?_set_self hlt2]
        cases hes : es[j]? with
        | none => rw [hes] at hi; simp [h2] at hi
        | some e => simp
      · rw [if_neg hji, List.getElem?_set_ne hji]
        exact hi

end
end Go.Proofs.YtkcjkbnbblpomaaGreatDoor
