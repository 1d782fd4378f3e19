/- Rows of one's own at known places: parts of them, copies into them, room, and whether two lie apart. -/
import Derived.Test.YtakejjfmbgbedaaL18
import Derived.Lib.Overlaps
import Derived.Lib.AppendZerosOnto
namespace Go.Proofs.Ytakejjfmbgbedaa
variable {df : List Deferred}
open Go.RowKit

/-- Two blocks of one's own are two. -/
theorem St.two {B : Bs} {w : World} {L L' L'' : List HP} {b b' : Nat} {vs vs' : List Value} {E E' : TypeId} (h : St B L w) (h1 : At (pts b vs E) L L') (h2 : At (pts b' vs' E') L' L'') : b ≠ b' := by
  obtain ⟨F, _, hS⟩ := h.own
  obtain ⟨F1, F2, _, _, h3, h4, h5⟩ := hS.pull h1
  obtain ⟨G1, G2, g1, _, _, g4, _⟩ := h5.pull h2
  intro e
  subst e
  exact h3 b h4.1 (g1 b g4.1)

section
variable {P : Program} {a : Act} {w w' : World} {w0 : Bs} {n : Nat} {l : List (Nat × Value)} {L L' : List HP}
  {dst : Option Nat} {R : Value → World → Prop} {ty : TypeId} {pos : String} {af : Array Edge} {g : Option (Nat × Bool)}

/-- x[i:], of a row at a known place, with room behind i. -/
theorem g_slFc {x y : Operand} {t E k m c b o : Nat} {p : Int} {kk : IntKind} (i : Nat) (hk : Kn df n a l) (h : R (.slice (some ⟨b, o + i * (k + 1), none⟩) (m - i) (c - i)) w)
    (hx : ev l x = some (.slice (some ⟨b, o, none⟩) m c) := by rfl) (hy : ev l y = some (.int kk p) := by rfl) (ht : elOf P t = some E) (hE : szOf P E = some (k + 1)) (hp : p = (i : Int)) (him : i ≤ m) (hc : i < c) :
    Gives P ⟨dst, .slice t x (some y) none none, ty, pos, af, g⟩ a w R := by
  subst hp
  refine givesv (v := .slice (some ⟨b, o + i * (k + 1), none⟩) (m - i) (c - i)) ?_ h
  have h1 : ¬ c = i := by omega
  simp [execOp, hk.eval hx, hk.eval hy, Instr.sliceAt, Instr.slice, run_underlying (elOf_und ht), Instr.sliceBounds, Instr.sliceBound, asIntOf, him, szOf_run hE, h1, addr_add]

/-- x[:j], of a row at a known place. -/
theorem g_slTc {x y : Operand} {t E k m c b o : Nat} {p : Int} {kk : IntKind} (j : Nat) (hk : Kn df n a l) (h : R (.slice (some ⟨b, o, none⟩) j c) w)
    (hx : ev l x = some (.slice (some ⟨b, o, none⟩) m c) := by rfl) (hy : ev l y = some (.int kk p) := by rfl) (ht : elOf P t = some E) (hE : szOf P E = some (k + 1)) (hp : p = (j : Int)) (hj : j ≤ c) :
    Gives P ⟨dst, .slice t x none (some y) none, ty, pos, af, g⟩ a w R := by
  subst hp
  refine givesv (v := .slice (some ⟨b, o, none⟩) j c) ?_ h
  have e : (⟨b, o, none⟩ : Addr).add 0 = ⟨b, o, none⟩ := rfl
  by_cases h0 : c = 0
  · have hj0 : j = 0 := by omega
    subst h0 hj0
    simp [execOp, hk.eval hx, hk.eval hy, Instr.sliceAt, Instr.slice, run_underlying (elOf_und ht), Instr.sliceBounds, Instr.sliceBound, asIntOf, szOf_run hE]
  simp [execOp, hk.eval hx, hk.eval hy, Instr.sliceAt, Instr.slice, run_underlying (elOf_und ht), Instr.sliceBounds, Instr.sliceBound, asIntOf, hj, szOf_run hE, h0, e]

theorem g_capC {x : Operand} {t E m c : Nat} {ao : Option Addr} (hk : Kn df n a l) (h : R (.int .i64 c) w) (hx : ev l x = some (.slice ao m c) := by rfl) (ht : elOf P t = some E) :
    Gives P ⟨dst, .call { callee := .builtin .cap, args := #[x], argTypes := #[t] }, ty, pos, af, g⟩ a w R := by
  refine givesv (v := .int .i64 c) ?_ h
  simp [execOp, resolve, invoke, builtin, hk.eval hx, Builtin.cap_, run_underlying (elOf_und ht), goInt]

/-- A copy into a row of one's own. -/
theorem g_copyC {x y : Operand} {t tx E k b o dn dc sb so sn sc q : Nat} {vs cs : List Value} {E' : TypeId} (hk : Kn df n a l) (hS : St w0 L w)
    (h : ∀ w', St w0 (pts b (splice vs o cs) E' :: L') w' → R (.int .i64 (q : Int)) w')
    (hx : ev l x = some (.slice (some ⟨b, o, none⟩) dn dc) := by rfl) (hy : ev l y = some (.slice (some ⟨sb, so, none⟩) sn sc) := by rfl)
    (hat : At (pts b vs E') L L' := by (repeat (first | exact At.here | apply At.there))) (ht : elOf P t = some E) (hE : szOf P E = some (k + 1)) (hq : q = Nat.min sn dn) (hl : cs.length = q * (k + 1))
    (hsrc : Cells sb so cs w) (h1 : ∀ u ∈ cs, u.oneCell' = true) (hfit : o + cs.length ≤ vs.length) :
    Gives P ⟨dst, .call { callee := .builtin .copy, args := #[x, y], argTypes := #[t, tx] }, ty, pos, af, g⟩ a w R := by
  obtain ⟨w', hr, hS'⟩ := run_storeCells_own (P := P) cs o 0 vs w hS hat h1 (by simpa using hfit)
  simp only [Nat.add_zero] at hS'
  refine givesv (v := .int .i64 (q : Int)) (w' := w') ?_ (h w' hS')
  have hf := run_firstCells_some (P := P) (w := w) (k + 1) q ⟨sb, so, none⟩ sn sc cs hl (fun j v hj => by rw [addr_add]; exact hsrc j v hj)
  simp [execOp, resolve, invoke, builtin, hk.eval hx, hk.eval hy, Builtin.copy_, run_underlying (elOf_und ht), Builtin.lenOf, szOf_run hE, ← hq, hf, hr, goInt]

/-- append(x[:i], make([]T, q)...), where there is no room: a row of its own, with zero values. -/
theorem g_appZ {x y : Operand} {t tx E k b o i c q by_ : Nat} {z : Value} {cs : List Value} {kn : IntKind} (hk : Kn df n a l) (hS : St w0 L w)
    (h : ∀ (w' : World) (b' c' : Nat) (us : List Value), i + q ≤ c' → c' ≤ maxLen → us.length = c' * (k + 1) → (∀ (j : Nat) (u : Value), cs[j]? = some u → us[j]? = some u) → (∀ u ∈ us, u.oneCell' = true) → St w0 (pts b' us E :: L) w' → R (.slice (some ⟨b', 0, none⟩) (i + q) c') w')
    (hx : ev l x = some (.slice (some ⟨b, o, none⟩) i c) := by rfl) {p : Int} (hy : ev l y = some (.int .i64 p) := by rfl) (hp : p = (q : Int)) (ht : elOf P t = some E) (htx : P.underlying tx = some (.int kn)) (hE : szOf P E = some (k + 1)) (hz : zeroOf P E = some z) (hzs : z.cells.size = k + 1) (hz1 : ∀ u ∈ z.cells.toList, u.oneCell' = true)
    (hby : ((P.info? E).map (·.bytes)).getD 0 = by_) (h0 : 0 < q) (hc : c < i + q) (hl : cs.length = i * (k + 1)) (hcs : Cells b o cs w) (h1 : ∀ u ∈ cs, u.oneCell' = true) (hbytes : (i + q) * by_ ≤ 140737488355328) (h63 : i + q ≤ maxLen) :
    Gives P ⟨dst, .call { callee := .builtin .append, args := #[x, y], argTypes := #[t, tx] }, ty, pos, af, g⟩ a w R := by
  subst hp
  obtain ⟨inf, hi, his, hiz⟩ := byOf_info hE hz
  have hib : inf.bytes = by_ := by rw [hi] at hby; exact hby
  have hold : (Builtin.firstCells inf.size i (.slice (some ⟨b, o, none⟩) i c)).run P w.drew = .ok cs.toArray w.drew := by
    rw [his]
    exact run_firstCells_some w.drew (k + 1) i ⟨b, o, none⟩ i c cs hl (fun j v hj => by rw [addr_add]; exact hcs j v hj)
  have hqb : q * inf.bytes ≤ 281474976710656 := by
    rw [hib]
    have : q * by_ ≤ (i + q) * by_ := Nat.mul_le_mul_right _ (by omega)
    omega
  have hr := Lib.run_append_grow_zeros (P := P) w t tx ty E inf z .i64 kn (elOf_und ht) htx hi hiz (some ⟨b, o, none⟩) i c cs hold q h0 (by omega) hc (by simp only [maxLen] at h63; omega) hqb (growslice_fits hc (by rw [hib]; exact hbytes))
  have hge := grownCap_ge w (i + q) c E
  have hcm := grownCap_le_maxLen w (i + q) c E h63
  generalize grownCap w (i + q) c E = gc at *
  have hal := hS.drew.alloc (cs ++ (Builtin.zeroCells z.cells q).toList ++ (Builtin.zeroCells z.cells (gc - (i + q))).toList) E
  have hww : (w.drew.alloc (.cells (cs ++ (Builtin.zeroCells z.cells q).toList ++ (Builtin.zeroCells z.cells (gc - (i + q))).toList).toArray E)) = w.drew.alloc (.cells (cs.toArray ++ Builtin.zeroCells z.cells q ++ Builtin.zeroCells z.cells (gc - (i + q))) E) := by
    congr 2
    apply Array.ext'
    simp
  rw [hww] at hal
  have hz2 : ∀ m u, u ∈ (Builtin.zeroCells z.cells m).toList → u.oneCell' = true := by
    intro m u hu
    simp only [Builtin.zeroCells] at hu
    simp at hu
    obtain ⟨q, hq, rfl⟩ := hu
    have hlt : q % z.cells.size < z.cells.size := Nat.mod_lt _ (by rw [hzs]; omega)
    rw [getElem!_pos z.cells _ hlt]
    exact hz1 _ (by simp)
  refine givesv (v := .slice (some ⟨w.heap.size, 0, none⟩) (i + q) gc) (w' := _) ?_ (h _ _ gc _ hge hcm ?_ (fun j u hj => ?_) (fun u hu => ?_) hal)
  · simp [execOp, resolve, invoke, builtin, hk.eval hx, hk.eval hy, hr]
  · rw [List.length_append, List.length_append, hl, Array.length_toList, Array.length_toList, size_zeroCells, size_zeroCells, hzs, ← Nat.add_mul, ← Nat.add_mul]
    congr 1
    omega
  · have hlt : j < cs.length := by
      rcases Nat.lt_or_ge j cs.length with h' | h'
      · exact h'
      · rw [List.getElem?_eq_none h'] at hj; cases hj
    rw [List.append_assoc, List.getElem?_append_left hlt]
    exact hj
  · rw [List.mem_append, List.mem_append] at hu
    rcases hu with (hu | hu) | hu
    · exact h1 u hu
    · exact hz2 _ u hu
    · exact hz2 _ u hu

/-- slices.overlaps of two rows in blocks of one's own. -/
theorem g_ovl {x y : Operand} {f : FuncId} {fn : Func} {ts : Array TypeId} {tS tR E k b o m c b' o' m' c' : Nat} {vs vs' : List Value} {E1 E2 : TypeId} {L'' : List HP} (hk : Kn df n a l) (hS : St w0 L w) (h : R (.bool false) w)
    (hf : P.funcs[f]? = some fn) (hname : (fn.name == "runtime.NumGoroutine") = false) (hb : fn.body.isNone = true) (hn : Extern.findNext fn = none) (he : Extern.find fn = some (Extern.SlicesOverlaps.overlaps #[tS, tS] #[tR]))
    (hx : ev l x = some (.slice (some ⟨b, o, none⟩) m c) := by rfl) (hy : ev l y = some (.slice (some ⟨b', o', none⟩) m' c') := by rfl)
    (hat : At (pts b vs E1) L L' := by (repeat (first | exact At.here | apply At.there))) (hat2 : At (pts b' vs' E2) L' L'' := by (repeat (first | exact At.here | apply At.there)))
    (ht : elOf P tS = some E) (hE : szOf P E = some (k + 1)) (hne : vs' ≠ []) :
    Gives P ⟨dst, .call { callee := .value (.func f), args := #[x, y], argTypes := ts }, ty, pos, af, g⟩ a w R := by
  have hb1 := pts.block (hS.rd hat)
  have hb2 := pts.block ((hS.sub hat.rest).rd hat2)
  have hbb := hS.two hat hat2
  have hl' : vs'.toArray.size ≠ 0 := by
    rw [List.size_toArray]
    intro e
    exact hne (List.eq_nil_of_length_eq_zero e)
  have hr := Lib.run_overlaps_apart (P := P) w tS tR E (elOf_und ht) (k + 1) (szOf_run hE) ⟨b, o, none⟩ ⟨b', o', none⟩ m c m' c' hbb E1 E2 vs.toArray.size vs'.toArray.size (by simp [World.shape?, hb1]) (by simp [World.shape?, hb2]) hl' (by simp [World.frozen?, hb1]) (by simp [World.frozen?, hb1])
  refine givesv (v := .bool false) ?_ h
  have e : (execOp a.eval ⟨dst, .call { callee := .value (.func f), args := #[x, y], argTypes := ts }, ty, pos, af, g⟩) = callFunc f #[.slice (some ⟨b, o, none⟩) m c, .slice (some ⟨b', o', none⟩) m' c'] := by
    have e1 : (#[] ++ (#[x, y] : Array Operand).map a.eval ++ #[] : Array Value) = #[.slice (some ⟨b, o, none⟩) m c, .slice (some ⟨b', o', none⟩) m' c'] := by simp [hk.eval hx, hk.eval hy]
    rw [← e1]
    rfl
  rw [e, run_callFunc_extern hf hname hb hn he, hr]
  rfl
end

section
variable {α : Type}
def insF (xs : List α) (i : Nat) (e : α) : List α := xs.take i ++ e :: xs.drop i

theorem insF_len {xs : List α} {i : Nat} {e : α} (h : i ≤ xs.length) : (insF xs i e).length = xs.length + 1 := by
  unfold insF
  rw [List.length_append, List.length_take, List.length_cons, List.length_drop]
  omega
variable [Enc α]
theorem enc_ins (xs : List α) (i : Nat) (e : α) (hi : i ≤ xs.length) (j : Nat) : (enc (insF xs i e))[j]? =
    if j < i * (Enc.k α + 1) then (enc xs)[j]? else if j < (i + 1) * (Enc.k α + 1) then (Enc.f e)[j - i * (Enc.k α + 1)]? else (enc xs)[j - (Enc.k α + 1)]? := by
  have hl : (enc (xs.take i)).length = i * (Enc.k α + 1) := by rw [enc_len, List.length_take, Nat.min_eq_left hi]
  unfold insF
  rw [enc_append, enc_cons]
  by_cases h1 : j < i * (Enc.k α + 1)
  · rw [if_pos h1, List.getElem?_append_left (by rw [hl]; exact h1), ← enc_take, List.getElem?_take, if_pos h1]
  · rw [if_neg h1, List.getElem?_append_right (by rw [hl]; omega), hl]
    by_cases h2 : j < (i + 1) * (Enc.k α + 1)
    · rw [if_pos h2, List.getElem?_append_left (by rw [Enc.len]; rw [Nat.add_mul] at h2; omega)]
    · rw [if_neg h2]
      rw [Nat.add_mul] at h2
      rw [List.getElem?_append_right (by rw [Enc.len]; omega), Enc.len, ← enc_drop, List.getElem?_drop]
      congr 1
      omega

/-- A row at a known place holds these elements. -/
theorem St.toOwn {B : Bs} {w : World} {L L' : List HP} {b off cap : Nat} {vs : List Value} {E : TypeId} {ys : List α} (h : St B L w) (hat : At (pts b vs E) L L') (hn : ys.length ≤ cap) (hcm : cap ≤ maxLen) (hvl : off + cap * (Enc.k α + 1) ≤ vs.length)
    (hc : ∀ j u, (enc ys)[j]? = some u → vs[off + j]? = some u) : St B (OwT E ys (.slice (some ⟨b, off, none⟩) ys.length cap) :: L') w :=
  h.conv (As := [_]) hat (fun F hF => ⟨F, fun _ h => h, Sep.one ⟨by rw [enc_len], Nat.le_trans hn hcm, .inr ⟨b, off, cap, _, rfl, hF.1, hF.2.1, hF.2.2, hn, hcm, by simpa using hvl, fun j u hj => by simpa using hc j u hj⟩, fun c hc => (pts _ _ E).dom F _ c hF hc⟩⟩)

theorem enc_get_lt {xs : List α} {j : Nat} {u : Value} (h : (enc xs)[j]? = some u) : j < xs.length * (Enc.k α + 1) := by
  rw [← enc_len]
  rcases Nat.lt_or_ge j (enc xs).length with h' | h'
  · exact h'
  · rw [List.getElem?_eq_none h'] at h; cases h

theorem enc_single (e : α) : enc [e] = Enc.f e := by simp [enc]
theorem Cells.dropT {xs : List α} {vs : List Value} {b off : Nat} {E : TypeId} {w : World} (i : Nat) (hb : w.heap[b]? = some (.cells vs.toArray E (0, 0))) (hvs : ∀ (j : Nat) (u : Value), (enc xs)[j]? = some u → vs[off + j]? = some u) : Cells b (off + i * (Enc.k α + 1)) (enc (xs.drop i)) w := fun j u hj => by
  rw [cell_of_row w b _ _ E _ hb, List.getElem?_toArray, Nat.add_assoc]
  exact hvs _ u (by rw [← List.getElem?_drop, enc_drop]; exact hj)
theorem Cells.takeT {xs : List α} {vs : List Value} {b off : Nat} {E : TypeId} {w : World} (i : Nat) (hb : w.heap[b]? = some (.cells vs.toArray E (0, 0))) (hvs : ∀ (j : Nat) (u : Value), (enc xs)[j]? = some u → vs[off + j]? = some u) : Cells b off (enc (xs.take i)) w := fun j u hj => by
  rw [cell_of_row w b _ _ E _ hb, List.getElem?_toArray]
  refine hvs _ u ?_
  rw [← enc_take, List.getElem?_take] at hj
  split at hj
  · exact hj
  · cases hj

/-- What a copy upwards and a copy of the new one come to. -/
theorem ins_cells {xs : List α} {i off : Nat} {e : α} {vs vs0 : List Value} (hi : i < xs.length) (hvl : off + (xs.length + 1) * (Enc.k α + 1) ≤ vs.length)
    (h0 : ∀ j u, (enc (xs.take i))[j]? = some u → vs[off + j]? = some u)
    (hvs0 : vs0 = splice (splice vs (off + (i + 1) * (Enc.k α + 1)) (enc (xs.drop i))) (off + i * (Enc.k α + 1)) (Enc.f e) ∨ vs0 = splice (splice vs (off + i * (Enc.k α + 1)) (Enc.f e)) (off + (i + 1) * (Enc.k α + 1)) (enc (xs.drop i))) :
    vs0.length = vs.length ∧ ∀ j u, (enc (insF xs i e))[j]? = some u → vs0[off + j]? = some u := by
  have hdl : (enc (xs.drop i)).length = (xs.length - i) * (Enc.k α + 1) := by rw [enc_len, List.length_drop]
  have e1 : xs.length * (Enc.k α + 1) = i * (Enc.k α + 1) + (xs.length - i) * (Enc.k α + 1) := by rw [← Nat.add_mul]; congr 1; omega
  have e2 : (i + 1) * (Enc.k α + 1) = i * (Enc.k α + 1) + (Enc.k α + 1) := Nat.succ_mul _ _
  have e3 : (xs.length + 1) * (Enc.k α + 1) = xs.length * (Enc.k α + 1) + (Enc.k α + 1) := Nat.succ_mul _ _
  have hf := Enc.len e
  have hxl := enc_len xs
  have hins := fun j => enc_ins xs i e (by omega) j
  have htk : ∀ j, j < i * (Enc.k α + 1) → (enc (xs.take i))[j]? = (enc xs)[j]? := fun j hj => by rw [← enc_take, List.getElem?_take, if_pos hj]
  have hdr : ∀ j, (enc (xs.drop i))[j]? = (enc xs)[i * (Enc.k α + 1) + j]? := fun j => by rw [← enc_drop, List.getElem?_drop]
  generalize (xs.length - i) * (Enc.k α + 1) = D at *
  generalize (xs.length + 1) * (Enc.k α + 1) = N1 at *
  generalize xs.length * (Enc.k α + 1) = N at *
  generalize (i + 1) * (Enc.k α + 1) = I1 at *
  generalize hI : i * (Enc.k α + 1) = I at *
  generalize Enc.k α + 1 = K at *
  have hlen : ∀ (a b : List Value) (o : Nat), (splice a o b).length = a.length := fun a b o => splice_len b o a
  rcases hvs0 with rfl | rfl
  · refine ⟨by rw [hlen, hlen], fun j u hj => ?_⟩
    rw [splice_get _ _ _ _ (by rw [hlen, hf]; omega), splice_get _ _ _ _ (by rw [hdl]; omega), hf, hdl]
    rw [hins] at hj
    by_cases h1 : j < I
    · rw [if_pos h1] at hj
      rw [if_neg (by omega), if_neg (by omega)]
      exact h0 j u (by rw [htk j h1]; exact hj)
    · rw [if_neg h1] at hj
      by_cases h2 : j < I1
      · rw [if_pos h2] at hj
        rw [if_pos (by omega), show off + j - (off + I) = j - I by omega]
        exact hj
      · rw [if_neg h2] at hj
        have hlt : j - K < (enc xs).length := by
          rcases Nat.lt_or_ge (j - K) (enc xs).length with h' | h'
          · exact h'
          · rw [List.getElem?_eq_none h'] at hj; cases hj
        rw [if_neg (by omega), if_pos (by omega), hdr, show I + (off + j - (off + I1)) = j - K by omega]
        exact hj
  · refine ⟨by rw [hlen, hlen], fun j u hj => ?_⟩
    rw [splice_get _ _ _ _ (by rw [hlen, hdl]; omega), splice_get _ _ _ _ (by rw [hf]; omega), hf, hdl]
    rw [hins] at hj
    by_cases h1 : j < I
    · rw [if_pos h1] at hj
      rw [if_neg (by omega), if_neg (by omega)]
      exact h0 j u (by rw [htk j h1]; exact hj)
    · rw [if_neg h1] at hj
      by_cases h2 : j < I1
      · rw [if_pos h2] at hj
        rw [if_neg (by omega), if_pos (by omega), show off + j - (off + I) = j - I by omega]
        exact hj
      · rw [if_neg h2] at hj
        have hlt : j - K < (enc xs).length := by
          rcases Nat.lt_or_ge (j - K) (enc xs).length with h' | h'
          · exact h'
          · rw [List.getElem?_eq_none h'] at hj; cases hj
        rw [if_pos (by omega), hdr, show I + (off + j - (off + I1)) = j - K by omega]
        exact hj
end
end Go.Proofs.Ytakejjfmbgbedaa
