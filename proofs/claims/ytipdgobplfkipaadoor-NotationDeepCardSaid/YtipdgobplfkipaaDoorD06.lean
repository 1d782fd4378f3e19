/- Rows of one's own at known places: parts of them, copies into them, room, and whether two lie apart. Rows of one's own: cleared in part. A range over a function: its record, its rounds, what stands behind it. Functions that may panic: they return, or they panic; what a call of one of them gives; the end of such a body. Panics that a text throws, interface values, a deferred closure. A value that owns several resources at once, of things that are not told. Nodes with nodes within, as they lie in memory. Layer 2: digits and the numbers that they are; which texts may be what: in plain words. Layer 2: which texts may be what, in plain words. Layer 8, plain: the tokens of a text, the view that they make, or what is wrong first, and where. Layer 8, plain: where tokens and views end; a text's tokens in a row. -/
import Derived.Test.YtipdgobplfkipaaDoorD05
import Derived.Lib.Overlaps
import Derived.Lib.AppendZerosOnto
import Derived.RangeFuncRecord
import Derived.Lib.SliceRun
import Derived.WalkSpells
import Derived.RecoverIn
import Derived.Laws.Build
import Derived.WideLaws
import Derived.Lib.ItoaNum
set_option linter.all false
namespace Go.Proofs.YtipdgobplfkipaaDoor
variable {df : List Deferred}
open Go.RowKit

theorem St.two {B : Bs} {w : World} {L L' L'' : List HP} {b b' : Nat} {vs vs' : List Value} {E E' : TypeId} (h : St B L w) (h1 : At (pts b vs E) L L') (h2 : At (pts b' vs' E') L' L'') : b ≠ b' := by
  obtain ⟨F, _, hS⟩ := h.own
  obtain ⟨F1, F2, _, _, h3, h4, h5⟩ := hS.pull h1
  obtain ⟨G1, G2, g1, _, _, g4, _⟩ := h5.pull h2
  intro e
  subst e
  exact h3 b h4.1 (g1 b g4.1)

section
variable {P : Program} {a : Act} {w w' : World} {w0 : Bs} {n : Nat} {l : List (Nat × Value)} {L L' : List HP}
  {dst : Option Nat} {R : Value → World → Prop} {ty : TypeId} {pos : String} {af : Array Edge} {g : Option (Nat × Bool)}

theorem g_slFc {x y : Operand} {t E k m c b o : Nat} {p : Int} {kk : IntKind} (i : Nat) (hk : Kn df n a l) (h : R (.slice (some ⟨b, o + i * (k + 1), none⟩) (m - i) (c - i)) w)
    (hx : ev l x = some (.slice (some ⟨b, o, none⟩) m c) := by rfl) (hy : ev l y = some (.int kk p) := by rfl) (ht : elOf P t = some E) (hE : szOf P E = some (k + 1)) (hp : p = (i : Int)) (him : i ≤ m) (hc : i < c) :
    Gives P ⟨dst, .slice t x (some y) none none, ty, pos, af, g⟩ a w R := by
  subst hp
  refine givesv (v := .slice (some ⟨b, o + i * (k + 1), none⟩) (m - i) (c - i)) ?_ h
  have h1 : ¬ c = i := by omega
  simp [execOp, hk.eval hx, hk.eval hy, Instr.sliceAt, Instr.slice, run_underlying (elOf_und ht), Instr.sliceBounds, Instr.sliceBound, asIntOf, him, szOf_run hE, h1, addr_add]

theorem g_slTc {x y : Operand} {t E k m c b o : Nat} {p : Int} {kk : IntKind} (j : Nat) (hk : Kn df n a l) (h : R (.slice (some ⟨b, o, none⟩) j c) w)
    (hx : ev l x = some (.slice (some ⟨b, o, none⟩) m c) := by rfl) (hy : ev l y = some (.int kk p) := by rfl) (ht : elOf P t = some E) (hE : szOf P E = some (k + 1)) (hp : p = (j : Int)) (hj : j ≤ c) :
    Gives P ⟨dst, .slice t x none (some y) none, ty, pos, af, g⟩ a w R := by
  subst hp
  refine givesv (v := .slice (some ⟨b, o, none⟩) j c) ?_ h
  have e : (⟨b, o, none⟩ : Addr).add 0 = ⟨b, o, none⟩ := rfl
  by_cases h0 : c = 0
  · have hj0 : j = 0 := by omega
    subst h0 hj0
    simp [execOp, hk.eval hx, hk.eval hy, Instr.sliceAt, Instr.slice, run_underlying (elOf_und ht), Instr.sliceBounds, Instr.sliceBound, asIntOf, szOf_run hE]
  simp [execOp, hk.eval hx, hk.eval hy, Instr.sliceAt, Instr.slice, run_underlying (elOf_und ht), Instr.sliceBounds, Instr.sliceBound, asIntOf, hj, szOf_run hE, h0, e]

theorem g_capC {x : Operand} {t E m c : Nat} {ao : Option Addr} (hk : Kn df n a l) (h : R (.int .i64 c) w) (hx : ev l x = some (.slice ao m c) := by rfl) (ht : elOf P t = some E) :
    Gives P ⟨dst, .call { callee := .builtin .cap, args := #[x], argTypes := #[t] }, ty, pos, af, g⟩ a w R := by
  refine givesv (v := .int .i64 c) ?_ h
  simp [execOp, resolve, invoke, builtin, hk.eval hx, Builtin.cap_, run_underlying (elOf_und ht), goInt]

theorem g_copyC {x y : Operand} {t tx E k b o dn dc sb so sn sc q : Nat} {vs cs : List Value} {E' : TypeId} (hk : Kn df n a l) (hS : St w0 L w)
    (h : ∀ w', St w0 (pts b (splice vs o cs) E' :: L') w' → R (.int .i64 (q : Int)) w')
    (hx : ev l x = some (.slice (some ⟨b, o, none⟩) dn dc) := by rfl) (hy : ev l y = some (.slice (some ⟨sb, so, none⟩) sn sc) := by rfl)
    (hat : At (pts b vs E') L L' := by (repeat (first | exact At.here | apply At.there))) (ht : elOf P t = some E) (hE : szOf P E = some (k + 1)) (hq : q = Nat.min sn dn) (hl : cs.length = q * (k + 1))
    (hsrc : Cells sb so cs w) (h1 : ∀ u ∈ cs, u.oneCell' = true) (hfit : o + cs.length ≤ vs.length) :
    Gives P ⟨dst, .call { callee := .builtin .copy, args := #[x, y], argTypes := #[t, tx] }, ty, pos, af, g⟩ a w R := by
  obtain ⟨w', hr, hS'⟩ := run_storeCells_own (P := P) cs o 0 vs w hS hat h1 (by simpa using hfit)
  simp only [Nat.add_zero] at hS'
  refine givesv (v := .int .i64 (q : Int)) (w' := w') ?_ (h w' hS')
  have hf := run_firstCells_some (P := P) (w := w) (k + 1) q ⟨sb, so, none⟩ sn sc cs hl (fun j v hj => by rw [addr_add]; exact hsrc j v hj)
  simp [execOp, resolve, invoke, builtin, hk.eval hx, hk.eval hy, Builtin.copy_, run_underlying (elOf_und ht), Builtin.lenOf, szOf_run hE, ← hq, hf, hr, goInt]

theorem g_appZ {x y : Operand} {t tx E k b o i c q by_ : Nat} {z : Value} {cs : List Value} {kn : IntKind} (hk : Kn df n a l) (hS : St w0 L w)
    (h : ∀ (w' : World) (b' c' : Nat) (us : List Value), i + q ≤ c' → c' ≤ maxLen → us.length = c' * (k + 1) → (∀ (j : Nat) (u : Value), cs[j]? = some u → us[j]? = some u) → (∀ u ∈ us, u.oneCell' = true) → St w0 (pts b' us E :: L) w' → R (.slice (some ⟨b', 0, none⟩) (i + q) c') w')
    (hx : ev l x = some (.slice (some ⟨b, o, none⟩) i c) := by rfl) {p : Int} (hy : ev l y = some (.int .i64 p) := by rfl) (hp : p = (q : Int)) (ht : elOf P t = some E) (htx : P.underlying tx = some (.int kn)) (hE : szOf P E = some (k + 1)) (hz : zeroOf P E = some z) (hzs : z.cells.size = k + 1) (hz1 : ∀ u ∈ z.cells.toList, u.oneCell' = true)
    (hby : ((P.info? E).map (·.bytes)).getD 0 = by_) (h0 : 0 < q) (hc : c < i + q) (hl : cs.length = i * (k + 1)) (hcs : Cells b o cs w) (h1 : ∀ u ∈ cs, u.oneCell' = true) (hbytes : (i + q) * by_ ≤ 140737488355328) (h63 : i + q ≤ maxLen) :
    Gives P ⟨dst, .call { callee := .builtin .append, args := #[x, y], argTypes := #[t, tx] }, ty, pos, af, g⟩ a w R := by
  subst hp
  obtain ⟨inf, hi, his, hiz⟩ := byOf_info hE hz
  have hib : inf.bytes = by_ := by rw [hi] at hby; exact hby
  have hold : (Builtin.firstCells inf.size i (.slice (some ⟨b, o, none⟩) i c)).run P w.drew = .ok cs.toArray w.drew := by
    rw [his]
    exact run_firstCells_some w.drew (k + 1) i ⟨b, o, none⟩ i c cs hl (fun j v hj => by rw [addr_add]; exact hcs j v hj)
  have hqb : q * inf.bytes ≤ 281474976710656 := by
    rw [hib]
    have : q * by_ ≤ (i + q) * by_ := Nat.mul_le_mul_right _ (by omega)
    omega
  have hr := Lib.run_append_grow_zeros (P := P) w t tx ty E inf z .i64 kn (elOf_und ht) htx hi hiz (some ⟨b, o, none⟩) i c cs hold q h0 (by omega) hc (by simp only [maxLen] at h63; omega) hqb (growslice_fits hc (by rw [hib]; exact hbytes))
  have hge := grownCap_ge w (i + q) c E
  have hcm := grownCap_le_maxLen w (i + q) c E h63
  generalize grownCap w (i + q) c E = gc at *
  have hal := hS.drew.alloc (cs ++ (Builtin.zeroCells z.cells q).toList ++ (Builtin.zeroCells z.cells (gc - (i + q))).toList) E
  have hww : (w.drew.alloc (.cells (cs ++ (Builtin.zeroCells z.cells q).toList ++ (Builtin.zeroCells z.cells (gc - (i + q))).toList).toArray E)) = w.drew.alloc (.cells (cs.toArray ++ Builtin.zeroCells z.cells q ++ Builtin.zeroCells z.cells (gc - (i + q))) E) := by
    congr 2
    apply Array.ext'
    simp
  rw [hww] at hal
  have hz2 : ∀ m u, u ∈ (Builtin.zeroCells z.cells m).toList → u.oneCell' = true := by
    intro m u hu
    simp only [Builtin.zeroCells] at hu
    simp at hu
    obtain ⟨q, hq, rfl⟩ := hu
    have hlt : q % z.cells.size < z.cells.size := Nat.mod_lt _ (by rw [hzs]; omega)
    rw [getElem!_pos z.cells _ hlt]
    exact hz1 _ (by simp)
  refine givesv (v := .slice (some ⟨w.heap.size, 0, none⟩) (i + q) gc) (w' := _) ?_ (h _ _ gc _ hge hcm ?_ (fun j u hj => ?_) (fun u hu => ?_) hal)
  · simp [execOp, resolve, invoke, builtin, hk.eval hx, hk.eval hy, hr]
  · rw [List.length_append, List.length_append, hl, Array.length_toList, Array.length_toList, size_zeroCells, size_zeroCells, hzs, ← Nat.add_mul, ← Nat.add_mul]
    congr 1
    omega
  · have hlt : j < cs.length := by
      rcases Nat.lt_or_ge j cs.length with h' | h'
      · exact h'
      · rw [List.getElem?_eq_none h'] at hj; cases hj
    rw [List.append_assoc, List.getElem?_append_left hlt]
    exact hj
  · rw [List.mem_append, List.mem_append] at hu
    rcases hu with (hu | hu) | hu
    · exact h1 u hu
    · exact hz2 _ u hu
    · exact hz2 _ u hu

theorem g_ovl {x y : Operand} {f : FuncId} {fn : Func} {ts : Array TypeId} {tS tR E k b o m c b' o' m' c' : Nat} {vs vs' : List Value} {E1 E2 : TypeId} {L'' : List HP} (hk : Kn df n a l) (hS : St w0 L w) (h : R (.bool false) w)
    (hf : P.funcs[f]? = some fn) (hname : (fn.name == "runtime.NumGoroutine") = false) (hb : fn.body.isNone = true) (hn : Extern.findNext fn = none) (he : Extern.find fn = some (Extern.SlicesOverlaps.overlaps #[tS, tS] #[tR]))
    (hx : ev l x = some (.slice (some ⟨b, o, none⟩) m c) := by rfl) (hy : ev l y = some (.slice (some ⟨b', o', none⟩) m' c') := by rfl)
    (hat : At (pts b vs E1) L L' := by (repeat (first | exact At.here | apply At.there))) (hat2 : At (pts b' vs' E2) L' L'' := by (repeat (first | exact At.here | apply At.there)))
    (ht : elOf P tS = some E) (hE : szOf P E = some (k + 1)) (hne : vs' ≠ []) :
    Gives P ⟨dst, .call { callee := .value (.func f), args := #[x, y], argTypes := ts }, ty, pos, af, g⟩ a w R := by
  have hb1 := pts.block (hS.rd hat)
  have hb2 := pts.block ((hS.sub hat.rest).rd hat2)
  have hbb := hS.two hat hat2
  have hl' : vs'.toArray.size ≠ 0 := by
    rw [List.size_toArray]
    intro e
    exact hne (List.eq_nil_of_length_eq_zero e)
  have hr := Lib.run_overlaps_apart (P := P) w tS tR E (elOf_und ht) (k + 1) (szOf_run hE) ⟨b, o, none⟩ ⟨b', o', none⟩ m c m' c' hbb E1 E2 vs.toArray.size vs'.toArray.size (by simp [World.shape?, hb1]) (by simp [World.shape?, hb2]) hl' (by simp [World.frozen?, hb1]) (by simp [World.frozen?, hb1])
  refine givesv (v := .bool false) ?_ h
  have e : (execOp a.eval ⟨dst, .call { callee := .value (.func f), args := #[x, y], argTypes := ts }, ty, pos, af, g⟩) = callFunc f #[.slice (some ⟨b, o, none⟩) m c, .slice (some ⟨b', o', none⟩) m' c'] := by
    have e1 : (#[] ++ (#[x, y] : Array Operand).map a.eval ++ #[] : Array Value) = #[.slice (some ⟨b, o, none⟩) m c, .slice (some ⟨b', o', none⟩) m' c'] := by simp [hk.eval hx, hk.eval hy]
    rw [← e1]
    rfl
  rw [e, run_callFunc_extern hf hname hb hn he, hr]
  rfl
end

section
variable {α : Type}
def insF (xs : List α) (i : Nat) (e : α) : List α := xs.take i ++ e :: xs.drop i

theorem insF_len {xs : List α} {i : Nat} {e : α} (h : i ≤ xs.length) : (insF xs i e).length = xs.length + 1 := by
  unfold insF
  rw [List.length_append, List.length_take, List.length_cons, List.length_drop]
  omega
variable [Enc α]
theorem enc_ins (xs : List α) (i : Nat) (e : α) (hi : i ≤ xs.length) (j : Nat) : (enc (insF xs i e))[j]? =
    if j < i * (Enc.k α + 1) then (enc xs)[j]? else if j < (i + 1) * (Enc.k α + 1) then (Enc.f e)[j - i * (Enc.k α + 1)]? else (enc xs)[j - (Enc.k α + 1)]? := by
  have hl : (enc (xs.take i)).length = i * (Enc.k α + 1) := by rw [enc_len, List.length_take, Nat.min_eq_left hi]
  unfold insF
  rw [enc_append, enc_cons]
  by_cases h1 : j < i * (Enc.k α + 1)
  · rw [if_pos h1, List.getElem?_append_left (by rw [hl]; exact h1), ← enc_take, List.getElem?_take, if_pos h1]
  · rw [if_neg h1, List.getElem?_append_right (by rw [hl]; omega), hl]
    by_cases h2 : j < (i + 1) * (Enc.k α + 1)
    · rw [if_pos h2, List.getElem?_append_left (by rw [Enc.len]; rw [Nat.add_mul] at h2; omega)]
    · rw [if_neg h2]
      rw [Nat.add_mul] at h2
      rw [List.getElem?_append_right (by rw [Enc.len]; omega), Enc.len, ← enc_drop, List.getElem?_drop]
      congr 1
      omega

theorem St.toOwn {B : Bs} {w : World} {L L' : List HP} {b off cap : Nat} {vs : List Value} {E : TypeId} {ys : List α} (h : St B L w) (hat : At (pts b vs E) L L') (hn : ys.length ≤ cap) (hcm : cap ≤ maxLen) (hvl : off + cap * (Enc.k α + 1) ≤ vs.length)
    (hc : ∀ j u, (enc ys)[j]? = some u → vs[off + j]? = some u) : St B (OwT E ys (.slice (some ⟨b, off, none⟩) ys.length cap) :: L') w :=
  h.conv (As := [_]) hat (fun F hF => ⟨F, fun _ h => h, Sep.one ⟨by rw [enc_len], Nat.le_trans hn hcm, .inr ⟨b, off, cap, _, rfl, hF.1, hF.2.1, hF.2.2, hn, hcm, by simpa using hvl, fun j u hj => by simpa using hc j u hj⟩, fun c hc => (pts _ _ E).dom F _ c hF hc⟩⟩)

theorem enc_single (e : α) : enc [e] = Enc.f e := by simp [enc]
theorem Cells.dropT {xs : List α} {vs : List Value} {b off : Nat} {E : TypeId} {w : World} (i : Nat) (hb : w.heap[b]? = some (.cells vs.toArray E (0, 0))) (hvs : ∀ (j : Nat) (u : Value), (enc xs)[j]? = some u → vs[off + j]? = some u) : Cells b (off + i * (Enc.k α + 1)) (enc (xs.drop i)) w := fun j u hj => by
  rw [cell_of_row w b _ _ E _ hb, List.getElem?_toArray, Nat.add_assoc]
  exact hvs _ u (by rw [← List.getElem?_drop, enc_drop]; exact hj)
theorem Cells.takeT {xs : List α} {vs : List Value} {b off : Nat} {E : TypeId} {w : World} (i : Nat) (hb : w.heap[b]? = some (.cells vs.toArray E (0, 0))) (hvs : ∀ (j : Nat) (u : Value), (enc xs)[j]? = some u → vs[off + j]? = some u) : Cells b off (enc (xs.take i)) w := fun j u hj => by
  rw [cell_of_row w b _ _ E _ hb, List.getElem?_toArray]
  refine hvs _ u ?_
  rw [← enc_take, List.getElem?_take] at hj
  split at hj
  · exact hj
  · cases hj

theorem ins_cells {xs : List α} {i off : Nat} {e : α} {vs vs0 : List Value} (hi : i < xs.length) (hvl : off + (xs.length + 1) * (Enc.k α + 1) ≤ vs.length)
    (h0 : ∀ j u, (enc (xs.take i))[j]? = some u → vs[off + j]? = some u)
    (hvs0 : vs0 = splice (splice vs (off + (i + 1) * (Enc.k α + 1)) (enc (xs.drop i))) (off + i * (Enc.k α + 1)) (Enc.f e) ∨ vs0 = splice (splice vs (off + i * (Enc.k α + 1)) (Enc.f e)) (off + (i + 1) * (Enc.k α + 1)) (enc (xs.drop i))) :
    vs0.length = vs.length ∧ ∀ j u, (enc (insF xs i e))[j]? = some u → vs0[off + j]? = some u := by
  have hdl : (enc (xs.drop i)).length = (xs.length - i) * (Enc.k α + 1) := by rw [enc_len, List.length_drop]
  have e1 : xs.length * (Enc.k α + 1) = i * (Enc.k α + 1) + (xs.length - i) * (Enc.k α + 1) := by rw [← Nat.add_mul]; congr 1; omega
  have e2 : (i + 1) * (Enc.k α + 1) = i * (Enc.k α + 1) + (Enc.k α + 1) := Nat.succ_mul _ _
  have e3 : (xs.length + 1) * (Enc.k α + 1) = xs.length * (Enc.k α + 1) + (Enc.k α + 1) := Nat.succ_mul _ _
  have hf := Enc.len e
  have hxl := enc_len xs
  have hins := fun j => enc_ins xs i e (by omega) j
  have htk : ∀ j, j < i * (Enc.k α + 1) → (enc (xs.take i))[j]? = (enc xs)[j]? := fun j hj => by rw [← enc_take, List.getElem?_take, if_pos hj]
  have hdr : ∀ j, (enc (xs.drop i))[j]? = (enc xs)[i * (Enc.k α + 1) + j]? := fun j => by rw [← enc_drop, List.getElem?_drop]
  generalize (xs.length - i) * (Enc.k α + 1) = D at *
  generalize (xs.length + 1) * (Enc.k α + 1) = N1 at *
  generalize xs.length * (Enc.k α + 1) = N at *
  generalize (i + 1) * (Enc.k α + 1) = I1 at *
  generalize hI : i * (Enc.k α + 1) = I at *
  generalize Enc.k α + 1 = K at *
  have hlen : ∀ (a b : List Value) (o : Nat), (splice a o b).length = a.length := fun a b o => splice_len b o a
  rcases hvs0 with rfl | rfl
  · refine ⟨by rw [hlen, hlen], fun j u hj => ?_⟩
    rw [splice_get _ _ _ _ (by rw [hlen, hf]; omega), splice_get _ _ _ _ (by rw [hdl]; omega), hf, hdl]
    rw [hins] at hj
    by_cases h1 : j < I
    · rw [if_pos h1] at hj
      rw [if_neg (by omega), if_neg (by omega)]
      exact h0 j u (by rw [htk j h1]; exact hj)
    · rw [if_neg h1] at hj
      by_cases h2 : j < I1
      · rw [if_pos h2] at hj
        rw [if_pos (by omega), show off + j - (off + I) = j - I by omega]
        exact hj
      · rw [if_neg h2] at hj
        have hlt : j - K < (enc xs).length := by
          rcases Nat.lt_or_ge (j - K) (enc xs).length with h' | h'
          · exact h'
          · rw [List.getElem?_eq_none h'] at hj; cases hj
        rw [if_neg (by omega), if_pos (by omega), hdr, show I + (off + j - (off + I1)) = j - K by omega]
        exact hj
  · refine ⟨by rw [hlen, hlen], fun j u hj => ?_⟩
    rw [splice_get _ _ _ _ (by rw [hlen, hdl]; omega), splice_get _ _ _ _ (by rw [hf]; omega), hf, hdl]
    rw [hins] at hj
    by_cases h1 : j < I
    · rw [if_pos h1] at hj
      rw [if_neg (by omega), if_neg (by omega)]
      exact h0 j u (by rw [htk j h1]; exact hj)
    · rw [if_neg h1] at hj
      by_cases h2 : j < I1
      · rw [if_pos h2] at hj
        rw [if_neg (by omega), if_pos (by omega), show off + j - (off + I) = j - I by omega]
        exact hj
      · rw [if_neg h2] at hj
        have hlt : j - K < (enc xs).length := by
          rcases Nat.lt_or_ge (j - K) (enc xs).length with h' | h'
          · exact h'
          · rw [List.getElem?_eq_none h'] at hj; cases hj
        rw [if_pos (by omega), hdr, show I + (off + j - (off + I1)) = j - K by omega]
        exact hj
end
end Go.Proofs.YtipdgobplfkipaaDoor
namespace Go.Proofs.YtipdgobplfkipaaDoor
variable {df : List Deferred}
open Go.RowKit

section
variable {P : Program} {a : Act} {w w' : World} {w0 : Bs} {n : Nat} {l : List (Nat × Value)} {L L' : List HP}
  {dst : Option Nat} {R : Value → World → Prop} {ty : TypeId} {pos : String} {af : Array Edge} {g : Option (Nat × Bool)}

end

def emp0 (v : Value) : HP where
  holds F _ := (∀ b, ¬ F b) ∧ ∃ ao, v = .slice ao 0 0
  stable := fun _ _ _ h _ => h
  dom := fun _ _ b h hb => absurd hb (h.1 b)
section
variable {P : Program} {a : Act} {w w' : World} {w0 : Bs} {n : Nat} {l : List (Nat × Value)} {L L' : List HP}
  {dst : Option Nat} {R : Value → World → Prop} {ty : TypeId} {pos : String} {af : Array Edge} {g : Option (Nat × Bool)} {α : Type} [Enc α]
end

section
variable {α : Type} (p : α → Bool)
structure Sieve (s ys : List α) (i j : Nat) : Prop where
  len : ys.length = s.length
  le : i < j
  head : ys.take i = (s.take j).filter (fun x => !p x)
  tail : ys.drop j = s.drop j
end

section
variable {α : Type} [Enc α]
end

section
variable {α : Type} [Enc α]
variable {P : Program} {a : Act} {w w' : World} {w0 : Bs} {n : Nat} {l : List (Nat × Value)} {L L' : List HP}
  {dst : Option Nat} {R : Value → World → Prop} {ty : TypeId} {pos : String} {af : Array Edge} {g : Option (Nat × Bool)}
end
end Go.Proofs.YtipdgobplfkipaaDoor
namespace Go.Proofs.YtipdgobplfkipaaDoor
variable {df : List Deferred} {rr : Option Nat}
open Go.RowKit

def obj (b : Nat) (o : Obj) : HP where
  holds F w := F b ∧ (∀ c, F c → c = b) ∧ w.heap[b]? = some o
  stable := fun F w w' ⟨h1, h2, h3⟩ h => ⟨h1, h2, by rw [h b h1]; exact h3⟩
  dom := fun F w c ⟨h1, h2, h3⟩ hc => by
    rw [h2 c hc]
    rcases Nat.lt_or_ge b w.heap.size with h' | h'
    · exact h'
    · rw [Array.getElem?_eq_none h'] at h3; cases h3

theorem obj.block {b : Nat} {o : Obj} {w : World} (h : (obj b o).rd w) : w.heap[b]? = some o :=
  let ⟨_, h⟩ := h
  h.2.2

theorem St.newObj {B : Bs} {w : World} {L : List HP} (h : St B L w) (o : Obj) : St B (obj w.heap.size o :: L) (w.alloc o) :=
  h.new (As := [_]) ((Below.refl _ _).alloc (Nat.le_refl _) _) ⟨fun b => b = w.heap.size, fun b hb => by subst hb; simp, Sep.one ⟨rfl, fun _ h => h, World.alloc_heap_new w o⟩⟩

def lrec (fn : FuncId) (tmps : Array Value) (ps : Array Tmp) (assign body : Code) (D : Nat) (s : LoopState) (pe : Option Code) : Obj :=
  .loop { state := s, pending := pe, fn, tmps, params := ps, assign, body, defers := D }

def BegK (P : Program) (b : Nat) (body : Code) (R : Ending → World → Prop) (a : Act) (w : World) : Prop :=
  ∃ w₂, (Instr.beginRound b).run P w = .ok () w₂ ∧ body.wpIn (FR (some b)) 0 P (roundPost P b R) a w₂

section
variable {P : Program} {Q : Exit → Act → World → Prop} {a : Act} {w w' : World} {w0 : Bs} {n : Nat} {l l0 : List (Nat × Value)} {L L' : List HP}
  {dst : Option Nat} {R : Value → World → Prop} {ty : TypeId} {pos : String} {af : Array Edge} {g : Option (Nat × Bool)}
  {fn : FuncId} {tmps : Array Value} {ps : Array Tmp} {assign body : Code} {D b : Nat}

def mk_ (D : Nat) : List Deferred := [{ target := .collected D, args := #[] }]

def DoneM (P : Program) (fn : Func) (R : Value → World → Prop) : Exit → Act → World → Prop := bodyPostM Fence.wide 0 P fn (Ret R)

theorem done0n {fn : Func} (hk : Kn [] n a l) (hr : fn.results = #[] := by rfl) (h : R (.tuple #[]) w) : Done P fn R .normal a w :=
  bodyPost_end (results_none hr _ _ _) hk.defers ⟨_, rfl, h⟩
end
end Go.Proofs.YtipdgobplfkipaaDoor
namespace Go.Proofs.YtipdgobplfkipaaDoor
open Go.RowKit

def RoP (R : Value → World → Prop) (S : List PanicEntry → World → Prop) (e : Ending) (w : World) : Prop := (∃ v, e = .returned v ∧ R v w) ∨ ∃ ch, e = .panicked ch ∧ S ch w
theorem RoP.mono {R R' : Value → World → Prop} {S S' : List PanicEntry → World → Prop} {e : Ending} {w : World} (h : RoP R S e w) (hr : ∀ v w, R v w → R' v w) (hs : ∀ ch w, S ch w → S' ch w) : RoP R' S' e w :=
  h.elim (fun ⟨v, he, hv⟩ => .inl ⟨v, he, hr v w hv⟩) (fun ⟨ch, he, hv⟩ => .inr ⟨ch, he, hs ch w hv⟩)
def DoneP (P : Program) (fn : Func) (R : Value → World → Prop) (S : List PanicEntry → World → Prop) : Exit → Act → World → Prop := bodyPost P fn (RoP R S)

section
variable {P : Program} {ops : Array Oper} {Q : Exit → Act → World → Prop} {a : Act} {w w' : World} {rest : List Oper} {n : Nat} {l : List (Nat × Value)} {df : List Deferred} {rr : Option Nat}
  {d : Nat} {dst : Option Nat} {ty : TypeId} {pos : String} {af : Array Edge} {g : Option (Nat × Bool)} {R R' : Value → World → Prop} {S S' : List PanicEntry → World → Prop} {fn : Func}

theorem enterP {f : FuncId} {c : Code} {args : List Value} (hf : P.funcs[f]? = some fn) (hb : fn.body = some c) (hnt : fn.ntmps = n) (hn : Nat.ble args.length n = true)
    (h : ∀ a, Kn [] n a (initK 0 args) → c.wpIn (FR none) 0 P (DoneP P fn R S) a w) : Calls P f args.toArray w (RoP R S) := by
  subst hnt
  exact callsIn_wide.1 (callsIn_of_wp (F := Fence.wide) (n := 0) hf hb trivial (h _ (Kn.init (Nat.le_of_ble_eq_true hn))) rfl)

theorem DoneP.of {e : Exit} (he : e = .ret ∨ e = .normal) (h : Done P fn R e a w) : DoneP P fn R S e a w := by
  rcases he with rfl | rfl
  · obtain ⟨h1, v, h2, h3⟩ := h; exact ⟨h1, v, h2, .inl h3⟩
  · obtain ⟨h1, v, h2, h3⟩ := h; exact ⟨h1, v, h2, .inl h3⟩
theorem DoneP.ret (h : Done P fn R .ret a w) : DoneP P fn R S .ret a w := .of (.inl rfl) h
theorem DoneP.panic {ch : List PanicEntry} (hk : Kn [] n a l) (h : S ch w) : DoneP P fn R S (.panic ch) a w := ⟨hk.defers, .inr ⟨ch, rfl, h⟩⟩

theorem then_panic {K : Act → World → Prop} {ch : List PanicEntry} (h : Q (.panic ch) a w) : Exit.then K Q (.panic ch) a w := h
theorem inBlock_panic {id : Nat} {ch : List PanicEntry} (h : Q (.panic ch) a w) : Exit.inBlock id Q (.panic ch) a w := h

def GivesP (P : Program) (o : Oper) (a : Act) (w : World) (R : Value → World → Prop) (S : List PanicEntry → World → Prop) : Prop :=
  (∀ c, o.op ≠ .defer c) ∧ match (execOp a.eval o).run P w with
  | .ok (.value v) w' => R v w'
  | .ok .skip w' => R undef w'
  | .ok (.enter f args) w' => Calls P f args w' (RoP R S)
  | .halt (.panic v) w' => S [{ v, recovered := false }] w'
  | _ => False

theorem GivesP.wp {o : Oper} {K : Act → World → Prop} (h : GivesP P o a w R S) (hK : ∀ v w', R v w' → K (a.put o.dst v) w') (hQ : ∀ ch w', S ch w' → Q (.panic ch) a w') : o.wpIn (FR rr) 0 P a w K Q := by
  have hs : (o.semAt (FR rr).round a.eval).run P w = (execOp a.eval o).run P w := by rw [Oper.semAt_eq _ _ _ h.1]
  replace h := h.2
  refine ⟨fun _ _ => trivial, ?_⟩
  rw [hs]
  generalize (execOp a.eval o).run P w = r at *
  cases r with
  | halt x w' =>
    cases x <;> first | exact hQ _ _ h | exact h.elim
  | ok nx w' =>
    cases nx <;> first
      | exact hK _ _ h
      | exact h.elim
      | exact ⟨fun h => (by cases h), CallsIn.fr (Calls.mono h (fun e w'' hh => by
          rcases hh with ⟨v, he, hv⟩ | ⟨ch, he, hv⟩
          · subst he; exact hK _ _ hv
          · subst he; exact hQ _ _ hv))⟩

theorem sgP {o : Op} (hk : Kn df n a l) (h : GivesP P ⟨some d, o, ty, pos, af, g⟩ a w (fun v w' => ∀ a', Kn df n a' ((d, v) :: l) → wpListIn (FR rr) 0 P ops Q rest a' w') (fun ch w' => ∀ a', Kn df n a' l → Q (.panic ch) a' w'))
    (hg : gdK ops l g = some true := by rfl) (hd : Nat.blt d n = true := by rfl) : wpListIn (FR rr) 0 P ops Q (⟨some d, o, ty, pos, af, g⟩ :: rest) a w := by
  unfold wpListIn
  rw [if_pos (wanted_of (o := ⟨some d, o, ty, pos, af, g⟩) hk hg)]
  exact h.wp (fun v w' hv => hv _ (hk.put (d := some d) hd v)) (fun ch w' hv => hv _ hk)
theorem suP {o : Op} (hk : Kn df n a l) (h : GivesP P ⟨none, o, ty, pos, af, g⟩ a w (fun _ w' => ∀ a', Kn df n a' l → wpListIn (FR rr) 0 P ops Q rest a' w') (fun ch w' => ∀ a', Kn df n a' l → Q (.panic ch) a' w'))
    (hg : gdK ops l g = some true := by rfl) : wpListIn (FR rr) 0 P ops Q (⟨none, o, ty, pos, af, g⟩ :: rest) a w := by
  unfold wpListIn
  rw [if_pos (wanted_of (o := ⟨none, o, ty, pos, af, g⟩) hk hg)]
  exact h.wp (fun v w' hv => hv _ hk) (fun ch w' hv => hv _ hk)

theorem GivesP.mono {o : Oper} (h : GivesP P o a w R S) (hr : ∀ v w, R v w → R' v w) (hs : ∀ ch w, S ch w → S' ch w) : GivesP P o a w R' S' := by
  refine ⟨h.1, ?_⟩
  replace h := h.2
  generalize (execOp a.eval o).run P w = r at *
  cases r with
  | halt x w' => cases x <;> first | exact hs _ _ h | exact h
  | ok nx w' => cases nx <;> first | exact hr _ _ h | exact Calls.mono h (fun e w hh => hh.mono hr hs) | exact h

theorem g_callP {f : FuncId} {xs : List Operand} {vs : List Value} {ts : Array TypeId} (hk : Kn df n a l) (hxs : evs l xs = some vs := by rfl) (hf : callable P f = true) (hc : Calls P f vs.toArray w (RoP R S)) :
    GivesP P ⟨dst, .call { callee := .value (.func f), args := xs.toArray, argTypes := ts }, ty, pos, af, g⟩ a w R S := by
  refine ⟨fun c => by simp, ?_⟩
  have he := evs_map hk hxs
  have h1 : (#[] ++ (List.toArray xs).map a.eval ++ #[] : Array Value) = vs.toArray := by simp [he]
  have h2 : (execOp a.eval ⟨dst, .call { callee := .value (.func f), args := xs.toArray, argTypes := ts }, ty, pos, af, g⟩).run P w = .ok (.enter f vs.toArray) w := by rw [← h1]; exact callFunc_run hf
  rw [h2]
  exact hc

def DoneD (P : Program) (fn : Func) (R : Value → World → Prop) : Exit → Act → World → Prop := bodyPostDIn Fence.wide 0 P fn (Ret R)
theorem enterD {f : FuncId} {c : Code} {args : List Value} (hf : P.funcs[f]? = some fn) (hb : fn.body = some c) (hnt : fn.ntmps = n) (hn : Nat.ble args.length n = true)
    (h : ∀ a, Kn [] n a (initK 0 args) → c.wpIn (FR none) 0 P (DoneD P fn R) a w) : Calls P f args.toArray w (Ret R) := by
  subst hnt
  exact callsIn_wide.1 (callsIn_of_wp_defers (F := Fence.wide) (n := 0) hf hb trivial (h _ (Kn.init (Nat.le_of_ble_eq_true hn))) rfl)
theorem DoneD.done (hk : Kn [] n a l) {v : Value} (hr : (results fn a.tmps).run P w = .ok v w) (h : R v w) : DoneD P fn R .ret a w := by
  show LeavesIn _ _ _ _ _ _ a.defers .returning w
  rw [hk.defers]
  exact ⟨v, hr, v, rfl, h⟩
theorem DoneD.leave {e : Exit} {u : FrameMode} {f : FuncId} {fv : Fn} {cap dargs args : Array Value} {R2 : World → Prop} (he : (e = .ret ∧ u = .returning) ∨ (e = .normal ∧ u = .returning) ∨ ∃ ch, e = .panic ch ∧ u = .panicking ch)
    (hk : Kn [{ target := .fn fv cap, args := dargs }] n a l) (hi : (invoke (.fn fv cap) dargs).run P w = .ok (.enter f args) w)
    (hc : CallsDIn Fence.wide 0 P f args u w fun e u' w' => (∃ v, e = .returned v) ∧ settle u' = .returning ∧ R2 w')
    (hr : ∀ w', R2 w' → ∃ v, (results fn a.tmps).run P w' = .ok v w' ∧ R v w') : DoneD P fn R e a w := by
  have key : LeavesIn Fence.wide 0 P fn a.tmps (Ret R) a.defers u w := by
    rw [hk.defers]
    refine leavesIn_cons (by rcases he with ⟨-, rfl⟩ | ⟨-, rfl⟩ | ⟨ch, -, rfl⟩ <;> simp) (fun h => by cases h) hi (fun _ _ => trivial) (hc.mono fun e u' w' hh => ?_)
    obtain ⟨⟨v, rfl⟩, hu, hR⟩ := hh
    show LeavesIn _ _ _ _ _ _ [] (settle u') w'
    rw [hu]
    obtain ⟨v', h1, h2⟩ := hr w' hR
    exact ⟨v', h1, v', rfl, h2⟩
  rcases he with ⟨rfl, rfl⟩ | ⟨rfl, rfl⟩ | ⟨ch, rfl, rfl⟩ <;> exact key
theorem enterR {f : FuncId} {c : Code} {args : List Value} {u : FrameMode} {R2 : Ending → FrameMode → World → Prop} (hf : P.funcs[f]? = some fn) (hb : fn.body = some c) (hnt : fn.ntmps = n) (hn : Nat.ble args.length n = true)
    (h : ∀ (a : Act) (c₀ : Frame) (cs : List Frame), c₀.mode = u → Kn [] n a (initK 0 args) → c.wpSIn Fence.wide 0 P (bodyPostS P fn c₀ cs R2) a (c₀ :: cs) w) : CallsDIn Fence.wide 0 P f args.toArray u w R2 := by
  subst hnt
  exact callsDIn_of_wpSIn hf hb trivial (fun c₀ cs hu => h _ c₀ cs hu (Kn.init (Nat.le_of_ble_eq_true hn)))
theorem wpS_rest {c : Code} {Q : Exit → Act → List Frame → World → Prop} {cs : List Frame} (h : c.wpIn (FR none) 0 P (fun e a' w' => Q e a' cs w') a w) : c.wpSIn Fence.wide 0 P Q a cs w := wpSIn_of_wpIn rfl h
end
end Go.Proofs.YtipdgobplfkipaaDoor
namespace Go.Proofs.YtipdgobplfkipaaDoor
open Go.RowKit
section
variable {P : Program} {ops : Array Oper} {Q : Exit → Act → World → Prop} {a : Act} {w w' : World} {rest : List Oper} {n : Nat} {l : List (Nat × Value)} {df : List Deferred} {rr : Option Nat}
  {d : Nat} {dst : Option Nat} {ty : TypeId} {pos : String} {af : Array Edge} {g : Option (Nat × Bool)} {R R' : Value → World → Prop} {S S' : List PanicEntry → World → Prop} {fn : Func}

theorem g_mkI {x : Operand} {T : TypeId} {v : Value} (hk : Kn df n a l) (h : R (.iface T v) w) (hT : P.concrete T = true) (hx : ev l x = some v := by rfl) :
    Gives P ⟨dst, .makeInterface T x, ty, pos, af, g⟩ a w R :=
  givesv (v := .iface T v) (by simp [execOp, hk.eval hx, run_makeInterface w T v hT]) h
theorem g_panicO {x : Operand} {T : TypeId} {v : Value} (hk : Kn df n a l) (h : S [{ v := .iface T v, recovered := false }] w) (hx : ev l x = some (.iface T v) := by rfl) :
    GivesP P ⟨dst, .panic x, ty, pos, af, g⟩ a w R S := by
  refine ⟨fun c => by simp, ?_⟩
  have h1 : (execOp a.eval ⟨dst, .panic x, ty, pos, af, g⟩).run P w = .halt (.panic (.iface T v)) w := by
    simp [execOp, hk.eval hx, run_panic_iface]
  rw [h1]; exact h
theorem g_asY {x : Operand} {xT T : TypeId} {v : Value} {fs : Array Field} (hk : Kn df n a l) (h : R (.tuple #[v, .bool true]) w) (hT : P.underlying T = some (.struct fs)) (hx : ev l x = some (.iface T v) := by rfl) :
    Gives P ⟨dst, .typeAssert x xT T true, ty, pos, af, g⟩ a w R :=
  givesv (v := .tuple #[v, .bool true]) (by simp [execOp, hk.eval hx, Instr.typeAssert, run_underlying hT]) h
theorem g_asN {x : Operand} {xT T : TypeId} {z : Value} {fs : Array Field} (hk : Kn df n a l) (h : R (.tuple #[z, .bool false]) w) (hT : P.underlying T = some (.struct fs)) (hz : zeroOf P T = some z) (hx : ev l x = some .nilIface := by rfl) :
    Gives P ⟨dst, .typeAssert x xT T true, ty, pos, af, g⟩ a w R :=
  givesv (v := .tuple #[z, .bool false]) (by simp [execOp, hk.eval hx, Instr.typeAssert, run_underlying hT, zeroOf_run hz]) h
theorem g_neI {x : Operand} {t t' : TypeId} (hk : Kn df n a l) (h : R (.bool false) w) (ht : P.underlying t = some (.interface (P.methodsAt t))) (hx : ev l x = some .nilIface := by rfl) :
    Gives P ⟨dst, .binOp .neq t x (.const .nilIface) t', ty, pos, af, g⟩ a w R :=
  givesv (v := .bool false) (by
    have h2 : a.eval (.const .nilIface) = .nilIface := rfl
    have h3 : eqGuard .neq t x (.const .nilIface) .nilIface .nilIface = pure () := by cases x <;> rfl
    simp [execOp, hk.eval hx, h2, h3, run_neq_nil_nil w t ht]) h

theorem su_defer {c : Call} {D : Deferred} (hk : Kn df n a l) (h : ∀ a', Kn (D :: df) n a' l → wpListIn (FR none) 0 P ops Q rest a' w) (hr : (resolve a.eval c ty).run P w = .ok D w)
    (hg : gdK ops l g = some true := by rfl) : wpListIn (FR none) 0 P ops Q (⟨none, .defer c, ty, pos, af, g⟩ :: rest) a w := by
  unfold wpListIn
  rw [if_pos (wanted_of (o := ⟨none, .defer c, ty, pos, af, g⟩) hk hg)]
  refine ⟨fun _ _ => trivial, ?_⟩
  have hs : (Oper.semAt (FR none).round a.eval ⟨none, .defer c, ty, pos, af, g⟩).run P w = .ok (.defer D) w := by
    show (Oper.semAt none a.eval _).run P w = _
    rw [Oper.semAt_none]
    simp [execOp, hr]
  rw [hs]
  exact h _ ⟨hk.size, hk.get, by simp [Act.put, hk.defers]⟩
theorem resolve_fn {x : Operand} {f : FuncId} {first cap : Array Value} (hk : Kn df n a l) (hx : ev l x = some (.func (.func f) first cap) := by rfl) {ts : Array TypeId} :
    (resolve a.eval { callee := .value x, args := #[], argTypes := ts } ty).run P w = .ok { target := .fn (.func f) cap, args := first } w := by
  simp [resolve, hk.eval hx, Deferred.ofValue]

section
variable {c₀ : Frame} {cs : List Frame} {QS : Exit → Act → List Frame → World → Prop} {id d1 d2 : Nat} {ts : Array TypeId} {ty1 ty2 : TypeId} {p1 p2 : String} {f1 f2 : Array Edge}
def recOps (d1 d2 : Nat) (ts : Array TypeId) (ty1 ty2 : TypeId) (p1 p2 : String) (f1 f2 : Array Edge) : Array Oper :=
  #[⟨some d1, .call { callee := .builtin .recover, args := #[], argTypes := ts }, ty1, p1, f1, none⟩, ⟨some d2, .assign (.tmp d1), ty2, p2, f2, none⟩]
theorem run_recover {ρ : Operand → Value} {o : Oper} (ho : o.op = .call { callee := .builtin .recover, args := #[], argTypes := ts }) : (execOp ρ o).run P w = .ok .recover w := by
  simp [execOp, ho, resolve, invoke, builtin]
theorem wanted_none {o : Oper} (h : o.guard = none) (y : Nat → Option Bool) : Region.wanted o y = true := by simp [Region.wanted, h]
theorem q_rec0 (hu : c₀.mode = .returning) (hk : Kn df n a l) (h1 : Nat.blt d1 n = true) (h2 : Nat.blt d2 n = true) (hne : Nat.beq d1 d2 = false)
    (h : ∀ a', Kn df n a' ((d2, .nilIface) :: (d1, .nilIface) :: l) → QS .normal a' (c₀ :: cs) w) :
    (Code.region id (recOps d1 d2 ts ty1 ty2 p1 p2 f1 f2) false).wpSIn Fence.wide 0 P QS a (c₀ :: cs) w := by
  apply wpSIn_region
  have e : List.range (recOps d1 d2 ts ty1 ty2 p1 p2 f1 f2).size = [0, 1] := rfl
  rw [e]
  have k1 := hk.put (d := some d1) h1 .nilIface
  have k2 := k1.put (d := some d2) h2 .nilIface
  have hv : (a.put (some d1) .nilIface).eval (.tmp d1) = .nilIface := k1.eval (by simp [ev, putK, lk])
  have hrec : recoverD (c₀ :: cs) = none := by simp [recoverD, hu]
  simp only [wpOpsSIn, recOps, List.getElem?_toArray, List.getElem?_cons_zero, List.getElem?_cons_succ, wanted_none, if_true]
  rw [run_recover rfl]
  simp only [hrec]
  refine ⟨fun _ _ => trivial, fun _ _ => trivial, ?_⟩
  have ha : (execOp (a.put (some d1) .nilIface).eval ⟨some d2, .assign (.tmp d1), ty2, p2, f2, none⟩).run P w = .ok (.value .nilIface) w := by
    simp only [execOp, hv]; rfl
  rw [ha]
  exact h _ k2
theorem q_rec1 {v : Value} (hu : c₀.mode = .panicking [{ v, recovered := false }]) (hk : Kn df n a l) (h1 : Nat.blt d1 n = true) (h2 : Nat.blt d2 n = true) (hne : Nat.beq d1 d2 = false)
    (h : ∀ a', Kn df n a' ((d2, v) :: (d1, v) :: l) → QS .normal a' ({ c₀ with mode := .panicking [{ v, recovered := true }] } :: cs) w) :
    (Code.region id (recOps d1 d2 ts ty1 ty2 p1 p2 f1 f2) false).wpSIn Fence.wide 0 P QS a (c₀ :: cs) w := by
  apply wpSIn_region
  have e : List.range (recOps d1 d2 ts ty1 ty2 p1 p2 f1 f2).size = [0, 1] := rfl
  rw [e]
  have k1 := hk.put (d := some d1) h1 v
  have k2 := k1.put (d := some d2) h2 v
  have hv : (a.put (some d1) v).eval (.tmp d1) = v := k1.eval (by simp [ev, putK, lk])
  have hrec : recoverD (c₀ :: cs) = some (v, { c₀ with mode := .panicking [{ v, recovered := true }] } :: cs) := by simp [recoverD, hu]
  simp only [wpOpsSIn, recOps, List.getElem?_toArray, List.getElem?_cons_zero, List.getElem?_cons_succ, wanted_none, if_true]
  rw [run_recover rfl]
  simp only [hrec]
  refine ⟨fun _ _ => trivial, fun _ _ => trivial, ?_⟩
  have ha : (execOp (a.put (some d1) v).eval ⟨some d2, .assign (.tmp d1), ty2, p2, f2, none⟩).run P w = .ok (.value v) w := by
    simp only [execOp, hv]; rfl
  rw [ha]
  exact h _ k2
theorem q_rest {y : Code} {R2 : World → Prop} {RS : Ending → FrameMode → World → Prop} {u : FrameMode} {cf : Frame} (hcf : cf = { c₀ with mode := u }) (hr : ∀ v w, R2 w → RS (.returned v) u w)
    (h : y.wpIn (FR none) 0 P (Done P fn (fun _ w => R2 w)) a w) : y.wpSIn Fence.wide 0 P (bodyPostS P fn c₀ cs RS) a (cf :: cs) w := by
  subst hcf
  refine wpS_rest (wpIn_mono h (fun e a w hd => ?_))
  cases e with
  | normal => obtain ⟨h1, v, h2, v', h3, h4⟩ := hd; exact ⟨h1, u, rfl, v, h2, hr _ _ h4⟩
  | ret => obtain ⟨h1, v, h2, v', h3, h4⟩ := hd; exact ⟨h1, u, rfl, v, h2, hr _ _ h4⟩
  | panic ch => obtain ⟨-, v', h3, -⟩ := hd; cases h3
  | exit id => exact hd.elim
  | goto id => exact hd.elim
  | outgrown => obtain ⟨v', h3, -⟩ := hd; cases h3
end
end

section
variable {P : Program} {Q : Exit → Act → World → Prop} {a : Act} {w w' : World} {n : Nat} {l : List (Nat × Value)} {df : List Deferred} {rr : Option Nat} {ops : Array Oper} {K : Act → World → Prop}
  {d : Nat} {dst : Option Nat} {ty : TypeId} {pos : String} {af : Array Edge} {g : Option (Nat × Bool)}
abbrev Any (rr : Option Nat) (P : Program) (ops : Array Oper) (Q : Exit → Act → World → Prop) (k : Nat) (listed : Array Bool) (a : Act) (w : World) : Prop := wpAnyIn (FR rr) 0 P .any ops Q k listed a w
theorem an_end {k : Nat} {listed : Array Bool} (hr : Region.ready .any ops listed = []) (h : Q .normal a w) : Any rr P ops Q k listed a w := by
  cases k with
  | zero => exact ⟨hr, h⟩
  | succ k => exact ⟨fun _ => h, fun i hi => by rw [hr] at hi; cases hi⟩
theorem an_step {k : Nat} {listed : Array Bool} {i : Nat} {rs : List Nat} (hr : Region.ready .any ops listed = i :: rs)
    (h : ∀ j ∈ i :: rs, wpOpIn (FR rr) 0 P ops Q j (Any rr P ops Q k (listed.setIfInBounds j true)) a w) : Any rr P ops Q (k + 1) listed a w :=
  ⟨fun e => (by rw [hr] at e; cases e), fun j hj => h j (by rw [← hr]; exact hj)⟩
theorem an_op {o : Op} {i : Nat} (ho : ops[i]? = some ⟨some d, o, ty, pos, af, none⟩) (hk : Kn df n a l) (h : Gives P ⟨some d, o, ty, pos, af, none⟩ a w (fun v w' => ∀ a', Kn df n a' ((d, v) :: l) → K a' w')) (hd : Nat.blt d n = true := by rfl) :
    wpOpIn (FR rr) 0 P ops Q i K a w := by
  unfold wpOpIn
  simp only [ho]
  rw [if_pos (wanted_none rfl _)]
  exact h.wp (fun v w' hv => hv _ (hk.put (d := some d) hd v))
theorem an_opu {o : Op} {i : Nat} (ho : ops[i]? = some ⟨none, o, ty, pos, af, none⟩) (hk : Kn df n a l) (h : Gives P ⟨none, o, ty, pos, af, none⟩ a w (fun _ w' => ∀ a', Kn df n a' l → K a' w')) :
    wpOpIn (FR rr) 0 P ops Q i K a w := by
  unfold wpOpIn
  simp only [ho]
  rw [if_pos (wanted_none rfl _)]
  exact h.wp (fun v w' hv => hv _ hk)
theorem an_opP {o : Op} {i : Nat} (ho : ops[i]? = some ⟨some d, o, ty, pos, af, none⟩) (hk : Kn df n a l)
    (h : GivesP P ⟨some d, o, ty, pos, af, none⟩ a w (fun v w' => ∀ a', Kn df n a' ((d, v) :: l) → K a' w') (fun ch w' => Q (.panic ch) a w')) (hd : Nat.blt d n = true := by rfl) :
    wpOpIn (FR rr) 0 P ops Q i K a w := by
  unfold wpOpIn
  simp only [ho]
  rw [if_pos (wanted_none rfl _)]
  exact h.wp (fun v w' hv => hv _ (hk.put (d := some d) hd v)) (fun ch w' hv => hv)
end
end Go.Proofs.YtipdgobplfkipaaDoor
namespace Go.Proofs.YtipdgobplfkipaaDoor
open Go.RowKit

theorem Sep.split {w : World} : ∀ {L1 L2 : List HP} {F : Nat → Prop}, Sep (L1 ++ L2) F w → ∃ F1 F2 : Nat → Prop, (∀ b, F1 b → F b) ∧ (∀ b, F2 b → F b) ∧ (∀ b, F1 b → F2 b → False) ∧ Sep L1 F1 w ∧ Sep L2 F2 w
  | [], _, F, h => ⟨fun _ => False, F, fun _ h => h.elim, fun _ h => h, fun _ h _ => h, trivial, h⟩
  | A :: L1, L2, F, ⟨G1, G2, h1, h2, h3, h4, h5⟩ => by
    obtain ⟨F1, F2, k1, k2, k3, k4, k5⟩ := Sep.split (L1 := L1) h5
    exact ⟨fun b => G1 b ∨ F1 b, F2, fun b h => h.elim (h1 b) (fun h => h2 b (k1 b h)), fun b h => h2 b (k2 b h), fun b h1 hF => h1.elim (fun hG => h3 b hG (k2 b hF)) (fun hG => k3 b hG hF),
      ⟨G1, F1, fun b h => .inl h, fun b h => .inr h, fun b hG hF => h3 b hG (k1 b hF), h4, k4⟩, k5⟩

def bagH {α : Type} (A : α → List HP) (p : α → Prop) : HP where
  holds F w := (∀ b, F b → b < w.heap.size) ∧ ∃ x, p x ∧ Sep (A x) F w
  stable F w w' h hF := by
    obtain ⟨h1, x, hp, hs⟩ := h
    refine ⟨fun b hb => ?_, x, hp, hs.stable hF⟩
    have h2 := hF b hb
    rcases Nat.lt_or_ge b w'.heap.size with h | h
    · exact h
    · rw [Array.getElem?_eq_none h, Array.getElem?_eq_getElem (h1 b hb)] at h2; cases h2
  dom F w b h hb := h.1 b hb

theorem bagH.of {α : Type} {A : α → List HP} {p : α → Prop} {B : Bs} {w : World} {L : List HP} {x : α} (h : St B (A x ++ L) w) (hp : p x) : St B (bagH A p :: L) w := by
  obtain ⟨F, hF, hs⟩ := h.own
  obtain ⟨F1, F2, h1, h2, h3, h4, h5⟩ := hs.split
  exact ⟨h.below, h.frz, F, hF, F1, F2, h1, h2, h3, ⟨fun b hb => (hF b (h1 b hb)).2, x, hp, h4⟩, h5⟩

theorem St.bag {α : Type} {A : α → List HP} {p : α → Prop} {B : Bs} {w : World} {L L' : List HP} (h : St B L w) (hat : At (bagH A p) L L') : ∃ x, p x ∧ St B (A x ++ L') w := by
  obtain ⟨F, hF, hs⟩ := h.own
  obtain ⟨F1, F2, h1, h2, h3, ⟨_, x, hp, h4⟩, h5⟩ := hs.pull hat
  exact ⟨x, hp, h.below, h.frz, F, hF, (h4.append h5 h3).mono (fun b hb => hb.elim (h1 b) (h2 b))⟩

noncomputable def only (F : Nat → Prop) (w : World) : World :=
  { w with heap := w.heap.mapIdx fun i o => @ite _ (F i) (Classical.propDecidable _) o dead }

theorem only_in {F : Nat → Prop} {w : World} {b : Nat} (h : F b) : (only F w).heap[b]? = w.heap[b]? := by
  classical
  simp only [only, Array.getElem?_mapIdx]
  cases hw : w.heap[b]? with
  | none => rfl
  | some o => simp [h]
theorem only_live {F : Nat → Prop} {w : World} {b : Nat} (h : live (only F w) b) : F b := by
  classical
  obtain ⟨o, h1, h2⟩ := h
  simp only [only, Array.getElem?_mapIdx] at h1
  cases hw : w.heap[b]? with
  | none => rw [hw] at h1; cases h1
  | some o' =>
    rw [hw] at h1
    simp only [Option.map_some, Option.some.injEq] at h1
    by_cases hf : F b
    · exact hf
    · rw [if_neg hf] at h1; exact absurd h1.symm h2
theorem only_frz (F : Nat → Prop) (w : World) : Frz (only F w) w := fun b o h1 h2 => by
  have hf := only_live ⟨o, h1, h2⟩
  rw [only_in hf] at h1
  exact h1

def rdH (R : World → Prop) : HP where
  holds F w := (∀ b, F b → b < w.heap.size) ∧ ∃ g : World, (∀ b, live g b → F b) ∧ Frz g w ∧ R g
  stable F w w' h hF := by
    obtain ⟨h1, g, hl, hz, hr⟩ := h
    refine ⟨fun b hb => ?_, g, hl, fun b o ho hd => ?_, hr⟩
    · have h2 := hF b hb
      rcases Nat.lt_or_ge b w'.heap.size with h | h
      · exact h
      · rw [Array.getElem?_eq_none h, Array.getElem?_eq_getElem (h1 b hb)] at h2; cases h2
    · rw [hF b (hl b ⟨o, ho, hd⟩)]; exact hz b o ho hd
  dom F w b h hb := h.1 b hb

def Stays (R : World → Prop) : Prop := ∀ g w, Frz g w → R g → R w

theorem rdH.rd {R : World → Prop} (hm : Stays R) {w : World} (h : (rdH R).rd w) : R w :=
  let ⟨_, _, g, _, hz, hr⟩ := h
  hm g w hz hr

theorem Sep.all {w : World} : ∀ {L : List HP} {F : Nat → Prop}, Sep L F w → ∀ A ∈ L, ∃ F', (∀ b, F' b → F b) ∧ A.holds F' w
  | A :: L, F, ⟨F1, F2, h1, h2, _, h4, h5⟩, B, hB => by
    rcases List.mem_cons.1 hB with rfl | hB
    · exact ⟨F1, h1, h4⟩
    · obtain ⟨F', k1, k2⟩ := Sep.all h5 B hB
      exact ⟨F', fun b hb => h2 b (k1 b hb), k2⟩

theorem rdH.of {R : World → Prop} {B : Bs} {w : World} {L1 L : List HP} (h : St B (L1 ++ L) w) (hr : ∀ g, (∀ A ∈ L1, A.rd g) → R g) : St B (rdH R :: L) w := by
  obtain ⟨F, hF, hs⟩ := h.own
  obtain ⟨F1, F2, h1, h2, h3, h4, h5⟩ := hs.split
  refine ⟨h.below, h.frz, F, hF, F1, F2, h1, h2, h3, ⟨fun b hb => (hF b (h1 b hb)).2, only F1 w, fun b => only_live, only_frz F1 w, hr _ fun A hA => ?_⟩, h5⟩
  obtain ⟨F', k1, k2⟩ := h4.all A hA
  exact ⟨F', A.stable _ _ _ k2 fun b hb => only_in (k1 b hb)⟩
end Go.Proofs.YtipdgobplfkipaaDoor
namespace Go.Proofs.YtipdgobplfkipaaDoor
open Go.RowKit

abbrev Opt := Int × Int × Int × Int × Bool × Bool
inductive Tree where
  | mk (k : Int) (tag key text : ByteArray) (cl : List ByteArray) (at_ : List (ByteArray × ByteArray)) (st : List (ByteArray × Int)) (o : Opt) (kids : List Tree)

abbrev NdH := Int × ByteArray × ByteArray × ByteArray × Hd × Hd × Hd × Opt × Hd
abbrev ndV (h : NdH) : Value := .agg (Enc.f h).toArray

inductive TrR (w : World) : Tree → NdH → Prop
  | mk {k : Int} {tag key text : ByteArray} {cl : List ByteArray} {at_ : List (ByteArray × ByteArray)} {st : List (ByteArray × Int)} {o : Opt} {kids : List Tree} {hc ha hs hk : Hd} {H : List NdH}
    (h1 : SlT cl hc.v w) (h2 : SlT at_ ha.v w) (h3 : SlT st hs.v w) (h4 : SlT H hk.v w) (hl : H.length = kids.length)
    (hr : ∀ (i : Nat) (t : Tree) (h : NdH), kids[i]? = some t → H[i]? = some h → TrR w t h) : TrR w (.mk k tag key text cl at_ st o kids) (k, tag, key, text, hc, ha, hs, o, hk)

theorem TrR.frz {w w' : World} {t : Tree} {h : NdH} (hr : TrR w t h) (hf : Frz w w') : TrR w' t h := by
  induction hr with
  | mk h1 h2 h3 h4 hl _ ih => exact .mk (h1.frz hf) (h2.frz hf) (h3.frz hf) (h4.frz hf) hl ih
theorem TrR.stays (t : Tree) (h : NdH) : Stays (fun w => TrR w t h) := fun _ _ hf hr => hr.frz hf

def FoR (w : World) (ts : List Tree) (H : List NdH) : Prop := H.length = ts.length ∧ ∀ (i : Nat) (t : Tree) (h : NdH), ts[i]? = some t → H[i]? = some h → TrR w t h
theorem FoR.frz {w w' : World} {ts : List Tree} {H : List NdH} (hr : FoR w ts H) (hf : Frz w w') : FoR w' ts H := ⟨hr.1, fun i t h h1 h2 => (hr.2 i t h h1 h2).frz hf⟩
theorem FoR.stays (ts : List Tree) (H : List NdH) : Stays (fun w => FoR w ts H) := fun _ _ hf hr => hr.frz hf
theorem FoR.nil (w : World) : FoR w [] [] := ⟨rfl, fun i t h h1 _ => by simp at h1⟩
theorem FoR.snoc {w : World} {ts : List Tree} {H : List NdH} {t : Tree} {h : NdH} (hF : FoR w ts H) (hT : TrR w t h) : FoR w (ts ++ [t]) (H ++ [h]) := by
  refine ⟨by simp [hF.1], fun i t' h' h1 h2 => ?_⟩
  rcases Nat.lt_or_ge i ts.length with hi | hi
  · rw [List.getElem?_append_left hi] at h1
    rw [List.getElem?_append_left (by rw [hF.1]; exact hi)] at h2
    exact hF.2 i t' h' h1 h2
  · rw [List.getElem?_append_right hi] at h1
    rw [List.getElem?_append_right (by rw [hF.1]; exact hi), hF.1] at h2
    cases hj : i - ts.length with
    | zero =>
      rw [hj] at h1 h2
      simp at h1 h2
      subst h1 h2
      exact hT
    | succ j => rw [hj] at h1; simp at h1

def appH {α : Type} [Enc α] (E : TypeId) (ys : List α) : Value → HP := match ys with
  | [] => emp0
  | y :: r => OwT E (y :: r)
section
variable {df : List Deferred} {P : Program} {a : Act} {w : World} {n : Nat} {l : List (Nat × Value)} {dst : Option Nat} {ty : TypeId} {pos : String} {af : Array Edge} {g : Option (Nat × Bool)} {α : Type} [Enc α]
end

abbrev treeR (t : Tree) (h : NdH) : HP := rdH (fun w => TrR w t h)
abbrev forR (ts : List Tree) (H : List NdH) : HP := rdH (fun w => FoR w ts H)
def treeH (t : Tree) (v : Value) : HP := bagH (fun h : NdH => [treeR t h]) (fun h => v = ndV h)

section
variable {B : Bs} {w : World} {L L' : List HP}
theorem treeR.of {k : Int} {tag key text : ByteArray} {cl : List ByteArray} {at_ : List (ByteArray × ByteArray)} {st : List (ByteArray × Int)} {o : Opt} {kids : List Tree} {hc ha hs hk : Hd} {H : List NdH} {A1 A2 A3 A4 : HP}
    (h : St B (A1 :: A2 :: A3 :: A4 :: forR kids H :: L) w) (h1 : ∀ g, A1.rd g → SlT cl hc.v g := by exact fun g h => by first | exact OwT.rd h | exact appH.rd h) (h2 : ∀ g, A2.rd g → SlT at_ ha.v g := by exact fun g h => OwT.rd h)
    (h3 : ∀ g, A3.rd g → SlT st hs.v g := by exact fun g h => OwT.rd h) (h4 : ∀ g, A4.rd g → SlT H hk.v g := by exact fun g h => OwT.rd h) : St B (treeR (.mk k tag key text cl at_ st o kids) (k, tag, key, text, hc, ha, hs, o, hk) :: L) w := by
  refine rdH.of (L1 := [A1, A2, A3, A4, forR kids H]) h fun g hg => ?_
  have hF : FoR g kids H := rdH.rd (FoR.stays kids H) (hg _ (by simp))
  exact .mk (h1 g (hg A1 (by simp))) (h2 g (hg A2 (by simp))) (h3 g (hg A3 (by simp))) (h4 g (hg A4 (by simp))) hF.1 hF.2
theorem treeH.of {t : Tree} {h : NdH} (hS : St B (treeR t h :: L) w) : St B (treeH t (ndV h) :: L) w := bagH.of (A := fun h : NdH => [treeR t h]) (x := h) hS rfl
theorem St.tree {t : Tree} {v : Value} (hS : St B L w) (hat : At (treeH t v) L L') : ∃ h, v = ndV h ∧ St B (treeR t h :: L') w := St.bag hS hat
theorem St.trR {t : Tree} {h : NdH} (hS : St B L w) (hat : At (treeR t h) L L') : TrR w t h := rdH.rd (TrR.stays t h) (hS.rd hat)
theorem St.foR {ts : List Tree} {H : List NdH} (hS : St B L w) (hat : At (forR ts H) L L') : FoR w ts H := rdH.rd (FoR.stays ts H) (hS.rd hat)
theorem forR.nil (hS : St B L w) : St B (forR [] [] :: L) w := rdH.of (L1 := []) hS fun g _ => FoR.nil g
theorem forR.snoc {ts : List Tree} {H : List NdH} {t : Tree} {h : NdH} (hS : St B (treeR t h :: forR ts H :: L) w) : St B (forR (ts ++ [t]) (H ++ [h]) :: L) w :=
  rdH.of (L1 := [treeR t h, forR ts H]) hS fun g hg => (rdH.rd (FoR.stays ts H) (hg _ (by simp))).snoc (rdH.rd (TrR.stays t h) (hg _ (by simp)))
abbrev forR2 (ts us : List Tree) (H K : List NdH) : HP := rdH (fun w => FoR w ts H ∧ FoR w us K)
theorem St.rdTr {t : Tree} {h : NdH} (hS : St B L w) (hr : TrR B.g t h) : TrR w t h := hr.frz hS.frz
end

instance : Inhabited Hd := ⟨⟨none, 0, 0⟩⟩
open Classical in
noncomputable def ndOf (v : Value) : NdH := if h : ∃ x, v = ndV x then Classical.choose h else default
theorem hdv_inj {a b : Hd} (h : a.v = b.v) : a = b := by
  cases a; cases b
  simp only [Hd.v, Value.slice.injEq] at h
  obtain ⟨rfl, rfl, rfl⟩ := h
  rfl
theorem SlT.hd {α : Type} [Enc α] {xs : List α} {h : Hd} {w : World} (hs : SlT xs h.v w) : ∃ a m, h = ⟨a, xs.length, m⟩ := by
  obtain ⟨a, m, e, _⟩ := hs.shape
  exact ⟨a, m, hdv_inj e⟩
theorem TrR.split {w : World} {t : Tree} {h : NdH} (hr : TrR w t h) : ∃ k tag key text cl al sl e lv m d p q kids a1 m1 a2 m2 a3 m3 a4 m4, ∃ H : List NdH, t = .mk k tag key text cl al sl (e, lv, m, d, p, q) kids ∧
    h = (k, tag, key, text, ⟨a1, cl.length, m1⟩, ⟨a2, al.length, m2⟩, ⟨a3, sl.length, m3⟩, (e, lv, m, d, p, q), ⟨a4, H.length, m4⟩) ∧
    SlT cl (.slice a1 cl.length m1) w ∧ SlT al (.slice a2 al.length m2) w ∧ SlT sl (.slice a3 sl.length m3) w ∧ SlT H (.slice a4 H.length m4) w ∧ FoR w kids H := by
  obtain ⟨c1, c2, c3, c4, hl, hkr⟩ := hr
  rename_i k tag key text cl al sl o kids hc ha hs hk0 H
  obtain ⟨e, lv, m, d, p, q⟩ := o
  obtain ⟨a1, m1, rfl⟩ := c1.hd
  obtain ⟨a2, m2, rfl⟩ := c2.hd
  obtain ⟨a3, m3, rfl⟩ := c3.hd
  obtain ⟨a4, m4, rfl⟩ := c4.hd
  exact ⟨k, tag, key, text, cl, al, sl, e, lv, m, d, p, q, kids, a1, m1, a2, m2, a3, m3, a4, m4, H, rfl, rfl, c1, c2, c3, c4, hl, hkr⟩
def Tree.kids : Tree → List Tree
  | .mk _ _ _ _ _ _ _ _ ks => ks
theorem kid_lt {k : Int} {tag key text : ByteArray} {cl : List ByteArray} {at_ : List (ByteArray × ByteArray)} {st : List (ByteArray × Int)} {o : Opt} {kids : List Tree} {t : Tree} (h : t ∈ kids) : SizeOf.sizeOf t < SizeOf.sizeOf (Tree.mk k tag key text cl at_ st o kids) := by
  have := List.sizeOf_lt_of_mem h
  simp only [Tree.mk.sizeOf_spec]
  omega
inductive Fits : Tree → Prop
  | mk {k : Int} {tag key text : ByteArray} {cl : List ByteArray} {at_ : List (ByteArray × ByteArray)} {st : List (ByteArray × Int)} {o : Opt} {kids : List Tree}
    (h1 : cl.length ≤ 100) (h2 : at_.length ≤ 100) (h3 : st.length ≤ 100) (h4 : kids.length ≤ 1000) (h5 : ∀ t ∈ kids, Fits t) : Fits (.mk k tag key text cl at_ st o kids)
end Go.Proofs.YtipdgobplfkipaaDoor
namespace Go.Proofs.YtipdgobplfkipaaDoor
open Lib (decDigits itoa)

def digB (b : UInt8) : Bool := decide (48 ≤ b.toNat ∧ b.toNat ≤ 57)
def valL (l : List UInt8) : Nat := l.foldl (fun n b => 10 * n + (b.toNat - 48)) 0
theorem val_snoc (l : List UInt8) (b : UInt8) : valL (l ++ [b]) = 10 * valL l + (b.toNat - 48) := by
  unfold valL
  rw [List.foldl_append]; rfl
theorem u8_ext {a c : UInt8} (h : a.toNat = c.toNat) : a = c := UInt8.toNat_inj.1 h
def sgnL (L : List UInt8) : Bool := decide (L.head? = some 45)
def digL (L : List UInt8) : List UInt8 := if sgnL L then L.tail else L
def numL (L : List UInt8) : Int := if sgnL L then -((valL (digL L) : Nat) : Int) else ((valL (digL L) : Nat) : Int)
def badD (L : List UInt8) : Prop := digL L = [] ∨ 10 < (digL L).length ∨ (digL L).all digB = false
def zerD (L : List UInt8) : Prop := (digL L).head? = some 48 ∧ (1 < (digL L).length ∨ sgnL L = true)
def outR (m : Int) : Prop := m < -2147483648 ∨ 2147483647 < m
instance (L : List UInt8) : Decidable (badD L) := by unfold badD; infer_instance
instance (L : List UInt8) : Decidable (zerD L) := by unfold zerD; infer_instance
instance (m : Int) : Decidable (outR m) := by unfold outR; infer_instance
def numP (L : List UInt8) : Int × Bool := if badD L ∨ zerD L ∨ outR (numL L) then (0, false) else (numL L, true)
end Go.Proofs.YtipdgobplfkipaaDoor
namespace Go.Proofs.YtipdgobplfkipaaDoor
open Go.RowKit
set_option maxRecDepth 100000
attribute [local irreducible] Go.Code.wpIn Go.wpListIn Go.Calls Gives Go.Exit.then Go.Exit.inBlock Done ObxE

def letB (b : UInt8) : Bool := decide (97 ≤ b.toNat ∧ b.toNat ≤ 122)
def plaB (b : UInt8) : Bool := decide ((97 ≤ b.toNat ∧ b.toNat ≤ 122) ∨ (48 ≤ b.toNat ∧ b.toNat ≤ 57) ∨ b.toNat = 45)
def visB (b : UInt8) : Bool := decide (32 < b.toNat ∧ b.toNat ≤ 126 ∧ b.toNat ≠ 39 ∧ b.toNat ≠ 40 ∧ b.toNat ≠ 41)
def priB (b : UInt8) : Bool := decide (32 ≤ b.toNat ∧ b.toNat ≤ 126 ∧ b.toNat ≠ 39)
theorem byte_at {s : ByteArray} {i : Nat} (h : i < s.size) : s.data.toList[i]? = some s[i] := by
  rw [List.getElem?_eq_getElem (by simpa using h)]
  congr 1
theorem all_take {s : ByteArray} {i : Nat} (h : i < s.size) (p : UInt8 → Bool) : (s.data.toList.take (i + 1)).all p = ((s.data.toList.take i).all p && p s[i]) := by
  rw [List.take_add_one, byte_at h, List.all_append]
  simp
theorem all_no {s : ByteArray} {i : Nat} (h : i < s.size) {p : UInt8 → Bool} (hp : p s[i] = false) : s.data.toList.all p = false := by
  have hs : s.data.toList = s.data.toList.take (i + 1) ++ s.data.toList.drop (i + 1) := (List.take_append_drop _ _).symm
  rw [hs, List.all_append, all_take h, hp]
  simp
theorem all_full (s : ByteArray) : s.data.toList.take s.size = s.data.toList := List.take_of_length_le (by simp)
theorem emp_iff {s : ByteArray} : s = ⟨#[]⟩ ↔ s.size = 0 := by
  constructor
  · rintro rfl; rfl
  · intro h
    cases s with
    | mk d => congr 1; exact Array.eq_empty_of_size_eq_zero h
def keyS (s : ByteArray) : Bool := decide (1 ≤ s.size ∧ s.size ≤ 16) && s.data.toList.all plaB
def nameS (s : ByteArray) : Bool := keyS s && (match s.data.toList with | [] => false | a :: _ => letB a)
def valS (s : ByteArray) : Bool := decide (s.size ≤ 32) && s.data.toList.all visB
def txtS (s : ByteArray) : Bool := decide (s.size ≤ 64) && s.data.toList.all priB
def rsvS (s : ByteArray) : Bool := decide (2 ≤ s.size ∧ s.extract 0 2 = ⟨#[116, 45]⟩)
def chkS (s : ByteArray) : Int := if nameS s then (if rsvS s then 6 else 0) else 2
theorem head_at {s : ByteArray} (h : 0 < s.size) : (match s.data.toList with | [] => false | a :: _ => letB a) = letB s[0] := by
  have := byte_at h
  cases hl : s.data.toList with
  | nil => rw [hl] at this; cases this
  | cons a r => rw [hl] at this; simp only [List.getElem?_cons_zero, Option.some.injEq] at this; rw [this]

end Go.Proofs.YtipdgobplfkipaaDoor
namespace Go.Proofs.YtipdgobplfkipaaDoor

def scanN (p : UInt8 → Bool) (s : ByteArray) : Nat → Nat → Nat
  | 0, i => i
  | n + 1, i => if h : i < s.size then (if p s[i] = true then scanN p s n (i + 1) else i) else i
def scan (p : UInt8 → Bool) (s : ByteArray) (i : Nat) : Nat := scanN p s (s.size - i) i
theorem scan_yes {p : UInt8 → Bool} {s : ByteArray} {i : Nat} (h : i < s.size) (hp : p s[i] = true) : scan p s i = scan p s (i + 1) := by
  unfold scan
  rw [show s.size - i = (s.size - (i + 1)) + 1 by omega, scanN, dif_pos h, if_pos hp]
theorem scan_no {p : UInt8 → Bool} {s : ByteArray} {i : Nat} (h : i < s.size) (hp : ¬ p s[i] = true) : scan p s i = i := by
  unfold scan
  rw [show s.size - i = (s.size - (i + 1)) + 1 by omega, scanN, dif_pos h, if_neg hp]
theorem scan_end {p : UInt8 → Bool} {s : ByteArray} {i : Nat} (h : ¬ i < s.size) : scan p s i = i := by
  unfold scan
  rw [show s.size - i = 0 by omega, scanN]
theorem scan_ge (p : UInt8 → Bool) (s : ByteArray) : ∀ (n i : Nat), s.size - i ≤ n → i ≤ scan p s i
  | 0, i, hn => by rw [scan_end (by omega)]; exact Nat.le_refl _
  | n + 1, i, hn => by
    by_cases h : i < s.size
    · by_cases hp : p s[i] = true
      · rw [scan_yes h hp]; exact Nat.le_trans (Nat.le_succ i) (scan_ge p s n (i + 1) (by omega))
      · rw [scan_no h hp]; exact Nat.le_refl _
    · rw [scan_end h]; exact Nat.le_refl _
theorem scan_le (p : UInt8 → Bool) (s : ByteArray) : ∀ (n i : Nat), s.size - i ≤ n → i ≤ s.size → scan p s i ≤ s.size
  | 0, i, hn, hi => by rw [scan_end (by omega)]; exact hi
  | n + 1, i, hn, hi => by
    by_cases h : i < s.size
    · by_cases hp : p s[i] = true
      · rw [scan_yes h hp]; exact scan_le p s n (i + 1) (by omega) (by omega)
      · rw [scan_no h hp]; exact hi
    · rw [scan_end h]; exact hi
theorem scan_stop (p : UInt8 → Bool) (s : ByteArray) : ∀ (n i : Nat), s.size - i ≤ n → (h : scan p s i < s.size) → ¬ p s[scan p s i] = true
  | 0, i, hn, h => by
    have e := scan_end (p := p) (s := s) (i := i) (by omega)
    rw [e] at h
    omega
  | n + 1, i, hn, h => by
    by_cases hi : i < s.size
    · by_cases hp : p s[i] = true
      · have e := scan_yes hi hp
        have := scan_stop p s n (i + 1) (by omega) (by rw [← e]; exact h)
        simp only [e]
        exact this
      · simp only [scan_no hi hp]
        exact hp
    · rw [scan_end hi] at h
      exact absurd h hi

def blkB (b : UInt8) : Bool := decide (b.toNat = 32)
def nqB (b : UInt8) : Bool := !decide (b.toNat = 39)
structure Tok where
  kind : Nat
  at_ : Nat
  txt : ByteArray
  till : Nat
deriving DecidableEq
def priL (b : UInt8) : Bool := decide (32 ≤ b.toNat ∧ b.toNat ≤ 126)
def tokF (s : ByteArray) (i : Nat) : Tok :=
  let j := scan blkB s i
  if h : j < s.size then
    if s[j].toNat = 40 then ⟨1, j, ⟨#[]⟩, j + 1⟩
    else if s[j].toNat = 41 then ⟨2, j, ⟨#[]⟩, j + 1⟩
    else if s[j].toNat = 39 then
      let e := scan nqB s (j + 1)
      if e < s.size ∧ (s.extract (j + 1) e).data.toList.all priL = true then ⟨3, j, s.extract (j + 1) e, e + 1⟩ else ⟨5, j, ⟨#[]⟩, j⟩
    else if visB s[j] = true then ⟨4, j, s.extract j (scan visB s j), scan visB s j⟩
    else ⟨5, j, ⟨#[]⟩, j⟩
  else ⟨0, s.size, ⟨#[]⟩, s.size⟩

structure Itm where
  k : Int
  tag : ByteArray
  key : ByteArray
  cl : List ByteArray
  al : List (ByteArray × ByteArray)
  sl : List (ByteArray × Int)
  o : Opt
def cutE (w : ByteArray) : Option (ByteArray × ByteArray) :=
  let j := scan (fun b => !decide (b.toNat = 61)) w 0
  if j < w.size then some (w.extract 0 j, w.extract (j + 1) w.size) else none
def nmE (w : ByteArray) : ByteArray := match cutE w with
  | some (a, _) => a
  | none => w
def whatF (w : ByteArray) : Option ByteArray :=
  match w.data.toList with
  | 46 :: _ => none
  | 35 :: _ => some ⟨#[35]⟩
  | 64 :: _ => some (nmE w)
  | 33 :: _ => if w = ⟨#[33, 103, 114, 111, 117, 112]⟩ ∨ w = ⟨#[33, 115, 108, 111, 116]⟩ then some ⟨#[33, 107, 105, 110, 100]⟩
      else if w = ⟨#[33, 111, 117, 116, 45, 105, 110]⟩ ∨ w = ⟨#[33, 105, 110, 45, 111, 117, 116]⟩ then some ⟨#[33, 109, 111, 100, 101]⟩ else some (nmE w)
  | _ => some (⟨#[61]⟩ ++ nmE w)
def wGroup : ByteArray := ⟨#[33, 103, 114, 111, 117, 112]⟩
def wSlot : ByteArray := ⟨#[33, 115, 108, 111, 116]⟩
def wOutIn : ByteArray := ⟨#[33, 111, 117, 116, 45, 105, 110]⟩
def wInOut : ByteArray := ⟨#[33, 105, 110, 45, 111, 117, 116]⟩
def wAppear : ByteArray := ⟨#[33, 97, 112, 112, 101, 97, 114]⟩
def wMoves : ByteArray := ⟨#[33, 109, 111, 118, 101, 115]⟩
def wEnter : ByteArray := ⟨#[33, 101, 110, 116, 101, 114]⟩
def wLeave : ByteArray := ⟨#[33, 108, 101, 97, 118, 101]⟩
def wMove : ByteArray := ⟨#[33, 109, 111, 118, 101]⟩
def addF (n : Itm) (w : ByteArray) : Option Itm :=
  match w.data.toList with
  | [] => none
  | c :: _ =>
    let rest := w.extract 1 w.size
    if c.toNat = 35 then (if keyS rest = true then some { n with key := rest } else none)
    else if c.toNat = 46 then (if nameS rest = true then some { n with cl := n.cl ++ [rest] } else none)
    else if c.toNat = 64 then (match cutE rest with
      | some (a, v) => if nameS a = true ∧ valS v = true then some { n with al := n.al ++ [(a, v)] } else none
      | none => none)
    else if c.toNat = 33 then
      if w = wGroup then some { n with k := 3 }
      else if w = wSlot then some { n with k := 4 }
      else if w = wOutIn then some { n with o := (n.o.1, n.o.2.1, n.o.2.2.1, 1, n.o.2.2.2.2.1, n.o.2.2.2.2.2) }
      else if w = wInOut then some { n with o := (n.o.1, n.o.2.1, n.o.2.2.1, 2, n.o.2.2.2.2.1, n.o.2.2.2.2.2) }
      else if w = wAppear then some { n with o := (n.o.1, n.o.2.1, n.o.2.2.1, n.o.2.2.2.1, true, n.o.2.2.2.2.2) }
      else if w = wMoves then some { n with o := (n.o.1, n.o.2.1, n.o.2.2.1, n.o.2.2.2.1, n.o.2.2.2.2.1, true) }
      else (match cutE w with
        | some (a, v) => if (numP v.data.toList).2 = true then
            (if a = wEnter then some { n with o := ((numP v.data.toList).1, n.o.2.1, n.o.2.2.1, n.o.2.2.2.1, n.o.2.2.2.2.1, n.o.2.2.2.2.2) }
             else if a = wLeave then some { n with o := (n.o.1, (numP v.data.toList).1, n.o.2.2.1, n.o.2.2.2.1, n.o.2.2.2.2.1, n.o.2.2.2.2.2) }
             else if a = wMove then some { n with o := (n.o.1, n.o.2.1, (numP v.data.toList).1, n.o.2.2.2.1, n.o.2.2.2.2.1, n.o.2.2.2.2.2) }
             else none) else none
        | none => none)
    else (match cutE w with
      | some (a, v) => if nameS a = true ∧ (numP v.data.toList).2 = true then some { n with sl := n.sl ++ [(a, (numP v.data.toList).1)] } else none
      | none => none)
def itemF (n : Itm) (w : ByteArray) (seen : List ByteArray) : Option (Itm × List ByteArray) :=
  match addF n w with
  | none => none
  | some m => match whatF w with
    | none => some (m, seen)
    | some x => if seen.any (fun y => decide (y = x)) = true then none else some (m, seen ++ [x])
def Itm.tree (n : Itm) (kids : List Tree) : Tree := .mk n.k n.tag n.key ⟨#[]⟩ n.cl n.al n.sl n.o kids
abbrev o0 : Opt := (0, 0, 0, 0, false, false)
inductive Rd (α : Type) where
  | ok (x : α) (at_ : Nat)
  | no (at_ : Nat) (e : Int)
mutual
def viewF (s : ByteArray) : Nat → Nat → Nat → Rd Tree
  | 0, i, _ => .no i 0
  | f + 1, i, op =>
    let t := tokF s i
    if t.kind = 3 then .ok (.mk 1 ⟨#[]⟩ ⟨#[]⟩ t.txt [] [] [] o0 []) t.till
    else if t.kind = 1 then
      if 40 ≤ op then .no t.at_ 7
      else
        let g := tokF s t.till
        if g.kind = 4 ∧ nameS g.txt = true then elemF s f g.till (op + 1) ⟨2, g.txt, ⟨#[]⟩, [], [], [], o0⟩ [] []
        else .no g.at_ 2
    else .no t.at_ 2
def elemF (s : ByteArray) : Nat → Nat → Nat → Itm → List ByteArray → List Tree → Rd Tree
  | 0, i, _, _, _, _ => .no i 0
  | f + 1, i, op, n, seen, kids =>
    let t := tokF s i
    if t.kind = 2 then .ok (n.tree kids) t.till
    else if t.kind = 4 then
      match itemF n t.txt seen with
      | some (m, more) => elemF s f t.till op m more kids
      | none => .no t.at_ 2
    else
      match viewF s f i op with
      | .ok k j => elemF s f j op n seen (kids ++ [k])
      | .no a e => .no a e
end
def parseF (s : ByteArray) : Rd Tree :=
  if 20000 < s.size then .no 0 3
  else match viewF s (2 * s.size + 2) 0 0 with
    | .ok n j => if (tokF s j).kind = 0 then .ok n 0 else .no (tokF s j).at_ 2
    | .no a e => .no a e
end Go.Proofs.YtipdgobplfkipaaDoor
namespace Go.Proofs.YtipdgobplfkipaaDoor

theorem tok_at (s : ByteArray) (i : Nat) : (tokF s i).kind ≠ 0 → scan blkB s i < s.size := by
  unfold tokF
  simp only
  split
  · intro _; assumption
  · intro h; exact absurd rfl h
theorem tok_till {s : ByteArray} {i : Nat} (h0 : (tokF s i).kind ≠ 0) (h5 : (tokF s i).kind ≠ 5) : i < (tokF s i).till ∧ (tokF s i).till ≤ s.size := by
  have hj := tok_at s i h0
  have hij := scan_ge blkB s _ i (Nat.le_refl _)
  by_cases n1 : s[scan blkB s i].toNat = 40
  · have e : tokF s i = ⟨1, scan blkB s i, ⟨#[]⟩, scan blkB s i + 1⟩ := by unfold tokF; simp only [hj, dif_pos]; rw [if_pos n1]
    rw [e]; exact ⟨by show i < _ + 1; omega, by show _ + 1 ≤ _; omega⟩
  · by_cases n2 : s[scan blkB s i].toNat = 41
    · have e : tokF s i = ⟨2, scan blkB s i, ⟨#[]⟩, scan blkB s i + 1⟩ := by unfold tokF; simp only [hj, dif_pos]; rw [if_neg n1, if_pos n2]
      rw [e]; exact ⟨by show i < _ + 1; omega, by show _ + 1 ≤ _; omega⟩
    · by_cases n3 : s[scan blkB s i].toNat = 39
      · by_cases n4 : scan nqB s (scan blkB s i + 1) < s.size ∧ (s.extract (scan blkB s i + 1) (scan nqB s (scan blkB s i + 1))).data.toList.all priL = true
        · have e : tokF s i = ⟨3, scan blkB s i, s.extract (scan blkB s i + 1) (scan nqB s (scan blkB s i + 1)), scan nqB s (scan blkB s i + 1) + 1⟩ := by unfold tokF; simp only [hj, dif_pos]; rw [if_neg n1, if_neg n2, if_pos n3, if_pos n4]
          have := scan_ge nqB s _ (scan blkB s i + 1) (Nat.le_refl _)
          rw [e]; exact ⟨by show i < _ + 1; omega, by show _ + 1 ≤ _; omega⟩
        · have e : tokF s i = ⟨5, scan blkB s i, ⟨#[]⟩, scan blkB s i⟩ := by unfold tokF; simp only [hj, dif_pos]; rw [if_neg n1, if_neg n2, if_pos n3, if_neg n4]
          rw [e] at h5; exact absurd rfl h5
      · by_cases n4 : visB s[scan blkB s i] = true
        · have e : tokF s i = ⟨4, scan blkB s i, s.extract (scan blkB s i) (scan visB s (scan blkB s i)), scan visB s (scan blkB s i)⟩ := by unfold tokF; simp only [hj, dif_pos]; rw [if_neg n1, if_neg n2, if_neg n3, if_pos n4]
          have e1 := scan_yes hj n4
          have h1 := scan_ge visB s _ (scan blkB s i + 1) (Nat.le_refl _)
          have h2 := scan_le visB s _ (scan blkB s i) (Nat.le_refl _) (by omega)
          rw [e]; exact ⟨by show i < scan visB s (scan blkB s i); omega, h2⟩
        · have e : tokF s i = ⟨5, scan blkB s i, ⟨#[]⟩, scan blkB s i⟩ := by unfold tokF; simp only [hj, dif_pos]; rw [if_neg n1, if_neg n2, if_neg n3, if_neg n4]
          rw [e] at h5; exact absurd rfl h5
def toksL (s : ByteArray) (i : Nat) : List Tok :=
  if _h : (tokF s i).kind = 0 ∨ (tokF s i).kind = 5 then [tokF s i] else tokF s i :: toksL s (tokF s i).till
termination_by s.size - i
decreasing_by
  have := tok_till (s := s) (i := i) (fun e => _h (.inl e)) (fun e => _h (.inr e))
  omega
def TokAt (l : List Tok) (j : Nat) (s : ByteArray) (p : Nat) : Prop := l.drop j = toksL s p
theorem view_pos (s : ByteArray) : ∀ (f : Nat), (∀ (i op : Nat) (t : Tree) (j : Nat), viewF s f i op = .ok t j → i < j ∧ j ≤ s.size) ∧
    (∀ (i op : Nat) (n : Itm) (seen : List ByteArray) (kids : List Tree) (t : Tree) (j : Nat), elemF s f i op n seen kids = .ok t j → i < j ∧ j ≤ s.size)
  | 0 => ⟨fun i op t j h => by simp [viewF] at h, fun i op n seen kids t j h => by simp [elemF] at h⟩
  | f + 1 => by
    obtain ⟨hv, he⟩ := view_pos s f
    refine ⟨fun i op t j h => ?_, fun i op n seen kids t j h => ?_⟩
    · simp only [viewF] at h
      split at h
      · rename_i h3
        obtain ⟨h1, h2⟩ := tok_till (s := s) (i := i) (by omega) (by omega)
        injection h with _ h
        omega
      · split at h
        · rename_i h1
          obtain ⟨k1, k2⟩ := tok_till (s := s) (i := i) (by omega) (by omega)
          split at h
          · cases h
          · split at h
            · rename_i hg
              obtain ⟨g1, g2⟩ := tok_till (s := s) (i := (tokF s i).till) (by omega) (by omega)
              have := he _ _ _ _ _ _ _ h
              omega
            · cases h
        · cases h
    · simp only [elemF] at h
      split at h
      · rename_i h3
        obtain ⟨h1, h2⟩ := tok_till (s := s) (i := i) (by omega) (by omega)
        injection h with _ h
        omega
      · split at h
        · rename_i h4
          obtain ⟨k1, k2⟩ := tok_till (s := s) (i := i) (by omega) (by omega)
          split at h
          · have := he _ _ _ _ _ _ _ h
            omega
          · cases h
        · split at h
          · rename_i k j' hk
            have h1 := hv _ _ _ _ hk
            have h2 := he _ _ _ _ _ _ _ h
            omega
          · cases h
end Go.Proofs.YtipdgobplfkipaaDoor
