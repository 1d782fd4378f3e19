/- Rows of one's own at known places: parts of them, copies into them, room, and whether two lie apart. Rows of one's own: cleared in part. A range over a function: its record, its rounds, what stands behind it. A value that owns several resources at once, of things that are not told. -/
import Derived.Test.YtkcjkbnbblpomaaGreatDoorT10
import Derived.Lib.Overlaps
import Derived.Lib.AppendZerosOnto
import Derived.RangeFuncRecord
import Derived.Lib.SliceRun
import Derived.WalkSpells
set_option linter.all false
namespace Go.Proofs.YtkcjkbnbblpomaaGreatDoor
variable {df : List Deferred}
open Go.RowKit

theorem St.two {B : Bs} {w : World} {L L' L'' : List HP} {b b' : Nat} {vs vs' : List Value} {E E' : TypeId} (h : St B L w) (h1 : At (pts b vs E) L L') (h2 : At (pts b' vs' E') L' L'') : b ≠ b' := by
  obtain ⟨F, _, hS⟩ := h.own
  obtain ⟨F1, F2, _, _, h3, h4, h5⟩ := hS.pull h1
  obtain ⟨G1, G2, g1, _, _, g4, _⟩ := h5.pull h2
  intro e
  subst e
  exact h3 b h4.1 (g1 b g4.1)

section
variable {P : Program} {a : Act} {w w' : World} {w0 : Bs} {n : Nat} {l : List (Nat × Value)} {L L' : List HP}
  {dst : Option Nat} {R : Value → World → Prop} {ty : TypeId} {pos : String} {af : Array Edge} {g : Option (Nat × Bool)}

theorem g_slFc {x y : Operand} {t E k m c b o : Nat} {p : Int} {kk : IntKind} (i : Nat) (hk : Kn df n a l) (h : R (.slice (some ⟨b, o + i * (k + 1), none⟩) (m - i) (c - i)) w)
    (hx : ev l x = some (.slice (some ⟨b, o, none⟩) m c) := by rfl) (hy : ev l y = some (.int kk p) := by rfl) (ht : elOf P t = some E) (hE : szOf P E = some (k + 1)) (hp : p = (i : Int)) (him : i ≤ m) (hc : i < c) :
    Gives P ⟨dst, .slice t x (some y) none none, ty, pos, af, g⟩ a w R := by
  subst hp
  refine givesv (v := .slice (some ⟨b, o + i * (k + 1), none⟩) (m - i) (c - i)) ?_ h
  have h1 : ¬ c = i := by omega
  simp [execOp, hk.eval hx, hk.eval hy, Instr.sliceAt, Instr.slice, run_underlying (elOf_und ht), Instr.sliceBounds, Instr.sliceBound, asIntOf, him, szOf_run hE, h1, addr_add]

theorem g_slTc {x y : Operand} {t E k m c b o : Nat} {p : Int} {kk : IntKind} (j : Nat) (hk : Kn df n a l) (h : R (.slice (some ⟨b, o, none⟩) j c) w)
    (hx : ev l x = some (.slice (some ⟨b, o, none⟩) m c) := by rfl) (hy : ev l y = some (.int kk p) := by rfl) (ht : elOf P t = some E) (hE : szOf P E = some (k + 1)) (hp : p = (j : Int)) (hj : j ≤ c) :
    Gives P ⟨dst, .slice t x none (some y) none, ty, pos, af, g⟩ a w R := by
  subst hp
  refine givesv (v := .slice (some ⟨b, o, none⟩) j c) ?_ h
  have e : (⟨b, o, none⟩ : Addr).add 0 = ⟨b, o, none⟩ := rfl
  by_cases h0 : c = 0
  · have hj0 : j = 0 := by omega
    subst h0 hj0
    simp [execOp, hk.eval hx, hk.eval hy, Instr.sliceAt, Instr.slice, run_underlying (elOf_und ht), Instr.sliceBounds, Instr.sliceBound, asIntOf, szOf_run hE]
  simp [execOp, hk.eval hx, hk.eval hy, Instr.sliceAt, Instr.slice, run_underlying (elOf_und ht), Instr.sliceBounds, Instr.sliceBound, asIntOf, hj, szOf_run hE, h0, e]

theorem g_capC {x : Operand} {t E m c : Nat} {ao : Option Addr} (hk : Kn df n a l) (h : R (.int .i64 c) w) (hx : ev l x = some (.slice ao m c) := by rfl) (ht : elOf P t = some E) :
    Gives P ⟨dst, .call { callee := .builtin .cap, args := #[x], argTypes := #[t] }, ty, pos, af, g⟩ a w R := by
  refine givesv (v := .int .i64 c) ?_ h
  simp [execOp, resolve, invoke, builtin, hk.eval hx, Builtin.cap_, run_underlying (elOf_und ht), goInt]

theorem g_copyC {x y : Operand} {t tx E k b o dn dc sb so sn sc q : Nat} {vs cs : List Value} {E' : TypeId} (hk : Kn df n a l) (hS : St w0 L w)
    (h : ∀ w', St w0 (pts b (splice vs o cs) E' :: L') w' → R (.int .i64 (q : Int)) w')
    (hx : ev l x = some (.slice (some ⟨b, o, none⟩) dn dc) := by rfl) (hy : ev l y = some (.slice (some ⟨sb, so, none⟩) sn sc) := by rfl)
    (hat : At (pts b vs E') L L' := by (repeat (first | exact At.here | apply At.there))) (ht : elOf P t = some E) (hE : szOf P E = some (k + 1)) (hq : q = Nat.min sn dn) (hl : cs.length = q * (k + 1))
    (hsrc : Cells sb so cs w) (h1 : ∀ u ∈ cs, u.oneCell' = true) (hfit : o + cs.length ≤ vs.length) :
    Gives P ⟨dst, .call { callee := .builtin .copy, args := #[x, y], argTypes := #[t, tx] }, ty, pos, af, g⟩ a w R := by
  obtain ⟨w', hr, hS'⟩ := run_storeCells_own (P := P) cs o 0 vs w hS hat h1 (by simpa using hfit)
  simp only [Nat.add_zero] at hS'
  refine givesv (v := .int .i64 (q : Int)) (w' := w') ?_ (h w' hS')
  have hf := run_firstCells_some (P := P) (w := w) (k + 1) q ⟨sb, so, none⟩ sn sc cs hl (fun j v hj => by rw [addr_add]; exact hsrc j v hj)
  simp [execOp, resolve, invoke, builtin, hk.eval hx, hk.eval hy, Builtin.copy_, run_underlying (elOf_und ht), Builtin.lenOf, szOf_run hE, ← hq, hf, hr, goInt]

theorem g_appZ {x y : Operand} {t tx E k b o i c q by_ : Nat} {z : Value} {cs : List Value} {kn : IntKind} (hk : Kn df n a l) (hS : St w0 L w)
    (h : ∀ (w' : World) (b' c' : Nat) (us : List Value), i + q ≤ c' → c' ≤ maxLen → us.length = c' * (k + 1) → (∀ (j : Nat) (u : Value), cs[j]? = some u → us[j]? = some u) → (∀ u ∈ us, u.oneCell' = true) → St w0 (pts b' us E :: L) w' → R (.slice (some ⟨b', 0, none⟩) (i + q) c') w')
    (hx : ev l x = some (.slice (some ⟨b, o, none⟩) i c) := by rfl) {p : Int} (hy : ev l y = some (.int .i64 p) := by rfl) (hp : p = (q : Int)) (ht : elOf P t = some E) (htx : P.underlying tx = some (.int kn)) (hE : szOf P E = some (k + 1)) (hz : zeroOf P E = some z) (hzs : z.cells.size = k + 1) (hz1 : ∀ u ∈ z.cells.toList, u.oneCell' = true)
    (hby : ((P.info? E).map (·.bytes)).getD 0 = by_) (h0 : 0 < q) (hc : c < i + q) (hl : cs.length = i * (k + 1)) (hcs : Cells b o cs w) (h1 : ∀ u ∈ cs, u.oneCell' = true) (hbytes : (i + q) * by_ ≤ 140737488355328) (h63 : i + q ≤ maxLen) :
    Gives P ⟨dst, .call { callee := .builtin .append, args := #[x, y], argTypes := #[t, tx] }, ty, pos, af, g⟩ a w R := by
  subst hp
  obtain ⟨inf, hi, his, hiz⟩ := byOf_info hE hz
  have hib : inf.bytes = by_ := by rw [hi] at hby; exact hby
  have hold : (Builtin.firstCells inf.size i (.slice (some ⟨b, o, none⟩) i c)).run P w.drew = .ok cs.toArray w.drew := by
    rw [his]
    exact run_firstCells_some w.drew (k + 1) i ⟨b, o, none⟩ i c cs hl (fun j v hj => by rw [addr_add]; exact hcs j v hj)
  have hqb : q * inf.bytes ≤ 281474976710656 := by
    rw [hib]
    have : q * by_ ≤ (i + q) * by_ := Nat.mul_le_mul_right _ (by omega)
    omega
  have hr := Lib.run_append_grow_zeros (P := P) w t tx ty E inf z .i64 kn (elOf_und ht) htx hi hiz (some ⟨b, o, none⟩) i c cs hold q h0 (by omega) hc (by simp only [maxLen] at h63; omega) hqb (growslice_fits hc (by rw [hib]; exact hbytes))
  have hge := grownCap_ge w (i + q) c E
  have hcm := grownCap_le_maxLen w (i + q) c E h63
  generalize grownCap w (i + q) c E = gc at *
  have hal := hS.drew.alloc (cs ++ (Builtin.zeroCells z.cells q).toList ++ (Builtin.zeroCells z.cells (gc - (i + q))).toList) E
  have hww : (w.drew.alloc (.cells (cs ++ (Builtin.zeroCells z.cells q).toList ++ (Builtin.zeroCells z.cells (gc - (i + q))).toList).toArray E)) = w.drew.alloc (.cells (cs.toArray ++ Builtin.zeroCells z.cells q ++ Builtin.zeroCells z.cells (gc - (i + q))) E) := by
    congr 2
    apply Array.ext'
    simp
  rw [hww] at hal
  have hz2 : ∀ m u, u ∈ (Builtin.zeroCells z.cells m).toList → u.oneCell' = true := by
    intro m u hu
    simp only [Builtin.zeroCells] at hu
    simp at hu
    obtain ⟨q, hq, rfl⟩ := hu
    have hlt : q % z.cells.size < z.cells.size := Nat.mod_lt _ (by rw [hzs]; omega)
    rw [getElem!_pos z.cells _ hlt]
    exact hz1 _ (by simp)
  refine givesv (v := .slice (some ⟨w.heap.size, 0, none⟩) (i + q) gc) (w' := _) ?_ (h _ _ gc _ hge hcm ?_ (fun j u hj => ?_) (fun u hu => ?_) hal)
  · simp [execOp, resolve, invoke, builtin, hk.eval hx, hk.eval hy, hr]
  · rw [List.length_append, List.length_append, hl, Array.length_toList, Array.length_toList, size_zeroCells, size_zeroCells, hzs, ← Nat.add_mul, ← Nat.add_mul]
    congr 1
    omega
  · have hlt : j < cs.length := by
      rcases Nat.lt_or_ge j cs.length with h' | h'
      · exact h'
      · rw [List.getElem?_eq_none h'] at hj; cases hj
    rw [List.append_assoc, List.getElem?_append_left hlt]
    exact hj
  · rw [List.mem_append, List.mem_append] at hu
    rcases hu with (hu | hu) | hu
    · exact h1 u hu
    · exact hz2 _ u hu
    · exact hz2 _ u hu

theorem g_ovl {x y : Operand} {f : FuncId} {fn : Func} {ts : Array TypeId} {tS tR E k b o m c b' o' m' c' : Nat} {vs vs' : List Value} {E1 E2 : TypeId} {L'' : List HP} (hk : Kn df n a l) (hS : St w0 L w) (h : R (.bool false) w)
    (hf : P.funcs[f]? = some fn) (hname : (fn.name == "runtime.NumGoroutine") = false) (hb : fn.body.isNone = true) (hn : Extern.findNext fn = none) (he : Extern.find fn = some (Extern.SlicesOverlaps.overlaps #[tS, tS] #[tR]))
    (hx : ev l x = some (.slice (some ⟨b, o, none⟩) m c) := by rfl) (hy : ev l y = some (.slice (some ⟨b', o', none⟩) m' c') := by rfl)
    (hat : At (pts b vs E1) L L' := by (repeat (first | exact At.here | apply At.there))) (hat2 : At (pts b' vs' E2) L' L'' := by (repeat (first | exact At.here | apply At.there)))
    (ht : elOf P tS = some E) (hE : szOf P E = some (k + 1)) (hne : vs' ≠ []) :
    Gives P ⟨dst, .call { callee := .value (.func f), args := #[x, y], argTypes := ts }, ty, pos, af, g⟩ a w R := by
  have hb1 := pts.block (hS.rd hat)
  have hb2 := pts.block ((hS.sub hat.rest).rd hat2)
  have hbb := hS.two hat hat2
  have hl' : vs'.toArray.size ≠ 0 := by
    rw [List.size_toArray]
    intro e
    exact hne (List.eq_nil_of_length_eq_zero e)
  have hr := Lib.run_overlaps_apart (P := P) w tS tR E (elOf_und ht) (k + 1) (szOf_run hE) ⟨b, o, none⟩ ⟨b', o', none⟩ m c m' c' hbb E1 E2 vs.toArray.size vs'.toArray.size (by simp [World.shape?, hb1]) (by simp [World.shape?, hb2]) hl' (by simp [World.frozen?, hb1]) (by simp [World.frozen?, hb1])
  refine givesv (v := .bool false) ?_ h
  have e : (execOp a.eval ⟨dst, .call { callee := .value (.func f), args := #[x, y], argTypes := ts }, ty, pos, af, g⟩) = callFunc f #[.slice (some ⟨b, o, none⟩) m c, .slice (some ⟨b', o', none⟩) m' c'] := by
    have e1 : (#[] ++ (#[x, y] : Array Operand).map a.eval ++ #[] : Array Value) = #[.slice (some ⟨b, o, none⟩) m c, .slice (some ⟨b', o', none⟩) m' c'] := by simp [hk.eval hx, hk.eval hy]
    rw [← e1]
    rfl
  rw [e, run_callFunc_extern hf hname hb hn he, hr]
  rfl
end

section
variable {α : Type}
def insF (xs : List α) (i : Nat) (e : α) : List α := xs.take i ++ e :: xs.drop i

theorem insF_len {xs : List α} {i : Nat} {e : α} (h : i ≤ xs.length) : (insF xs i e).length = xs.length + 1 := by
  unfold insF
  rw [List.length_append, List.length_take, List.length_cons, List.length_drop]
  omega
variable [Enc α]
theorem enc_ins (xs : List α) (i : Nat) (e : α) (hi : i ≤ xs.length) (j : Nat) : (enc (insF xs i e))[j]? =
    if j < i * (Enc.k α + 1) then (enc xs)[j]? else if j < (i + 1) * (Enc.k α + 1) then (Enc.f e)[j - i * (Enc.k α + 1)]? else (enc xs)[j - (Enc.k α + 1)]? := by
  have hl : (enc (xs.take i)).length = i * (Enc.k α + 1) := by rw [enc_len, List.length_take, Nat.min_eq_left hi]
  unfold insF
  rw [enc_append, enc_cons]
  by_cases h1 : j < i * (Enc.k α + 1)
  · rw [if_pos h1, List.getElem?_append_left (by rw [hl]; exact h1), ← enc_take, List.getElem?_take, if_pos h1]
  · rw [if_neg h1, List.getElem?_append_right (by rw [hl]; omega), hl]
    by_cases h2 : j < (i + 1) * (Enc.k α + 1)
    · rw [if_pos h2, List.getElem?_append_left (by rw [Enc.len]; rw [Nat.add_mul] at h2; omega)]
    · rw [if_neg h2]
      rw [Nat.add_mul] at h2
      rw [List.getElem?_append_right (by rw [Enc.len]; omega), Enc.len, ← enc_drop, List.getElem?_drop]
      congr 1
      omega

theorem St.toOwn {B : Bs} {w : World} {L L' : List HP} {b off cap : Nat} {vs : List Value} {E : TypeId} {ys : List α} (h : St B L w) (hat : At (pts b vs E) L L') (hn : ys.length ≤ cap) (hcm : cap ≤ maxLen) (hvl : off + cap * (Enc.k α + 1) ≤ vs.length)
    (hc : ∀ j u, (enc ys)[j]? = some u → vs[off + j]? = some u) : St B (OwT E ys (.slice (some ⟨b, off, none⟩) ys.length cap) :: L') w :=
  h.conv (As := [_]) hat (fun F hF => ⟨F, fun _ h => h, Sep.one ⟨by rw [enc_len], Nat.le_trans hn hcm, .inr ⟨b, off, cap, _, rfl, hF.1, hF.2.1, hF.2.2, hn, hcm, by simpa using hvl, fun j u hj => by simpa using hc j u hj⟩, fun c hc => (pts _ _ E).dom F _ c hF hc⟩⟩)

theorem enc_get_lt {xs : List α} {j : Nat} {u : Value} (h : (enc xs)[j]? = some u) : j < xs.length * (Enc.k α + 1) := by
  rw [← enc_len]
  rcases Nat.lt_or_ge j (enc xs).length with h' | h'
  · exact h'
  · rw [List.getElem?_eq_none h'] at h; cases h

theorem enc_single (e : α) : enc [e] = Enc.f e := by simp [enc]
theorem Cells.dropT {xs : List α} {vs : List Value} {b off : Nat} {E : TypeId} {w : World} (i : Nat) (hb : w.heap[b]? = some (.cells vs.toArray E (0, 0))) (hvs : ∀ (j : Nat) (u : Value), (enc xs)[j]? = some u → vs[off + j]? = some u) : Cells b (off + i * (Enc.k α + 1)) (enc (xs.drop i)) w := fun j u hj => by
  rw [cell_of_row w b _ _ E _ hb, List.getElem?_toArray, Nat.add_assoc]
  exact hvs _ u (by rw [← List.getElem?_drop, enc_drop]; exact hj)
theorem Cells.takeT {xs : List α} {vs : List Value} {b off : Nat} {E : TypeId} {w : World} (i : Nat) (hb : w.heap[b]? = some (.cells vs.toArray E (0, 0))) (hvs : ∀ (j : Nat) (u : Value), (enc xs)[j]? = some u → vs[off + j]? = some u) : Cells b off (enc (xs.take i)) w := fun j u hj => by
  rw [cell_of_row w b _ _ E _ hb, List.getElem?_toArray]
  refine hvs _ u ?_
  rw [← enc_take, List.getElem?_take] at hj
  split at hj
  · exact hj
  · cases hj

theorem ins_cells {xs : List α} {i off : Nat} {e : α} {vs vs0 : List Value} (hi : i < xs.length) (hvl : off + (xs.length + 1) * (Enc.k α + 1) ≤ vs.length)
    (h0 : ∀ j u, (enc (xs.take i))[j]? = some u → vs[off + j]? = some u)
    (hvs0 : vs0 = splice (splice vs (off + (i + 1) * (Enc.k α + 1)) (enc (xs.drop i))) (off + i * (Enc.k α + 1)) (Enc.f e) ∨ vs0 = splice (splice vs (off + i * (Enc.k α + 1)) (Enc.f e)) (off + (i + 1) * (Enc.k α + 1)) (enc (xs.drop i))) :
    vs0.length = vs.length ∧ ∀ j u, (enc (insF xs i e))[j]? = some u → vs0[off + j]? = some u := by
  have hdl : (enc (xs.drop i)).length = (xs.length - i) * (Enc.k α + 1) := by rw [enc_len, List.length_drop]
  have e1 : xs.length * (Enc.k α + 1) = i * (Enc.k α + 1) + (xs.length - i) * (Enc.k α + 1) := by rw [← Nat.add_mul]; congr 1; omega
  have e2 : (i + 1) * (Enc.k α + 1) = i * (Enc.k α + 1) + (Enc.k α + 1) := Nat.succ_mul _ _
  have e3 : (xs.length + 1) * (Enc.k α + 1) = xs.length * (Enc.k α + 1) + (Enc.k α + 1) := Nat.succ_mul _ _
  have hf := Enc.len e
  have hxl := enc_len xs
  have hins := fun j => enc_ins xs i e (by omega) j
  have htk : ∀ j, j < i * (Enc.k α + 1) → (enc (xs.take i))[j]? = (enc xs)[j]? := fun j hj => by rw [← enc_take, List.getElem?_take, if_pos hj]
  have hdr : ∀ j, (enc (xs.drop i))[j]? = (enc xs)[i * (Enc.k α + 1) + j]? := fun j => by rw [← enc_drop, List.getElem?_drop]
  generalize (xs.length - i) * (Enc.k α + 1) = D at *
  generalize (xs.length + 1) * (Enc.k α + 1) = N1 at *
  generalize xs.length * (Enc.k α + 1) = N at *
  generalize (i + 1) * (Enc.k α + 1) = I1 at *
  generalize hI : i * (Enc.k α + 1) = I at *
  generalize Enc.k α + 1 = K at *
  have hlen : ∀ (a b : List Value) (o : Nat), (splice a o b).length = a.length := fun a b o => splice_len b o a
  rcases hvs0 with rfl | rfl
  · refine ⟨by rw [hlen, hlen], fun j u hj => ?_⟩
    rw [splice_get _ _ _ _ (by rw [hlen, hf]; omega), splice_get _ _ _ _ (by rw [hdl]; omega), hf, hdl]
    rw [hins] at hj
    by_cases h1 : j < I
    · rw [if_pos h1] at hj
      rw [if_neg (by omega), if_neg (by omega)]
      exact h0 j u (by rw [htk j h1]; exact hj)
    · rw [if_neg h1] at hj
      by_cases h2 : j < I1
      · rw [if_pos h2] at hj
        rw [if_pos (by omega), show off + j - (off + I) = j - I by omega]
        exact hj
      · rw [if_neg h2] at hj
        have hlt : j - K < (enc xs).length := by
          rcases Nat.lt_or_ge (j - K) (enc xs).length with h' | h'
          · exact h'
          · rw [List.getElem?_eq_none h'] at hj; cases hj
        rw [if_neg (by omega), if_pos (by omega), hdr, show I + (off + j - (off + I1)) = j - K by omega]
        exact hj
  · refine ⟨by rw [hlen, hlen], fun j u hj => ?_⟩
    rw [splice_get _ _ _ _ (by rw [hlen, hdl]; omega), splice_get _ _ _ _ (by rw [hf]; omega), hf, hdl]
    rw [hins] at hj
    by_cases h1 : j < I
    · rw [if_pos h1] at hj
      rw [if_neg (by omega), if_neg (by omega)]
      exact h0 j u (by rw [htk j h1]; exact hj)
    · rw [if_neg h1] at hj
      by_cases h2 : j < I1
      · rw [if_pos h2] at hj
        rw [if_neg (by omega), if_pos (by omega), show off + j - (off + I) = j - I by omega]
        exact hj
      · rw [if_neg h2] at hj
        have hlt : j - K < (enc xs).length := by
          rcases Nat.lt_or_ge (j - K) (enc xs).length with h' | h'
          · exact h'
          · rw [List.getElem?_eq_none h'] at hj; cases hj
        rw [if_pos (by omega), hdr, show I + (off + j - (off + I1)) = j - K by omega]
        exact hj
end
end Go.Proofs.YtkcjkbnbblpomaaGreatDoor
namespace Go.Proofs.YtkcjkbnbblpomaaGreatDoor
variable {df : List Deferred}
open Go.RowKit

section
variable {P : Program} {a : Act} {w w' : World} {w0 : Bs} {n : Nat} {l : List (Nat × Value)} {L L' : List HP}
  {dst : Option Nat} {R : Value → World → Prop} {ty : TypeId} {pos : String} {af : Array Edge} {g : Option (Nat × Bool)}

theorem g_clear {x : Operand} {t E k b o m c : Nat} {z : Value} {vs : List Value} {E' : TypeId} (hk : Kn df n a l) (hS : St w0 L w)
    (h : ∀ (w' : World) (zs : List Value), zs.length = m * (k + 1) → St w0 (pts b (splice vs o zs) E' :: L') w' → R (.tuple #[]) w')
    (hx : ev l x = some (.slice (some ⟨b, o, none⟩) m c) := by rfl) (hat : At (pts b vs E') L L' := by (repeat (first | exact At.here | apply At.there))) (ht : elOf P t = some E) (hz : zeroOf P E = some z) (hzs : z.cells.size = k + 1) (hz1 : ∀ u ∈ z.cells.toList, u.oneCell' = true)
    (hfit : o + m * (k + 1) ≤ vs.length) : Gives P ⟨dst, .call { callee := .builtin .clear, args := #[x], argTypes := #[t] }, ty, pos, af, g⟩ a w R := by
  have hl : (Builtin.zeroCells z.cells m).toList.length = m * (k + 1) := by rw [Array.length_toList, size_zeroCells, hzs]
  have h1 : ∀ u ∈ (Builtin.zeroCells z.cells m).toList, u.oneCell' = true := by
    intro u hu
    simp only [Builtin.zeroCells] at hu
    simp at hu
    obtain ⟨q, hq, rfl⟩ := hu
    have hlt : q % z.cells.size < z.cells.size := Nat.mod_lt _ (by rw [hzs]; omega)
    rw [getElem!_pos z.cells _ hlt]
    exact hz1 _ (by simp)
  obtain ⟨w', hr, hS'⟩ := run_storeCells_own (P := P) (Builtin.zeroCells z.cells m).toList o 0 vs w hS hat h1 (by rw [hl]; simpa using hfit)
  simp only [Nat.add_zero] at hS'
  by_cases h0 : m = 0
  · subst h0
    have e : (Builtin.zeroCells z.cells 0).toList = [] := List.eq_nil_of_length_eq_zero (by rw [hl, Nat.zero_mul])
    rw [e] at hS' hr
    have hw : w' = w := by
      have : (storeCells ⟨b, o, none⟩ [] 0).run P w = .ok () w := rfl
      rw [this] at hr
      injection hr with _ hr
      exact hr.symm
    subst hw
    refine givesv (v := .tuple #[]) (w' := w') ?_ (h w' [] (by simp) hS')
    simp [execOp, resolve, invoke, builtin, hk.eval hx, Builtin.clear_, run_underlying (elOf_und ht)]
  · refine givesv (v := .tuple #[]) (w' := w') ?_ (h w' _ hl hS')
    simp [execOp, resolve, invoke, builtin, hk.eval hx, Builtin.clear_, run_underlying (elOf_und ht), zeroOf_run hz, hr]
end

def emp0 (v : Value) : HP where
  holds F _ := (∀ b, ¬ F b) ∧ ∃ ao, v = .slice ao 0 0
  stable := fun _ _ _ h _ => h
  dom := fun _ _ b h hb => absurd hb (h.1 b)
theorem emp0.get {v : Value} {w : World} (h : (emp0 v).rd w) : ∃ ao, v = .slice ao 0 0 := let ⟨_, h⟩ := h; h.2

section
variable {P : Program} {a : Act} {w w' : World} {w0 : Bs} {n : Nat} {l : List (Nat × Value)} {L L' : List HP}
  {dst : Option Nat} {R : Value → World → Prop} {ty : TypeId} {pos : String} {af : Array Edge} {g : Option (Nat × Bool)} {α : Type} [Enc α]
theorem v_bs0 {T E k : Nat} (hT : elOf P T = some E) (hE : szOf P E = some k) :
    Gives P ⟨dst, .buildSlice T 0 #[], ty, pos, af, g⟩ a w (fun v w' => St w [emp0 v] w') := by
  refine givesv (v := .slice (some ⟨w.heap.size, 0, none⟩) 0 0) (w' := w.alloc (.cells #[] E)) ?_ ?_
  · simp only [execOp, Instr.buildSlice, Sem.run_bind, run_underlying (elOf_und hT), Result.andThen_ok, szOf_run hE]
    have e : (Array.map (fun (_ : Nat) => (default : Value)) (Array.range 0)) = #[] := Array.eq_empty_of_size_eq_zero (by simp)
    simp [Instr.fill, newRow, e]
  · have h := (St.refl w).alloc [] E
    have := h.conv (As := [emp0 (.slice (some ⟨w.heap.size, 0, none⟩) 0 0)]) At.here (fun F _ => ⟨fun _ => False, fun _ h => h.elim, Sep.one ⟨fun _ h => h, _, rfl⟩⟩)
    exact this
theorem v_appN {x y : Operand} {t tx : TypeId} {E E' : Nat} {v y0 z : Value} (hk : Kn df n a l) (hv : SlT ([] : List α) v w)
    (hT : elOf P t = some E) (hTx : elOf P tx = some E') (hE : szOf P E = some (Enc.k α + 1)) (hz : zeroOf P E = some z) (hs : SlT ([] : List α) y0 w)
    (hx : ev l x = some v := by rfl) (hy : ev l y = some y0 := by rfl) :
    Gives P ⟨dst, .call { callee := .builtin .append, args := #[x, y], argTypes := #[t, tx] }, ty, pos, af, g⟩ a w (fun v' w' => v' = v ∧ St w [] w') := by
  obtain ⟨i, hi, his, hiz⟩ := byOf_info hE hz
  have hsrc : Src P (Enc.k α + 1) tx y0 0 [] w := Src.ofT hTx hs
  obtain ⟨ao, c, rfl, hao, _, _⟩ := hv.shape
  refine givesv (v := .slice ao 0 c) (w' := w) ?_ (same _ _)
  have hr : (Builtin.append_ #[t, tx] ty #[.slice ao 0 c, y0]).run P w = .ok (.slice ao 0 c) w := by
    cases ao with
    | none =>
      obtain ⟨_, rfl⟩ := hao rfl
      rcases hsrc.kind with ⟨e', hk'⟩ | hk' <;> simp [Builtin.append_, run_underlying (elOf_und hT), run_underlying hk', sizeOf, typeInfo, hi, hsrc.len, his, hsrc.cells]
    | some ad =>
      have hst : (storeCells (ad.add (0 * (Enc.k α + 1))) [] 0).run P w = .ok () w := rfl
      rcases hsrc.kind with ⟨e', hk'⟩ | hk' <;> simp [Builtin.append_, run_underlying (elOf_und hT), run_underlying hk', sizeOf, typeInfo, hi, hsrc.len, his, hsrc.cells, storeCells]
  simp [execOp, resolve, invoke, builtin, hk.eval hx, hk.eval hy, hr]
theorem v_app0 {x y : Operand} {t tx : TypeId} {E E' : Nat} {v y0 z : Value} {ys : List α} (hk : Kn df n a l) (hv : (emp0 v).rd w) (hne : ys ≠ [])
    (hT : elOf P t = some E) (hTx : elOf P tx = some E') (hE : szOf P E = some (Enc.k α + 1)) (hz : zeroOf P E = some z) (hzs : z.cells.size = Enc.k α + 1) (hs : SlT ys y0 w) {by_ : Nat} (hby : ((P.info? E).map (·.bytes)).getD 0 = by_) (hbytes : ys.length * by_ ≤ 140737488355328) (h63 : ys.length ≤ maxLen)
    (hx : ev l x = some v := by rfl) (hy : ev l y = some y0 := by rfl) :
    Gives P ⟨dst, .call { callee := .builtin .append, args := #[x, y], argTypes := #[t, tx] }, ty, pos, af, g⟩ a w (fun v' w' => St w [OwT E ys v'] w') := by
  obtain ⟨ao, rfl⟩ := emp0.get hv
  obtain ⟨i, hi, his, hiz⟩ := byOf_info hE hz
  have hib : i.bytes = by_ := by rw [hi] at hby; exact hby
  have hsrc : Src P (Enc.k α + 1) tx y0 ys.length (enc ys) w := Src.ofT hTx hs
  have hq : 0 < ys.length := List.length_pos_iff.2 hne
  have hsmall : 0 + ys.length ≤ 9223372036854775807 := by simp only [maxLen] at h63; omega
  have hold : (Builtin.firstCells i.size 0 (.slice ao 0 0)).run P w.drew = .ok (([] : List Value).toArray) w.drew := by
    cases ao with
    | none => simp [Builtin.firstCells]
    | some ad => exact run_firstCells_some w.drew i.size 0 ad 0 0 [] (by simp) (fun j v hj => by simp at hj)
  have hr := run_append_grow_src (P := P) w t tx ty E i z (elOf_und hT) hi hiz ao 0 0 [] hold y0 ys.length (enc ys) (by rw [his]; exact hsrc) (by omega) (by omega) (growslice_fits (by omega) (by rw [hib, Nat.zero_add]; exact hbytes))
  simp only [Nat.zero_add, List.nil_append] at hr
  refine givesv (v := .slice (some ⟨w.heap.size, 0, none⟩) ys.length (grownCap w ys.length 0 E)) (w' := w.drew.alloc (.cells ((enc ys).toArray ++ Builtin.zeroCells z.cells (grownCap w ys.length 0 E - ys.length)) E)) (by simp [execOp, resolve, invoke, builtin, hk.eval hx, hk.eval hy, hr]) ?_
  have hge := grownCap_ge w ys.length 0 E
  have hcm := grownCap_le_maxLen w ys.length 0 E h63
  have hlen : (enc ys).length = ys.length * (Enc.k α + 1) := enc_len ys
  generalize grownCap w ys.length 0 E = gc at *
  have hz0 : (Builtin.zeroCells z.cells (gc - ys.length)).toList.length = (gc - ys.length) * (Enc.k α + 1) := by rw [Array.length_toList, size_zeroCells, hzs]
  have hww : (w.drew.alloc (.cells (enc ys ++ (Builtin.zeroCells z.cells (gc - ys.length)).toList).toArray E)) = w.drew.alloc (.cells ((enc ys).toArray ++ Builtin.zeroCells z.cells (gc - ys.length)) E) := by
    congr 2
    apply Array.ext'
    simp
  have hal := (St.refl w).drew.alloc (enc ys ++ (Builtin.zeroCells z.cells (gc - ys.length)).toList) E
  rw [hww] at hal
  generalize (Builtin.zeroCells z.cells (gc - ys.length)).toList = zs at *
  have hgl : ys.length * (Enc.k α + 1) + (gc - ys.length) * (Enc.k α + 1) = gc * (Enc.k α + 1) := by rw [← Nat.add_mul]; congr 1; omega
  exact hal.toOwn (ys := ys) (off := 0) (cap := gc) At.here hge hcm (by rw [List.length_append, hlen, hz0, Nat.zero_add, hgl]; exact Nat.le_refl _) (fun j u hj => by
    have hlt := enc_get_lt hj
    rw [Nat.zero_add, List.getElem?_append_left (by rw [hlen]; exact hlt)]
    exact hj)
end

section
variable {α : Type} (p : α → Bool)
structure Sieve (s ys : List α) (i j : Nat) : Prop where
  len : ys.length = s.length
  le : i < j
  head : ys.take i = (s.take j).filter (fun x => !p x)
  tail : ys.drop j = s.drop j
theorem Sieve.get {s ys : List α} {i j : Nat} (h : Sieve p s ys i j) (hj : j < s.length) : ys[j]? = some s[j] := by
  have := congrArg (·[0]?) h.tail
  simpa [List.getElem?_drop] using this.trans (by simp [List.getElem?_drop, List.getElem?_eq_getElem hj])
theorem Sieve.drop_ {s ys : List α} {i j : Nat} (h : Sieve p s ys i j) (hj : j < s.length) (hp : p s[j] = true) : Sieve p s ys i (j + 1) := by
  refine ⟨h.len, by have := h.le; omega, ?_, ?_⟩
  · rw [h.head, List.take_add_one, List.getElem?_eq_getElem hj, List.filter_append]
    simp [hp]
  · have := congrArg (List.drop 1) h.tail
    rwa [List.drop_drop, List.drop_drop] at this
theorem Sieve.keep {s ys : List α} {i j : Nat} (h : Sieve p s ys i j) (hj : j < s.length) (hp : p s[j] = false) : Sieve p s (ys.set i s[j]) (i + 1) (j + 1) := by
  have hl := h.len
  have hle := h.le
  refine ⟨by rw [List.length_set, hl], by omega, ?_, ?_⟩
  · rw [List.take_add_one (l := s), List.getElem?_eq_getElem hj, List.filter_append, ← h.head]
    have e : (ys.set i s[j]).take (i + 1) = (ys.set i s[j]).take i ++ [s[j]] := by
      rw [List.take_add_one, List.getElem?_set_self (by omega)]; rfl
    rw [e, List.take_set_of_le (Nat.le_refl i)]
    simp [hp]
  · rw [List.drop_set_of_lt (by omega)]
    have := congrArg (List.drop 1) h.tail
    rwa [List.drop_drop, List.drop_drop] at this
theorem Sieve.start {s : List α} {k : Nat} (hk : k < s.length) (hn : ∀ i (h : i < s.length), i < k → p s[i] = false) (hp : p s[k] = true) : Sieve p s s k (k + 1) := by
  refine ⟨rfl, by omega, ?_, rfl⟩
  rw [List.take_add_one, List.getElem?_eq_getElem hk, List.filter_append]
  have : (s.take k).filter (fun x => !p x) = s.take k := by
    rw [List.filter_eq_self]
    intro x hx
    obtain ⟨i, hi, rfl⟩ := List.getElem_of_mem hx
    rw [List.getElem_take]
    rw [List.length_take] at hi
    simp [hn i (by omega) (by omega)]
  rw [this]
  simp [hp]
theorem filter_none {s : List α} (h : ∀ i (h : i < s.length), p s[i] = false) : s.filter (fun x => !p x) = s := by
  rw [List.filter_eq_self]
  intro x hx
  obtain ⟨i, hi, rfl⟩ := List.getElem_of_mem hx
  simp [h i hi]
end

section
variable {α : Type} [Enc α]
theorem St.toTake {B : Bs} {w : World} {L L' : List HP} {b off cap i : Nat} {vs zs : List Value} {E : TypeId} {ys : List α} (h : St B L w) (hat : At (pts b (splice vs (off + i * (Enc.k α + 1)) zs) E) L L') (hi : i ≤ ys.length) (hn : ys.length ≤ cap) (hcm : cap ≤ maxLen) (hvl : off + cap * (Enc.k α + 1) ≤ vs.length)
    (hz : zs.length = (ys.length - i) * (Enc.k α + 1)) (hc : ∀ (j : Nat) (u : Value), (enc ys)[j]? = some u → vs[off + j]? = some u) : St B (OwT E (ys.take i) (.slice (some ⟨b, off, none⟩) i cap) :: L') w := by
  have hti : (ys.take i).length = i := by rw [List.length_take, Nat.min_eq_left hi]
  have e1 : ys.length * (Enc.k α + 1) = i * (Enc.k α + 1) + (ys.length - i) * (Enc.k α + 1) := by rw [← Nat.add_mul]; congr 1; omega
  have e2 : ys.length * (Enc.k α + 1) ≤ cap * (Enc.k α + 1) := Nat.mul_le_mul_right _ hn
  have := h.toOwn (ys := ys.take i) (off := off) (cap := cap) hat (by rw [hti]; omega) hcm (by rw [splice_len]; exact hvl) (fun j u hj => by
    have hlt := enc_get_lt hj
    rw [hti] at hlt
    rw [splice_get _ _ _ _ (by rw [hz]; omega), if_neg (by omega)]
    rw [← enc_take, List.getElem?_take, if_pos hlt] at hj
    exact hc j u hj)
  rw [hti] at this
  exact this
end

section
variable {α : Type} [Enc α]
theorem enc_setF {xs : List α} {i f : Nat} {z : α} {u : Value} (hi : i < xs.length) (hf : f < Enc.k α + 1) (hz : Enc.f z = (Enc.f xs[i]).set f u) (j : Nat) :
    (enc (xs.set i z))[j]? = if j = i * (Enc.k α + 1) + f then some u else (enc xs)[j]? := by
  rw [enc_set xs i z hi]
  have hg := enc_get xs i hi
  have hfl := Enc.len xs[i]
  by_cases h1 : i * (Enc.k α + 1) ≤ j ∧ j < i * (Enc.k α + 1) + (Enc.k α + 1)
  · rw [if_pos h1, hz]
    by_cases h2 : j = i * (Enc.k α + 1) + f
    · rw [if_pos h2, h2, show i * (Enc.k α + 1) + f - i * (Enc.k α + 1) = f by omega, List.getElem?_set_self (by rw [hfl]; exact hf)]
    · rw [if_neg h2, List.getElem?_set_ne (by omega), ← hg, List.getElem?_take, if_pos (by omega), List.getElem?_drop]
      congr 1
      omega
  · rw [if_neg h1, if_neg (by omega)]
variable {P : Program} {a : Act} {w w' : World} {w0 : Bs} {n : Nat} {l : List (Nat × Value)} {L L' : List HP}
  {dst : Option Nat} {R : Value → World → Prop} {ty : TypeId} {pos : String} {af : Array Edge} {g : Option (Nat × Bool)}
theorem g_stF {x y : Operand} {T E : TypeId} {v u : Value} {i f : Nat} {xs : List α} {z : α} {o : Nat} (hk : Kn df n a l) (hS : St w0 L w) (h : ∀ w', St w0 (OwT E (xs.set i z) v :: L') w' → R undef w')
    (hx : ev l x = some (.pointer (some ⟨blk v, o, none⟩)) := by rfl) (ho : o = offs v + i * (Enc.k α + 1) + f) (hy : ev l y = some u := by rfl) (hat : At (OwT E xs v) L L' := by (repeat (first | exact At.here | apply At.there)))
    (hi : i < xs.length) (hf : f < Enc.k α + 1) (hz : Enc.f z = (Enc.f xs[i]).set f u) (hu : u.cells = #[u] := by rfl) (hone : u.oneCell' = true := by rfl) (hsz : szOf P T = some 1) :
    Gives P ⟨dst, .store T x y, ty, pos, af, g⟩ a w R := by
  subst ho
  obtain ⟨F0, _, _, h3, _⟩ := hS.rd hat
  rcases h3 with ⟨_, h0⟩ | ⟨b, off, cap, cur, rfl, _⟩
  · omega
  · obtain ⟨vs, hP, hvl, hn, hcm, hcl, hvs⟩ := hS.ownPts hat
    have hle := mul_lt_of (k := Enc.k α) hi
    have hle2 : xs.length * (Enc.k α + 1) ≤ cap * (Enc.k α + 1) := Nat.mul_le_mul_right _ hn
    obtain ⟨w', hr, hS'⟩ := run_storeCells_own (P := P) [u] (off + i * (Enc.k α + 1) + f) 0 vs w hP At.here (fun x hx => by rw [List.mem_singleton] at hx; rw [hx]; exact hone) (by simp only [List.length_singleton]; omega)
    simp only [Nat.add_zero] at hS'
    refine givesu (w' := w') ?_ (h w' ?_)
    · have hr' : (storeCells ⟨b, off + i * (Enc.k α + 1) + f, none⟩ [u] 0).run P w = .ok () w' := hr
      simp only [blk, offs] at hx
      simp [execOp, hk.eval hx, hk.eval hy, Instr.storeAt, Instr.sureAddr, storeVar, szOf_run hsz, hu, hr']
    · have hq := hS'.toOwn (ys := xs.set i z) (off := off) (cap := cap) At.here (by rw [List.length_set]; exact hn) hcm (by rw [splice_len]; exact hvl) (fun j u' hj => by
        rw [enc_setF hi hf hz] at hj
        simp only [splice]
        by_cases h1 : j = i * (Enc.k α + 1) + f
        · rw [if_pos h1] at hj
          injection hj with hj
          subst hj
          rw [show off + j = off + i * (Enc.k α + 1) + f by omega, List.getElem?_set_self (by omega)]
        · rw [if_neg h1] at hj
          rw [List.getElem?_set_ne (by omega)]
          exact hvs j u' hj)
      rw [List.length_set] at hq
      exact hq
end
end Go.Proofs.YtkcjkbnbblpomaaGreatDoor
namespace Go.Proofs.YtkcjkbnbblpomaaGreatDoor
variable {df : List Deferred} {rr : Option Nat}
open Go.RowKit

def obj (b : Nat) (o : Obj) : HP where
  holds F w := F b ∧ (∀ c, F c → c = b) ∧ w.heap[b]? = some o
  stable := fun F w w' ⟨h1, h2, h3⟩ h => ⟨h1, h2, by rw [h b h1]; exact h3⟩
  dom := fun F w c ⟨h1, h2, h3⟩ hc => by
    rw [h2 c hc]
    rcases Nat.lt_or_ge b w.heap.size with h' | h'
    · exact h'
    · rw [Array.getElem?_eq_none h'] at h3; cases h3

def lrec (fn : FuncId) (tmps : Array Value) (ps : Array Tmp) (assign body : Code) (D : Nat) (s : LoopState) (pe : Option Code) : Obj :=
  .loop { state := s, pending := pe, fn, tmps, params := ps, assign, body, defers := D }

def BegK (P : Program) (b : Nat) (body : Code) (R : Ending → World → Prop) (a : Act) (w : World) : Prop :=
  ∃ w₂, (Instr.beginRound b).run P w = .ok () w₂ ∧ body.wpIn (FR (some b)) 0 P (roundPost P b R) a w₂

section
variable {P : Program} {Q : Exit → Act → World → Prop} {a : Act} {w w' : World} {w0 : Bs} {n : Nat} {l l0 : List (Nat × Value)} {L L' : List HP}
  {dst : Option Nat} {R : Value → World → Prop} {ty : TypeId} {pos : String} {af : Array Edge} {g : Option (Nat × Bool)}
  {fn : FuncId} {tmps : Array Value} {ps : Array Tmp} {assign body : Code} {D b : Nat}

def mk_ (D : Nat) : List Deferred := [{ target := .collected D, args := #[] }]

def DoneM (P : Program) (fn : Func) (R : Value → World → Prop) : Exit → Act → World → Prop := bodyPostM Fence.wide 0 P fn (Ret R)

theorem g_eqN {x : Operand} {t t' E m c n' c' : Nat} {ao : Option Addr} (hk : Kn df n a l) (h : R (.bool ao.isNone) w) (hx : ev l x = some (.slice ao m c) := by rfl) (hT : elOf P t = some E) :
    Gives P ⟨dst, .binOp .eql t x (.const (.slice none n' c')) t', ty, pos, af, g⟩ a w R :=
  givesv (v := .bool ao.isNone) (by
    have h1 := Lib.run_eql_slice_nil (P := P) w t E ao m c n' c' (elOf_und hT)
    have h2 : a.eval (.const (.slice none n' c')) = .slice none n' c' := rfl
    simp [execOp, hk.eval hx, h2, eqGuard, Sem.run_bind, h1]) h
end
end Go.Proofs.YtkcjkbnbblpomaaGreatDoor
namespace Go.Proofs.YtkcjkbnbblpomaaGreatDoor
open Go.RowKit

theorem Sep.split {w : World} : ∀ {L1 L2 : List HP} {F : Nat → Prop}, Sep (L1 ++ L2) F w → ∃ F1 F2 : Nat → Prop, (∀ b, F1 b → F b) ∧ (∀ b, F2 b → F b) ∧ (∀ b, F1 b → F2 b → False) ∧ Sep L1 F1 w ∧ Sep L2 F2 w
  | [], _, F, h => ⟨fun _ => False, F, fun _ h => h.elim, fun _ h => h, fun _ h _ => h, trivial, h⟩
  | A :: L1, L2, F, ⟨G1, G2, h1, h2, h3, h4, h5⟩ => by
    obtain ⟨F1, F2, k1, k2, k3, k4, k5⟩ := Sep.split (L1 := L1) h5
    exact ⟨fun b => G1 b ∨ F1 b, F2, fun b h => h.elim (h1 b) (fun h => h2 b (k1 b h)), fun b h => h2 b (k2 b h), fun b h1 hF => h1.elim (fun hG => h3 b hG (k2 b hF)) (fun hG => k3 b hG hF),
      ⟨G1, F1, fun b h => .inl h, fun b h => .inr h, fun b hG hF => h3 b hG (k1 b hF), h4, k4⟩, k5⟩

def bagH {α : Type} (A : α → List HP) (p : α → Prop) : HP where
  holds F w := (∀ b, F b → b < w.heap.size) ∧ ∃ x, p x ∧ Sep (A x) F w
  stable F w w' h hF := by
    obtain ⟨h1, x, hp, hs⟩ := h
    refine ⟨fun b hb => ?_, x, hp, hs.stable hF⟩
    have h2 := hF b hb
    rcases Nat.lt_or_ge b w'.heap.size with h | h
    · exact h
    · rw [Array.getElem?_eq_none h, Array.getElem?_eq_getElem (h1 b hb)] at h2; cases h2
  dom F w b h hb := h.1 b hb

theorem bagH.of {α : Type} {A : α → List HP} {p : α → Prop} {B : Bs} {w : World} {L : List HP} {x : α} (h : St B (A x ++ L) w) (hp : p x) : St B (bagH A p :: L) w := by
  obtain ⟨F, hF, hs⟩ := h.own
  obtain ⟨F1, F2, h1, h2, h3, h4, h5⟩ := hs.split
  exact ⟨h.below, h.frz, F, hF, F1, F2, h1, h2, h3, ⟨fun b hb => (hF b (h1 b hb)).2, x, hp, h4⟩, h5⟩

theorem St.bag {α : Type} {A : α → List HP} {p : α → Prop} {B : Bs} {w : World} {L L' : List HP} (h : St B L w) (hat : At (bagH A p) L L') : ∃ x, p x ∧ St B (A x ++ L') w := by
  obtain ⟨F, hF, hs⟩ := h.own
  obtain ⟨F1, F2, h1, h2, h3, ⟨_, x, hp, h4⟩, h5⟩ := hs.pull hat
  exact ⟨x, hp, h.below, h.frz, F, hF, (h4.append h5 h3).mono (fun b hb => hb.elim (h1 b) (h2 b))⟩

theorem bagH.rd {α : Type} {A : α → List HP} {p : α → Prop} {w : World} (h : (bagH A p).rd w) : ∃ x, p x ∧ ∃ F, Sep (A x) F w :=
  let ⟨F, _, x, hp, hs⟩ := h
  ⟨x, hp, F, hs⟩

noncomputable def only (F : Nat → Prop) (w : World) : World :=
  { w with heap := w.heap.mapIdx fun i o => @ite _ (F i) (Classical.propDecidable _) o dead }

theorem only_in {F : Nat → Prop} {w : World} {b : Nat} (h : F b) : (only F w).heap[b]? = w.heap[b]? := by
  classical
  simp only [only, Array.getElem?_mapIdx]
  cases hw : w.heap[b]? with
  | none => rfl
  | some o => simp [h]
theorem only_live {F : Nat → Prop} {w : World} {b : Nat} (h : live (only F w) b) : F b := by
  classical
  obtain ⟨o, h1, h2⟩ := h
  simp only [only, Array.getElem?_mapIdx] at h1
  cases hw : w.heap[b]? with
  | none => rw [hw] at h1; cases h1
  | some o' =>
    rw [hw] at h1
    simp only [Option.map_some, Option.some.injEq] at h1
    by_cases hf : F b
    · exact hf
    · rw [if_neg hf] at h1; exact absurd h1.symm h2
theorem only_frz (F : Nat → Prop) (w : World) : Frz (only F w) w := fun b o h1 h2 => by
  have hf := only_live ⟨o, h1, h2⟩
  rw [only_in hf] at h1
  exact h1

def rdH (R : World → Prop) : HP where
  holds F w := (∀ b, F b → b < w.heap.size) ∧ ∃ g : World, (∀ b, live g b → F b) ∧ Frz g w ∧ R g
  stable F w w' h hF := by
    obtain ⟨h1, g, hl, hz, hr⟩ := h
    refine ⟨fun b hb => ?_, g, hl, fun b o ho hd => ?_, hr⟩
    · have h2 := hF b hb
      rcases Nat.lt_or_ge b w'.heap.size with h | h
      · exact h
      · rw [Array.getElem?_eq_none h, Array.getElem?_eq_getElem (h1 b hb)] at h2; cases h2
    · rw [hF b (hl b ⟨o, ho, hd⟩)]; exact hz b o ho hd
  dom F w b h hb := h.1 b hb

def Stays (R : World → Prop) : Prop := ∀ g w, Frz g w → R g → R w

theorem rdH.rd {R : World → Prop} (hm : Stays R) {w : World} (h : (rdH R).rd w) : R w :=
  let ⟨_, _, g, _, hz, hr⟩ := h
  hm g w hz hr

theorem Sep.all {w : World} : ∀ {L : List HP} {F : Nat → Prop}, Sep L F w → ∀ A ∈ L, ∃ F', (∀ b, F' b → F b) ∧ A.holds F' w
  | A :: L, F, ⟨F1, F2, h1, h2, _, h4, h5⟩, B, hB => by
    rcases List.mem_cons.1 hB with rfl | hB
    · exact ⟨F1, h1, h4⟩
    · obtain ⟨F', k1, k2⟩ := Sep.all h5 B hB
      exact ⟨F', fun b hb => h2 b (k1 b hb), k2⟩

theorem rdH.of {R : World → Prop} {B : Bs} {w : World} {L1 L : List HP} (h : St B (L1 ++ L) w) (hr : ∀ g, (∀ A ∈ L1, A.rd g) → R g) : St B (rdH R :: L) w := by
  obtain ⟨F, hF, hs⟩ := h.own
  obtain ⟨F1, F2, h1, h2, h3, h4, h5⟩ := hs.split
  refine ⟨h.below, h.frz, F, hF, F1, F2, h1, h2, h3, ⟨fun b hb => (hF b (h1 b hb)).2, only F1 w, fun b => only_live, only_frz F1 w, hr _ fun A hA => ?_⟩, h5⟩
  obtain ⟨F', k1, k2⟩ := h4.all A hA
  exact ⟨F', A.stable _ _ _ k2 fun b hb => only_in (k1 b hb)⟩
end Go.Proofs.YtkcjkbnbblpomaaGreatDoor
