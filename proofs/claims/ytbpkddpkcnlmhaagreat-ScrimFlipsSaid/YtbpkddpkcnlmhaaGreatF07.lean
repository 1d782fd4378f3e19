/- Rows of one's own at known places: parts of them, copies into them, room, and whether two lie apart. Rows of one's own: cleared in part. From the form's reading of plain arguments to what they are. Layer 4: names with values, of both kinds. Layer 2: digits and the numbers that they are; which texts may be what: in plain words. Layer 2: which texts may be what, in plain words. -/
import Derived.Test.YtbpkddpkcnlmhaaGreatF06
import Derived.Lib.Overlaps
import Derived.Lib.AppendZerosOnto
import Derived.Test.YtbpkddpkcnlmhaaGreatF05
import Derived.Test.YtbpkddpkcnlmhaaGreatF04
import Derived.Lib.ItoaNum
set_option linter.all false
namespace Go.Proofs.YtbpkddpkcnlmhaaGreat
variable {df : List Deferred}
open Go.RowKit
theorem St.two {B : Bs} {w : World} {L L' L'' : List HP} {b b' : Nat} {vs vs' : List Value} {E E' : TypeId} (h : St B L w) (h1 : At (pts b vs E) L L') (h2 : At (pts b' vs' E') L' L'') : b ≠ b' := by
 obtain ⟨F, _, hS⟩ := h.own
 obtain ⟨F1, F2, _, _, h3, h4, h5⟩ := hS.pull h1
 obtain ⟨G1, G2, g1, _, _, g4, _⟩ := h5.pull h2
 intro e
 subst e
 exact h3 b h4.1 (g1 b g4.1)
section
variable {P : Program} {a : Act} {w w' : World} {w0 : Bs} {n : Nat} {l : List (Nat × Value)} {L L' : List HP}
 {dst : Option Nat} {R : Value → World → Prop} {ty : TypeId} {pos : String} {af : Array Edge} {g : Option (Nat × Bool)}
theorem g_slFc {x y : Operand} {t E k m c b o : Nat} {p : Int} {kk : IntKind} (i : Nat) (hk : Kn df n a l) (h : R (.slice (some ⟨b, o + i * (k + 1), none⟩) (m - i) (c - i)) w)
  (hx : ev l x = some (.slice (some ⟨b, o, none⟩) m c) := by rfl) (hy : ev l y = some (.int kk p) := by rfl) (ht : elOf P t = some E) (hE : szOf P E = some (k + 1)) (hp : p = (i : Int)) (him : i ≤ m) (hc : i < c) :
  Gives P ⟨dst, .slice t x (some y) none none, ty, pos, af, g⟩ a w R := by
 subst hp
 refine givesv (v := .slice (some ⟨b, o + i * (k + 1), none⟩) (m - i) (c - i)) ?_ h
 have h1 : ¬ c = i := by omega
 simp [execOp, hk.eval hx, hk.eval hy, Instr.sliceAt, Instr.slice, run_underlying (elOf_und ht), Instr.sliceBounds, Instr.sliceBound, asIntOf, him, szOf_run hE, h1, addr_add]
theorem g_slTc {x y : Operand} {t E k m c b o : Nat} {p : Int} {kk : IntKind} (j : Nat) (hk : Kn df n a l) (h : R (.slice (some ⟨b, o, none⟩) j c) w)
  (hx : ev l x = some (.slice (some ⟨b, o, none⟩) m c) := by rfl) (hy : ev l y = some (.int kk p) := by rfl) (ht : elOf P t = some E) (hE : szOf P E = some (k + 1)) (hp : p = (j : Int)) (hj : j ≤ c) :
  Gives P ⟨dst, .slice t x none (some y) none, ty, pos, af, g⟩ a w R := by
 subst hp
 refine givesv (v := .slice (some ⟨b, o, none⟩) j c) ?_ h
 have e : (⟨b, o, none⟩ : Addr).add 0 = ⟨b, o, none⟩ := rfl
 by_cases h0 : c = 0
 ·have hj0 : j = 0 := by omega
  subst h0 hj0
  simp [execOp, hk.eval hx, hk.eval hy, Instr.sliceAt, Instr.slice, run_underlying (elOf_und ht), Instr.sliceBounds, Instr.sliceBound, asIntOf, szOf_run hE]
 simp [execOp, hk.eval hx, hk.eval hy, Instr.sliceAt, Instr.slice, run_underlying (elOf_und ht), Instr.sliceBounds, Instr.sliceBound, asIntOf, hj, szOf_run hE, h0, e]
theorem g_capC {x : Operand} {t E m c : Nat} {ao : Option Addr} (hk : Kn df n a l) (h : R (.int .i64 c) w) (hx : ev l x = some (.slice ao m c) := by rfl) (ht : elOf P t = some E) :
  Gives P ⟨dst, .call { callee := .builtin .cap, args := #[x], argTypes := #[t] }, ty, pos, af, g⟩ a w R := by
 refine givesv (v := .int .i64 c) ?_ h
 simp [execOp, resolve, invoke, builtin, hk.eval hx, Builtin.cap_, run_underlying (elOf_und ht), goInt]
theorem g_copyC {x y : Operand} {t tx E k b o dn dc sb so sn sc q : Nat} {vs cs : List Value} {E' : TypeId} (hk : Kn df n a l) (hS : St w0 L w)
  (h : ∀ w', St w0 (pts b (splice vs o cs) E' :: L') w' → R (.int .i64 (q : Int)) w')
  (hx : ev l x = some (.slice (some ⟨b, o, none⟩) dn dc) := by rfl) (hy : ev l y = some (.slice (some ⟨sb, so, none⟩) sn sc) := by rfl)
  (hat : At (pts b vs E') L L' := by (repeat (first | exact At.here | apply At.there))) (ht : elOf P t = some E) (hE : szOf P E = some (k + 1)) (hq : q = Nat.min sn dn) (hl : cs.length = q * (k + 1))
  (hsrc : Cells sb so cs w) (h1 : ∀ u ∈ cs, u.oneCell' = true) (hfit : o + cs.length ≤ vs.length) :
  Gives P ⟨dst, .call { callee := .builtin .copy, args := #[x, y], argTypes := #[t, tx] }, ty, pos, af, g⟩ a w R := by
 obtain ⟨w', hr, hS'⟩ := run_storeCells_own (P := P) cs o 0 vs w hS hat h1 (by simpa using hfit)
 simp only [Nat.add_zero] at hS'
 refine givesv (v := .int .i64 (q : Int)) (w' := w') ?_ (h w' hS')
 have hf := run_firstCells_some (P := P) (w := w) (k + 1) q ⟨sb, so, none⟩ sn sc cs hl (fun j v hj => by rw [addr_add];exact hsrc j v hj)
 simp [execOp, resolve, invoke, builtin, hk.eval hx, hk.eval hy, Builtin.copy_, run_underlying (elOf_und ht), Builtin.lenOf, szOf_run hE, ← hq, hf, hr, goInt]
theorem g_appZ {x y : Operand} {t tx E k b o i c q by_ : Nat} {z : Value} {cs : List Value} {kn : IntKind} (hk : Kn df n a l) (hS : St w0 L w)
  (h : ∀ (w' : World) (b' c' : Nat) (us : List Value), i + q ≤ c' → c' ≤ maxLen → us.length = c' * (k + 1) → (∀ (j : Nat) (u : Value), cs[j]? = some u → us[j]? = some u) → (∀ u ∈ us, u.oneCell' = true) → St w0 (pts b' us E :: L) w' → R (.slice (some ⟨b', 0, none⟩) (i + q) c') w')
  (hx : ev l x = some (.slice (some ⟨b, o, none⟩) i c) := by rfl) {p : Int} (hy : ev l y = some (.int .i64 p) := by rfl) (hp : p = (q : Int)) (ht : elOf P t = some E) (htx : P.underlying tx = some (.int kn)) (hE : szOf P E = some (k + 1)) (hz : zeroOf P E = some z) (hzs : z.cells.size = k + 1) (hz1 : ∀ u ∈ z.cells.toList, u.oneCell' = true)
  (hby : ((P.info? E).map (·.bytes)).getD 0 = by_) (h0 : 0 < q) (hc : c < i + q) (hl : cs.length = i * (k + 1)) (hcs : Cells b o cs w) (h1 : ∀ u ∈ cs, u.oneCell' = true) (hbytes : (i + q) * by_ ≤ 140737488355328) (h63 : i + q ≤ maxLen) :
  Gives P ⟨dst, .call { callee := .builtin .append, args := #[x, y], argTypes := #[t, tx] }, ty, pos, af, g⟩ a w R := by
 subst hp
 obtain ⟨inf, hi, his, hiz⟩ := byOf_info hE hz
 have hib : inf.bytes = by_ := by rw [hi] at hby;exact hby
 have hold : (Builtin.firstCells inf.size i (.slice (some ⟨b, o, none⟩) i c)).run P w.drew = .ok cs.toArray w.drew := by
  rw [his]
  exact run_firstCells_some w.drew (k + 1) i ⟨b, o, none⟩ i c cs hl (fun j v hj => by rw [addr_add];exact hcs j v hj)
 have hqb : q * inf.bytes ≤ 281474976710656 := by
  rw [hib]
  have : q * by_ ≤ (i + q) * by_ := Nat.mul_le_mul_right _ (by omega)
  omega
 have hr := Lib.run_append_grow_zeros (P := P) w t tx ty E inf z .i64 kn (elOf_und ht) htx hi hiz (some ⟨b, o, none⟩) i c cs hold q h0 (by omega) hc (by simp only [maxLen] at h63;omega) hqb (growslice_fits hc (by rw [hib];exact hbytes))
 have hge := grownCap_ge w (i + q) c E
 have hcm := grownCap_le_maxLen w (i + q) c E h63
 generalize grownCap w (i + q) c E = gc at *
 have hal := hS.drew.alloc (cs ++ (Builtin.zeroCells z.cells q).toList ++ (Builtin.zeroCells z.cells (gc - (i + q))).toList) E
 have hww : (w.drew.alloc (.cells (cs ++ (Builtin.zeroCells z.cells q).toList ++ (Builtin.zeroCells z.cells (gc - (i + q))).toList).toArray E)) = w.drew.alloc (.cells (cs.toArray ++ Builtin.zeroCells z.cells q ++ Builtin.zeroCells z.cells (gc - (i + q))) E) := by
  congr 2
  apply Array.ext'
  simp
 rw [hww] at hal
 have hz2 : ∀ m u, u ∈ (Builtin.zeroCells z.cells m).toList → u.oneCell' = true := by
  intro m u hu
  simp only [Builtin.zeroCells] at hu
  simp at hu
  obtain ⟨q, hq, rfl⟩ := hu
  have hlt : q % z.cells.size < z.cells.size := Nat.mod_lt _ (by rw [hzs];omega)
  rw [getElem!_pos z.cells _ hlt]
  exact hz1 _ (by simp)
 refine givesv (v := .slice (some ⟨w.heap.size, 0, none⟩) (i + q) gc) (w' := _) ?_ (h _ _ gc _ hge hcm ?_ (fun j u hj => ?_) (fun u hu => ?_) hal)
 ·simp [execOp, resolve, invoke, builtin, hk.eval hx, hk.eval hy, hr]
 ·rw [List.length_append, List.length_append, hl, Array.length_toList, Array.length_toList, size_zeroCells, size_zeroCells, hzs, ← Nat.add_mul, ← Nat.add_mul]
  congr 1
  omega
 ·have hlt : j < cs.length := by
   rcases Nat.lt_or_ge j cs.length with h' | h'
   ·exact h'
   ·rw [List.getElem?_eq_none h'] at hj;cases hj
  rw [List.append_assoc, List.getElem?_append_left hlt]
  exact hj
 ·rw [List.mem_append, List.mem_append] at hu
  rcases hu with (hu | hu) | hu
  ·exact h1 u hu
  ·exact hz2 _ u hu
  ·exact hz2 _ u hu
theorem g_ovl {x y : Operand} {f : FuncId} {fn : Func} {ts : Array TypeId} {tS tR E k b o m c b' o' m' c' : Nat} {vs vs' : List Value} {E1 E2 : TypeId} {L'' : List HP} (hk : Kn df n a l) (hS : St w0 L w) (h : R (.bool false) w)
  (hf : P.funcs[f]? = some fn) (hname : (fn.name == "runtime.NumGoroutine") = false) (hb : fn.body.isNone = true) (hn : Extern.findNext fn = none) (he : Extern.find fn = some (Extern.SlicesOverlaps.overlaps #[tS, tS] #[tR]))
  (hx : ev l x = some (.slice (some ⟨b, o, none⟩) m c) := by rfl) (hy : ev l y = some (.slice (some ⟨b', o', none⟩) m' c') := by rfl)
  (hat : At (pts b vs E1) L L' := by (repeat (first | exact At.here | apply At.there))) (hat2 : At (pts b' vs' E2) L' L'' := by (repeat (first | exact At.here | apply At.there)))
  (ht : elOf P tS = some E) (hE : szOf P E = some (k + 1)) (hne : vs' ≠ []) :
  Gives P ⟨dst, .call { callee := .value (.func f), args := #[x, y], argTypes := ts }, ty, pos, af, g⟩ a w R := by
 have hb1 := pts.block (hS.rd hat)
 have hb2 := pts.block ((hS.sub hat.rest).rd hat2)
 have hbb := hS.two hat hat2
 have hl' : vs'.toArray.size ≠ 0 := by
  rw [List.size_toArray]
  intro e
  exact hne (List.eq_nil_of_length_eq_zero e)
 have hr := Lib.run_overlaps_apart (P := P) w tS tR E (elOf_und ht) (k + 1) (szOf_run hE) ⟨b, o, none⟩ ⟨b', o', none⟩ m c m' c' hbb E1 E2 vs.toArray.size vs'.toArray.size (by simp [World.shape?, hb1]) (by simp [World.shape?, hb2]) hl' (by simp [World.frozen?, hb1]) (by simp [World.frozen?, hb1])
 refine givesv (v := .bool false) ?_ h
 have e : (execOp a.eval ⟨dst, .call { callee := .value (.func f), args := #[x, y], argTypes := ts }, ty, pos, af, g⟩) = callFunc f #[.slice (some ⟨b, o, none⟩) m c, .slice (some ⟨b', o', none⟩) m' c'] := by
  have e1 : (#[] ++ (#[x, y] : Array Operand).map a.eval ++ #[] : Array Value) = #[.slice (some ⟨b, o, none⟩) m c, .slice (some ⟨b', o', none⟩) m' c'] := by simp [hk.eval hx, hk.eval hy]
  rw [← e1]
  rfl
 rw [e, run_callFunc_extern hf hname hb hn he, hr]
 rfl
end
section
variable {α : Type}
def insF (xs : List α) (i : Nat) (e : α) : List α := xs.take i ++ e :: xs.drop i
theorem insF_len {xs : List α} {i : Nat} {e : α} (h : i ≤ xs.length) : (insF xs i e).length = xs.length + 1 := by
 unfold insF
 rw [List.length_append, List.length_take, List.length_cons, List.length_drop]
 omega
variable [Enc α]
theorem enc_ins (xs : List α) (i : Nat) (e : α) (hi : i ≤ xs.length) (j : Nat) : (enc (insF xs i e))[j]? =
  if j < i * (Enc.k α + 1) then (enc xs)[j]? else if j < (i + 1) * (Enc.k α + 1) then (Enc.f e)[j - i * (Enc.k α + 1)]? else (enc xs)[j - (Enc.k α + 1)]? := by
 have hl : (enc (xs.take i)).length = i * (Enc.k α + 1) := by rw [enc_len, List.length_take, Nat.min_eq_left hi]
 unfold insF
 rw [enc_append, enc_cons]
 by_cases h1 : j < i * (Enc.k α + 1)
 ·rw [if_pos h1, List.getElem?_append_left (by rw [hl];exact h1), ← enc_take, List.getElem?_take, if_pos h1]
 ·rw [if_neg h1, List.getElem?_append_right (by rw [hl];omega), hl]
  by_cases h2 : j < (i + 1) * (Enc.k α + 1)
  ·rw [if_pos h2, List.getElem?_append_left (by rw [Enc.len];rw [Nat.add_mul] at h2;omega)]
  ·rw [if_neg h2]
   rw [Nat.add_mul] at h2
   rw [List.getElem?_append_right (by rw [Enc.len];omega), Enc.len, ← enc_drop, List.getElem?_drop]
   congr 1
   omega
theorem St.toOwn {B : Bs} {w : World} {L L' : List HP} {b off cap : Nat} {vs : List Value} {E : TypeId} {ys : List α} (h : St B L w) (hat : At (pts b vs E) L L') (hn : ys.length ≤ cap) (hcm : cap ≤ maxLen) (hvl : off + cap * (Enc.k α + 1) ≤ vs.length)
  (hc : ∀ j u, (enc ys)[j]? = some u → vs[off + j]? = some u) : St B (OwT E ys (.slice (some ⟨b, off, none⟩) ys.length cap) :: L') w :=
 h.conv (As := [_]) hat (fun F hF => ⟨F, fun _ h => h, Sep.one ⟨by rw [enc_len], Nat.le_trans hn hcm, .inr ⟨b, off, cap, _, rfl, hF.1, hF.2.1, hF.2.2, hn, hcm, by simpa using hvl, fun j u hj => by simpa using hc j u hj⟩, fun c hc => (pts _ _ E).dom F _ c hF hc⟩⟩)
theorem enc_get_lt {xs : List α} {j : Nat} {u : Value} (h : (enc xs)[j]? = some u) : j < xs.length * (Enc.k α + 1) := by
 rw [← enc_len]
 rcases Nat.lt_or_ge j (enc xs).length with h' | h'
 ·exact h'
 ·rw [List.getElem?_eq_none h'] at h;cases h
theorem enc_single (e : α) : enc [e] = Enc.f e := by simp [enc]
theorem Cells.dropT {xs : List α} {vs : List Value} {b off : Nat} {E : TypeId} {w : World} (i : Nat) (hb : w.heap[b]? = some (.cells vs.toArray E (0, 0))) (hvs : ∀ (j : Nat) (u : Value), (enc xs)[j]? = some u → vs[off + j]? = some u) : Cells b (off + i * (Enc.k α + 1)) (enc (xs.drop i)) w := fun j u hj => by
 rw [cell_of_row w b _ _ E _ hb, List.getElem?_toArray, Nat.add_assoc]
 exact hvs _ u (by rw [← List.getElem?_drop, enc_drop];exact hj)
theorem Cells.takeT {xs : List α} {vs : List Value} {b off : Nat} {E : TypeId} {w : World} (i : Nat) (hb : w.heap[b]? = some (.cells vs.toArray E (0, 0))) (hvs : ∀ (j : Nat) (u : Value), (enc xs)[j]? = some u → vs[off + j]? = some u) : Cells b off (enc (xs.take i)) w := fun j u hj => by
 rw [cell_of_row w b _ _ E _ hb, List.getElem?_toArray]
 refine hvs _ u ?_
 rw [← enc_take, List.getElem?_take] at hj
 split at hj
 ·exact hj
 ·cases hj
theorem ins_cells {xs : List α} {i off : Nat} {e : α} {vs vs0 : List Value} (hi : i < xs.length) (hvl : off + (xs.length + 1) * (Enc.k α + 1) ≤ vs.length)
  (h0 : ∀ j u, (enc (xs.take i))[j]? = some u → vs[off + j]? = some u)
  (hvs0 : vs0 = splice (splice vs (off + (i + 1) * (Enc.k α + 1)) (enc (xs.drop i))) (off + i * (Enc.k α + 1)) (Enc.f e) ∨ vs0 = splice (splice vs (off + i * (Enc.k α + 1)) (Enc.f e)) (off + (i + 1) * (Enc.k α + 1)) (enc (xs.drop i))) :
  vs0.length = vs.length ∧ ∀ j u, (enc (insF xs i e))[j]? = some u → vs0[off + j]? = some u := by
 have hdl : (enc (xs.drop i)).length = (xs.length - i) * (Enc.k α + 1) := by rw [enc_len, List.length_drop]
 have e1 : xs.length * (Enc.k α + 1) = i * (Enc.k α + 1) + (xs.length - i) * (Enc.k α + 1) := by rw [← Nat.add_mul];congr 1;omega
 have e2 : (i + 1) * (Enc.k α + 1) = i * (Enc.k α + 1) + (Enc.k α + 1) := Nat.succ_mul _ _
 have e3 : (xs.length + 1) * (Enc.k α + 1) = xs.length * (Enc.k α + 1) + (Enc.k α + 1) := Nat.succ_mul _ _
 have hf := Enc.len e
 have hxl := enc_len xs
 have hins := fun j => enc_ins xs i e (by omega) j
 have htk : ∀ j, j < i * (Enc.k α + 1) → (enc (xs.take i))[j]? = (enc xs)[j]? := fun j hj => by rw [← enc_take, List.getElem?_take, if_pos hj]
 have hdr : ∀ j, (enc (xs.drop i))[j]? = (enc xs)[i * (Enc.k α + 1) + j]? := fun j => by rw [← enc_drop, List.getElem?_drop]
 generalize (xs.length - i) * (Enc.k α + 1) = D at *
 generalize (xs.length + 1) * (Enc.k α + 1) = N1 at *
 generalize xs.length * (Enc.k α + 1) = N at *
 generalize (i + 1) * (Enc.k α + 1) = I1 at *
 generalize hI : i * (Enc.k α + 1) = I at *
 generalize Enc.k α + 1 = K at *
 have hlen : ∀ (a b : List Value) (o : Nat), (splice a o b).length = a.length := fun a b o => splice_len b o a
 rcases hvs0 with rfl | rfl
 ·refine ⟨by rw [hlen, hlen], fun j u hj => ?_⟩
  rw [splice_get _ _ _ _ (by rw [hlen, hf];omega), splice_get _ _ _ _ (by rw [hdl];omega), hf, hdl]
  rw [hins] at hj
  by_cases h1 : j < I
  ·rw [if_pos h1] at hj
   rw [if_neg (by omega), if_neg (by omega)]
   exact h0 j u (by rw [htk j h1];exact hj)
  ·rw [if_neg h1] at hj
   by_cases h2 : j < I1
   ·rw [if_pos h2] at hj
    rw [if_pos (by omega), show off + j - (off + I) = j - I by omega]
    exact hj
   ·rw [if_neg h2] at hj
    have hlt : j - K < (enc xs).length := by
     rcases Nat.lt_or_ge (j - K) (enc xs).length with h' | h'
     ·exact h'
     ·rw [List.getElem?_eq_none h'] at hj;cases hj
    rw [if_neg (by omega), if_pos (by omega), hdr, show I + (off + j - (off + I1)) = j - K by omega]
    exact hj
 ·refine ⟨by rw [hlen, hlen], fun j u hj => ?_⟩
  rw [splice_get _ _ _ _ (by rw [hlen, hdl];omega), splice_get _ _ _ _ (by rw [hf];omega), hf, hdl]
  rw [hins] at hj
  by_cases h1 : j < I
  ·rw [if_pos h1] at hj
   rw [if_neg (by omega), if_neg (by omega)]
   exact h0 j u (by rw [htk j h1];exact hj)
  ·rw [if_neg h1] at hj
   by_cases h2 : j < I1
   ·rw [if_pos h2] at hj
    rw [if_neg (by omega), if_pos (by omega), show off + j - (off + I) = j - I by omega]
    exact hj
   ·rw [if_neg h2] at hj
    have hlt : j - K < (enc xs).length := by
     rcases Nat.lt_or_ge (j - K) (enc xs).length with h' | h'
     ·exact h'
     ·rw [List.getElem?_eq_none h'] at hj;cases hj
    rw [if_pos (by omega), hdr, show I + (off + j - (off + I1)) = j - K by omega]
    exact hj
end
end Go.Proofs.YtbpkddpkcnlmhaaGreat
namespace Go.Proofs.YtbpkddpkcnlmhaaGreat
variable {df : List Deferred}
open Go.RowKit
section
variable {P : Program} {a : Act} {w w' : World} {w0 : Bs} {n : Nat} {l : List (Nat × Value)} {L L' : List HP}
 {dst : Option Nat} {R : Value → World → Prop} {ty : TypeId} {pos : String} {af : Array Edge} {g : Option (Nat × Bool)}
theorem g_clear {x : Operand} {t E k b o m c : Nat} {z : Value} {vs : List Value} {E' : TypeId} (hk : Kn df n a l) (hS : St w0 L w)
  (h : ∀ (w' : World) (zs : List Value), zs.length = m * (k + 1) → St w0 (pts b (splice vs o zs) E' :: L') w' → R (.tuple #[]) w')
  (hx : ev l x = some (.slice (some ⟨b, o, none⟩) m c) := by rfl) (hat : At (pts b vs E') L L' := by (repeat (first | exact At.here | apply At.there))) (ht : elOf P t = some E) (hz : zeroOf P E = some z) (hzs : z.cells.size = k + 1) (hz1 : ∀ u ∈ z.cells.toList, u.oneCell' = true)
  (hfit : o + m * (k + 1) ≤ vs.length) : Gives P ⟨dst, .call { callee := .builtin .clear, args := #[x], argTypes := #[t] }, ty, pos, af, g⟩ a w R := by
 have hl : (Builtin.zeroCells z.cells m).toList.length = m * (k + 1) := by rw [Array.length_toList, size_zeroCells, hzs]
 have h1 : ∀ u ∈ (Builtin.zeroCells z.cells m).toList, u.oneCell' = true := by
  intro u hu
  simp only [Builtin.zeroCells] at hu
  simp at hu
  obtain ⟨q, hq, rfl⟩ := hu
  have hlt : q % z.cells.size < z.cells.size := Nat.mod_lt _ (by rw [hzs];omega)
  rw [getElem!_pos z.cells _ hlt]
  exact hz1 _ (by simp)
 obtain ⟨w', hr, hS'⟩ := run_storeCells_own (P := P) (Builtin.zeroCells z.cells m).toList o 0 vs w hS hat h1 (by rw [hl];simpa using hfit)
 simp only [Nat.add_zero] at hS'
 by_cases h0 : m = 0
 ·subst h0
  have e : (Builtin.zeroCells z.cells 0).toList = [] := List.eq_nil_of_length_eq_zero (by rw [hl, Nat.zero_mul])
  rw [e] at hS' hr
  have hw : w' = w := by
   have : (storeCells ⟨b, o, none⟩ [] 0).run P w = .ok () w := rfl
   rw [this] at hr
   injection hr with _ hr
   exact hr.symm
  subst hw
  refine givesv (v := .tuple #[]) (w' := w') ?_ (h w' [] (by simp) hS')
  simp [execOp, resolve, invoke, builtin, hk.eval hx, Builtin.clear_, run_underlying (elOf_und ht)]
 ·refine givesv (v := .tuple #[]) (w' := w') ?_ (h w' _ hl hS')
  simp [execOp, resolve, invoke, builtin, hk.eval hx, Builtin.clear_, run_underlying (elOf_und ht), zeroOf_run hz, hr]
end
def emp0 (v : Value) : HP where
 holds F _ := (∀ b, ¬ F b) ∧ ∃ ao, v = .slice ao 0 0
 stable := fun _ _ _ h _ => h
 dom := fun _ _ b h hb => absurd hb (h.1 b)
theorem emp0.get {v : Value} {w : World} (h : (emp0 v).rd w) : ∃ ao, v = .slice ao 0 0 := let ⟨_, h⟩ := h; h.2
section
variable {P : Program} {a : Act} {w w' : World} {w0 : Bs} {n : Nat} {l : List (Nat × Value)} {L L' : List HP}
 {dst : Option Nat} {R : Value → World → Prop} {ty : TypeId} {pos : String} {af : Array Edge} {g : Option (Nat × Bool)} {α : Type} [Enc α]
theorem v_bs0 {T E k : Nat} (hT : elOf P T = some E) (hE : szOf P E = some k) :
  Gives P ⟨dst, .buildSlice T 0 #[], ty, pos, af, g⟩ a w (fun v w' => St w [emp0 v] w') := by
 refine givesv (v := .slice (some ⟨w.heap.size, 0, none⟩) 0 0) (w' := w.alloc (.cells #[] E)) ?_ ?_
 ·simp only [execOp, Instr.buildSlice, Sem.run_bind, run_underlying (elOf_und hT), Result.andThen_ok, szOf_run hE]
  have e : (Array.map (fun (_ : Nat) => (default : Value)) (Array.range 0)) = #[] := Array.eq_empty_of_size_eq_zero (by simp)
  simp [Instr.fill, newRow, e]
 ·have h := (St.refl w).alloc [] E
  have := h.conv (As := [emp0 (.slice (some ⟨w.heap.size, 0, none⟩) 0 0)]) At.here (fun F _ => ⟨fun _ => False, fun _ h => h.elim, Sep.one ⟨fun _ h => h, _, rfl⟩⟩)
  exact this
theorem v_appN {x y : Operand} {t tx : TypeId} {E E' : Nat} {v y0 z : Value} (hk : Kn df n a l) (hv : SlT ([] : List α) v w)
  (hT : elOf P t = some E) (hTx : elOf P tx = some E') (hE : szOf P E = some (Enc.k α + 1)) (hz : zeroOf P E = some z) (hs : SlT ([] : List α) y0 w)
  (hx : ev l x = some v := by rfl) (hy : ev l y = some y0 := by rfl) :
  Gives P ⟨dst, .call { callee := .builtin .append, args := #[x, y], argTypes := #[t, tx] }, ty, pos, af, g⟩ a w (fun v' w' => v' = v ∧ St w [] w') := by
 obtain ⟨i, hi, his, hiz⟩ := byOf_info hE hz
 have hsrc : Src P (Enc.k α + 1) tx y0 0 [] w := Src.ofT hTx hs
 obtain ⟨ao, c, rfl, hao, _, _⟩ := hv.shape
 refine givesv (v := .slice ao 0 c) (w' := w) ?_ (same _ _)
 have hr : (Builtin.append_ #[t, tx] ty #[.slice ao 0 c, y0]).run P w = .ok (.slice ao 0 c) w := by
  cases ao with
  | none =>
   obtain ⟨_, rfl⟩ := hao rfl
   rcases hsrc.kind with ⟨e', hk'⟩ | hk' <;> simp [Builtin.append_, run_underlying (elOf_und hT), run_underlying hk', sizeOf, typeInfo, hi, hsrc.len, his, hsrc.cells]
  | some ad =>
   have hst : (storeCells (ad.add (0 * (Enc.k α + 1))) [] 0).run P w = .ok () w := rfl
   rcases hsrc.kind with ⟨e', hk'⟩ | hk' <;> simp [Builtin.append_, run_underlying (elOf_und hT), run_underlying hk', sizeOf, typeInfo, hi, hsrc.len, his, hsrc.cells, storeCells]
 simp [execOp, resolve, invoke, builtin, hk.eval hx, hk.eval hy, hr]
theorem v_app0 {x y : Operand} {t tx : TypeId} {E E' : Nat} {v y0 z : Value} {ys : List α} (hk : Kn df n a l) (hv : (emp0 v).rd w) (hne : ys ≠ [])
  (hT : elOf P t = some E) (hTx : elOf P tx = some E') (hE : szOf P E = some (Enc.k α + 1)) (hz : zeroOf P E = some z) (hzs : z.cells.size = Enc.k α + 1) (hs : SlT ys y0 w) {by_ : Nat} (hby : ((P.info? E).map (·.bytes)).getD 0 = by_) (hbytes : ys.length * by_ ≤ 140737488355328) (h63 : ys.length ≤ maxLen)
  (hx : ev l x = some v := by rfl) (hy : ev l y = some y0 := by rfl) :
  Gives P ⟨dst, .call { callee := .builtin .append, args := #[x, y], argTypes := #[t, tx] }, ty, pos, af, g⟩ a w (fun v' w' => St w [OwT E ys v'] w') := by
 obtain ⟨ao, rfl⟩ := emp0.get hv
 obtain ⟨i, hi, his, hiz⟩ := byOf_info hE hz
 have hib : i.bytes = by_ := by rw [hi] at hby;exact hby
 have hsrc : Src P (Enc.k α + 1) tx y0 ys.length (enc ys) w := Src.ofT hTx hs
 have hq : 0 < ys.length := List.length_pos_iff.2 hne
 have hsmall : 0 + ys.length ≤ 9223372036854775807 := by simp only [maxLen] at h63;omega
 have hold : (Builtin.firstCells i.size 0 (.slice ao 0 0)).run P w.drew = .ok (([] : List Value).toArray) w.drew := by
  cases ao with
  | none => simp [Builtin.firstCells]
  | some ad => exact run_firstCells_some w.drew i.size 0 ad 0 0 [] (by simp) (fun j v hj => by simp at hj)
 have hr := run_append_grow_src (P := P) w t tx ty E i z (elOf_und hT) hi hiz ao 0 0 [] hold y0 ys.length (enc ys) (by rw [his];exact hsrc) (by omega) (by omega) (growslice_fits (by omega) (by rw [hib, Nat.zero_add];exact hbytes))
 simp only [Nat.zero_add, List.nil_append] at hr
 refine givesv (v := .slice (some ⟨w.heap.size, 0, none⟩) ys.length (grownCap w ys.length 0 E)) (w' := w.drew.alloc (.cells ((enc ys).toArray ++ Builtin.zeroCells z.cells (grownCap w ys.length 0 E - ys.length)) E)) (by simp [execOp, resolve, invoke, builtin, hk.eval hx, hk.eval hy, hr]) ?_
 have hge := grownCap_ge w ys.length 0 E
 have hcm := grownCap_le_maxLen w ys.length 0 E h63
 have hlen : (enc ys).length = ys.length * (Enc.k α + 1) := enc_len ys
 generalize grownCap w ys.length 0 E = gc at *
 have hz0 : (Builtin.zeroCells z.cells (gc - ys.length)).toList.length = (gc - ys.length) * (Enc.k α + 1) := by rw [Array.length_toList, size_zeroCells, hzs]
 have hww : (w.drew.alloc (.cells (enc ys ++ (Builtin.zeroCells z.cells (gc - ys.length)).toList).toArray E)) = w.drew.alloc (.cells ((enc ys).toArray ++ Builtin.zeroCells z.cells (gc - ys.length)) E) := by
  congr 2
  apply Array.ext'
  simp
 have hal := (St.refl w).drew.alloc (enc ys ++ (Builtin.zeroCells z.cells (gc - ys.length)).toList) E
 rw [hww] at hal
 generalize (Builtin.zeroCells z.cells (gc - ys.length)).toList = zs at *
 have hgl : ys.length * (Enc.k α + 1) + (gc - ys.length) * (Enc.k α + 1) = gc * (Enc.k α + 1) := by rw [← Nat.add_mul];congr 1;omega
 exact hal.toOwn (ys := ys) (off := 0) (cap := gc) At.here hge hcm (by rw [List.length_append, hlen, hz0, Nat.zero_add, hgl];exact Nat.le_refl _) (fun j u hj => by
  have hlt := enc_get_lt hj
  rw [Nat.zero_add, List.getElem?_append_left (by rw [hlen];exact hlt)]
  exact hj)
end
section
variable {α : Type} (p : α → Bool)
structure Sieve (s ys : List α) (i j : Nat) : Prop where
 len : ys.length = s.length
 le : i < j
 head : ys.take i = (s.take j).filter (fun x => !p x)
 tail : ys.drop j = s.drop j
theorem Sieve.get {s ys : List α} {i j : Nat} (h : Sieve p s ys i j) (hj : j < s.length) : ys[j]? = some s[j] := by
 have := congrArg (·[0]?) h.tail
 simpa [List.getElem?_drop] using this.trans (by simp [List.getElem?_drop, List.getElem?_eq_getElem hj])
theorem Sieve.drop_ {s ys : List α} {i j : Nat} (h : Sieve p s ys i j) (hj : j < s.length) (hp : p s[j] = true) : Sieve p s ys i (j + 1) := by
 refine ⟨h.len, by have := h.le;omega, ?_, ?_⟩
 ·rw [h.head, List.take_add_one, List.getElem?_eq_getElem hj, List.filter_append]
  simp [hp]
 ·have := congrArg (List.drop 1) h.tail
  rwa [List.drop_drop, List.drop_drop] at this
theorem Sieve.keep {s ys : List α} {i j : Nat} (h : Sieve p s ys i j) (hj : j < s.length) (hp : p s[j] = false) : Sieve p s (ys.set i s[j]) (i + 1) (j + 1) := by
 have hl := h.len
 have hle := h.le
 refine ⟨by rw [List.length_set, hl], by omega, ?_, ?_⟩
 ·rw [List.take_add_one (l := s), List.getElem?_eq_getElem hj, List.filter_append, ← h.head]
  have e : (ys.set i s[j]).take (i + 1) = (ys.set i s[j]).take i ++ [s[j]] := by
   rw [List.take_add_one, List.getElem?_set_self (by omega)];rfl
  rw [e, List.take_set_of_le (Nat.le_refl i)]
  simp [hp]
 ·rw [List.drop_set_of_lt (by omega)]
  have := congrArg (List.drop 1) h.tail
  rwa [List.drop_drop, List.drop_drop] at this
theorem Sieve.start {s : List α} {k : Nat} (hk : k < s.length) (hn : ∀ i (h : i < s.length), i < k → p s[i] = false) (hp : p s[k] = true) : Sieve p s s k (k + 1) := by
 refine ⟨rfl, by omega, ?_, rfl⟩
 rw [List.take_add_one, List.getElem?_eq_getElem hk, List.filter_append]
 have : (s.take k).filter (fun x => !p x) = s.take k := by
  rw [List.filter_eq_self]
  intro x hx
  obtain ⟨i, hi, rfl⟩ := List.getElem_of_mem hx
  rw [List.getElem_take]
  rw [List.length_take] at hi
  simp [hn i (by omega) (by omega)]
 rw [this]
 simp [hp]
theorem filter_none {s : List α} (h : ∀ i (h : i < s.length), p s[i] = false) : s.filter (fun x => !p x) = s := by
 rw [List.filter_eq_self]
 intro x hx
 obtain ⟨i, hi, rfl⟩ := List.getElem_of_mem hx
 simp [h i hi]
end
section
variable {α : Type} [Enc α]
theorem St.toTake {B : Bs} {w : World} {L L' : List HP} {b off cap i : Nat} {vs zs : List Value} {E : TypeId} {ys : List α} (h : St B L w) (hat : At (pts b (splice vs (off + i * (Enc.k α + 1)) zs) E) L L') (hi : i ≤ ys.length) (hn : ys.length ≤ cap) (hcm : cap ≤ maxLen) (hvl : off + cap * (Enc.k α + 1) ≤ vs.length)
  (hz : zs.length = (ys.length - i) * (Enc.k α + 1)) (hc : ∀ (j : Nat) (u : Value), (enc ys)[j]? = some u → vs[off + j]? = some u) : St B (OwT E (ys.take i) (.slice (some ⟨b, off, none⟩) i cap) :: L') w := by
 have hti : (ys.take i).length = i := by rw [List.length_take, Nat.min_eq_left hi]
 have e1 : ys.length * (Enc.k α + 1) = i * (Enc.k α + 1) + (ys.length - i) * (Enc.k α + 1) := by rw [← Nat.add_mul];congr 1;omega
 have e2 : ys.length * (Enc.k α + 1) ≤ cap * (Enc.k α + 1) := Nat.mul_le_mul_right _ hn
 have := h.toOwn (ys := ys.take i) (off := off) (cap := cap) hat (by rw [hti];omega) hcm (by rw [splice_len];exact hvl) (fun j u hj => by
  have hlt := enc_get_lt hj
  rw [hti] at hlt
  rw [splice_get _ _ _ _ (by rw [hz];omega), if_neg (by omega)]
  rw [← enc_take, List.getElem?_take, if_pos hlt] at hj
  exact hc j u hj)
 rw [hti] at this
 exact this
end
section
variable {α : Type} [Enc α]
variable {P : Program} {a : Act} {w w' : World} {w0 : Bs} {n : Nat} {l : List (Nat × Value)} {L L' : List HP}
 {dst : Option Nat} {R : Value → World → Prop} {ty : TypeId} {pos : String} {af : Array Edge} {g : Option (Nat × Bool)}
end
end Go.Proofs.YtbpkddpkcnlmhaaGreat
namespace Go.Proofs.YtbpkddpkcnlmhaaGreat
open Go.RowKit
section
variable {α : Type} [Enc α] [EncI α] {P : Program} {W : World}
end
end Go.Proofs.YtbpkddpkcnlmhaaGreat
namespace Go.Proofs.YtbpkddpkcnlmhaaGreat
open Go.RowKit
set_option maxRecDepth 100000
attribute [local irreducible] Go.Code.wpIn Go.wpListIn Go.Calls Gives Go.Exit.then Go.Exit.inBlock Done ObxE
theorem cmpS_any (x y : ByteArray) (w0 : World) : Calls Tryz.prog 108 #[.string x, .string y] w0 (Ret fun v w => v = .int .i64 (cmpF x y) ∧ St w0 [] w) := by
 have nan : ∀ (z : ByteArray) (w0 : World), Calls Tryz.prog 122 #[.string z] w0 (Ret fun v w => v = .bool false ∧ St w0 [] w) := by
  intro z w0
  refine enter Tryz.func122 rfl Tryz.ntmps122 rfl (fun a hk => ?_);have hS := St.refl w0
  (repeat' (first|((first|refine wx1 ?_|refine wx2 ?_ ?_<;>intro hp|refine s_end hk ?_)<;>(clear hk a;intro a hk))|((first|refine wx3 ?_;intro w b|refine wx4 ?_;intro w|refine wx5 ?_;intro w v);clear hk hS a;intro hS a hk)|refine wx0 ?_|fail))
  all_goals first | exact done1 hk (h := ⟨rfl, hS.nil⟩) | (rename_i hp;exact absurd rfl hp)
 refine enter Tryz.func108 rfl Tryz.ntmps108 rfl (fun a hk => ?_);have hS := St.refl w0
 (repeat' (first|((first|refine wx1 ?_|refine wx2 ?_ ?_<;>intro hp|refine s_end hk ?_)<;>(clear hk a;intro a hk))|((first|refine wx3 ?_;intro w b|refine wx4 ?_;intro w|refine wx5 ?_;intro w v);clear hk hS a;intro hS a hk)|refine wx0 ?_|fail))
 refine sg hk (g_callO hk (hf := by kernel_rfl) (hc := nan x _) (h := ?_));clear hk a;rintro _ w ⟨rfl, hS1⟩ a hk;replace hS := hS.call0 hS1;clear hS1
 (repeat' (first|((first|refine wx1 ?_|refine wx2 ?_ ?_<;>intro hp|refine s_end hk ?_)<;>(clear hk a;intro a hk))|((first|refine wx3 ?_;intro w b|refine wx4 ?_;intro w|refine wx5 ?_;intro w v);clear hk hS a;intro hS a hk)|refine wx0 ?_|fail))
 refine sg hk (g_callO hk (hf := by kernel_rfl) (hc := nan y _) (h := ?_));clear hk a;rintro _ w ⟨rfl, hS1⟩ a hk;replace hS := hS.call0 hS1;clear hS1
 (repeat' (first|((first|refine wx1 ?_|refine wx2 ?_ ?_<;>intro hp|refine s_end hk ?_)<;>(clear hk a;intro a hk))|((first|refine wx3 ?_;intro w b|refine wx4 ?_;intro w|refine wx5 ?_;intro w v);clear hk hS a;intro hS a hk)|refine wx0 ?_|fail))
 ·have h1 : Lin.lt x y = true := by assumption
  exact done1 hk (h := ⟨by simp [cmpF, h1], hS.nil⟩)
 ·have h1 : Lin.lt x y = false := by assumption
  have h2 : Lin.lt y x = true := by assumption
  exact done1 hk (h := ⟨by simp [cmpF, h1, h2], hS.nil⟩)
 ·have h1 : Lin.lt x y = false := by assumption
  have h2 : Lin.lt y x = false := by assumption
  exact done1 hk (h := ⟨by simp [cmpF, h1, h2], hS.nil⟩)
abbrev PrI := ByteArray × Int
abbrev nmI (p : PrI) : ByteArray := p.1
theorem where1I_any (e : PrI) (k : ByteArray) (w0 : World) : Calls Tryz.prog 107 #[.agg (Enc.f e).toArray, .string k] w0 (Ret fun v w => v = .int .i64 (cmpF e.1 k) ∧ St w0 [] w) := by
 obtain ⟨n, x⟩ := e
 refine enter Tryz.func107 rfl Tryz.ntmps107 rfl (fun a hk => ?_);have hS := St.refl w0
 (repeat' (first|((first|refine wx1 ?_|refine wx2 ?_ ?_<;>intro hp|refine s_end hk ?_)<;>(clear hk a;intro a hk))|((first|refine wx3 ?_;intro w b|refine wx4 ?_;intro w|refine wx5 ?_;intro w v);clear hk hS a;intro hS a hk)|refine wx0 ?_|fail))
 refine sg hk (g_callO hk (hf := by kernel_rfl) (hc := cmpS_any _ _ _) (h := ?_));clear hk a;rintro _ w ⟨rfl, hS1⟩ a hk;replace hS := hS.call0 hS1;clear hS1
 (repeat' (first|((first|refine wx1 ?_|refine wx2 ?_ ?_<;>intro hp|refine s_end hk ?_)<;>(clear hk a;intro a hk))|((first|refine wx3 ?_;intro w b|refine wx4 ?_;intro w|refine wx5 ?_;intro w v);clear hk hS a;intro hS a hk)|refine wx0 ?_|fail))
 exact done1 hk (h := ⟨rfl, hS.nil⟩)
set_option maxHeartbeats 1000000 in
theorem bsI_any (es : List PrI) (x : ByteArray) (v : Value) (w0 : World) (hv : SlT es v w0) (hl : es.length ≤ 1000) (hr : Rises nmI es) :
  Calls Tryz.prog 106 #[v, .string x, .func (.func 107) #[] #[]] w0
  (Ret fun v w => ∃ (n : Nat) (f : Bool), v = .tuple #[.int .i64 n, .bool f] ∧ Found nmI es x n f ∧ St w0 [] w) := by
 have hpw := List.pairwise_iff_getElem.1 hr
 refine enter Tryz.func106 rfl Tryz.ntmps106 rfl (fun a hk => ?_);have hS := St.refl w0
 (repeat' (first|((first|refine wx1 ?_|refine wx2 ?_ ?_<;>intro hp|refine s_end hk ?_)<;>(clear hk a;intro a hk))|((first|refine wx3 ?_;intro w b|refine wx4 ?_;intro w|refine wx5 ?_;intro w v);clear hk hS a;intro hS a hk)|refine wx0 ?_|fail))
 replace hk := Kn.kp [0, 1, 2, 8, 9, 10] hk
 refine wp_while (fun x : Nat × Nat => [(9, .int .i64 (x.1 : Int)), (10, .int .i64 (x.2 : Int))]) (fun _ => []) (fun s => s.1 ≤ s.2 ∧ s.2 ≤ es.length ∧ (∀ i (h : i < es.length), i < s.1 → Lin.lt (nmI es[i]) x = true) ∧ (∀ i (h : i < es.length), s.2 ≤ i → Lin.lt (nmI es[i]) x = false))
  (fun x => x.2 - x.1) (0, es.length) hk skx hS ⟨by simp only;omega, by simp only;omega, fun i _ h => by simp only at h;omega, fun i _ h => by simp only at h;omega⟩ ?_
 clear hk hS a
 rintro ⟨i, j⟩ a w hk hS ⟨h1, h2, h3, h4⟩
 simp only at hk h1 h2 h3 h4
 (repeat' (first|((first|refine wx1 ?_|refine wx2 ?_ ?_<;>intro hp|refine s_end hk ?_)<;>(clear hk a;intro a hk))|((first|refine wx3 ?_;intro w b|refine wx4 ?_;intro w|refine wx5 ?_;intro w v);clear hk hS a;intro hS a hk)|refine wx0 ?_|fail))
 ·have e : ((i : Int) + j) / 2 = ((i + j) / 2 : Nat) := by omega
  simp only [e, Int.toNat_natCast] at hk
  refine sg hk (g_callvO hk (hf := by kernel_rfl) (hc := where1I_any _ x _) (h := ?_));clear hk a;rintro _ w ⟨rfl, hS1⟩ a hk;replace hS := hS.call0 hS1;clear hS1
  by_cases hc : Lin.lt (nmI (es[(i + j) / 2]'(by omega))) x = true
  ·rw [show cmpF (nmI (es[(i + j) / 2]'(by omega))) x = -1 from cmp_lt hc] at hk
   (repeat' (first|((first|refine wx1 ?_|refine wx2 ?_ ?_<;>intro hp|refine s_end hk ?_)<;>(clear hk a;intro a hk))|((first|refine wx3 ?_;intro w b|refine wx4 ?_;intro w|refine wx5 ?_;intro w v);clear hk hS a;intro hS a hk)|refine wx0 ?_|fail))
   refine ⟨((i + j) / 2 + 1, j), by simp only;omega, hk.subD (by (repeat (first | exact trivial | refine ⟨rfl, ?_⟩ | refine ⟨trivial, ?_⟩));fail_if_success focus skip), hS, by simp only;omega, h2, fun k h hk2 => ?_, h4⟩
   simp only at hk2
   by_cases e : k = (i + j) / 2
   ·subst e;exact hc
   ·exact Lin.tr (hpw k ((i + j) / 2) (by omega) (by omega) (by omega)) hc
  ·have hn : ¬ cmpF (nmI (es[(i + j) / 2]'(by omega))) x < 0 := cmp_ge (by simpa using hc)
   (repeat' (first|((first|refine wx1 ?_|refine wx2 ?_ ?_<;>intro hp|refine s_end hk ?_)<;>(clear hk a;intro a hk))|((first|refine wx3 ?_;intro w b|refine wx4 ?_;intro w|refine wx5 ?_;intro w v);clear hk hS a;intro hS a hk)|refine wx0 ?_|fail))
   refine ⟨(i, (i + j) / 2), by simp only;omega, hk.subD (by (repeat (first | exact trivial | refine ⟨rfl, ?_⟩ | refine ⟨trivial, ?_⟩));fail_if_success focus skip), hS, by simp only;omega, by simp only;omega, h3, fun k h hk2 => ?_⟩
   simp only at hk2
   by_cases e : k = (i + j) / 2
   ·subst e;simpa using hc
   ·cases hb : Lin.lt (nmI es[k]) x with
    | false => rfl
    | true => exact absurd (Lin.tr (hpw ((i + j) / 2) k (by omega) h (by omega)) hb) hc
 ·refine sg hk (g_callvO hk (hf := by kernel_rfl) (hc := where1I_any _ x _) (h := ?_));clear hk a;rintro _ w ⟨rfl, hS1⟩ a hk;replace hS := hS.call0 hS1;clear hS1
  have hij : i = j := by omega
  subst hij
  (repeat' (first|((first|refine wx1 ?_|refine wx2 ?_ ?_<;>intro hp|refine s_end hk ?_)<;>(clear hk a;intro a hk))|((first|refine wx3 ?_;intro w b|refine wx4 ?_;intro w|refine wx5 ?_;intro w v);clear hk hS a;intro hS a hk)|refine wx0 ?_|fail))
  ·refine done2 hk (h := ⟨i, _, rfl, ⟨by omega, h3, h4, ?_⟩, hS.nil⟩)
   have hz : cmpF (nmI (es[i]'(by omega))) x = 0 := by assumption
   simp only [true_iff]
   exact ⟨by omega, cmp_eq.1 hz⟩
  ·refine done2 hk (h := ⟨i, _, rfl, ⟨by omega, h3, h4, ?_⟩, hS.nil⟩)
   have hz : ¬ cmpF (nmI (es[i]'(by omega))) x = 0 := by assumption
   constructor
   ·intro h;cases h
   ·rintro ⟨_, h⟩;exact absurd (cmp_eq.2 h) hz
 ·have hij : i = j := by omega
  subst hij
  refine done2 hk (h := ⟨i, _, rfl, ⟨by omega, h3, h4, ?_⟩, hS.nil⟩)
  constructor
  ·intro h;cases h
  ·rintro ⟨h, _⟩;omega
theorem whereI_any (s : List PrI) (k : ByteArray) (v : Value) (w0 : World) (hv : SlT s v w0) (hl : s.length ≤ 1000) (hr : Rises nmI s) :
  Calls Tryz.prog 88 #[v, .string k] w0 (Ret fun v w => ∃ (n : Nat) (f : Bool), v = .tuple #[.int .i64 n, .bool f] ∧ Found nmI s k n f ∧ St w0 [] w) := by
 refine enter Tryz.func88 rfl Tryz.ntmps88 rfl (fun a hk => ?_);have hS := St.refl w0
 (repeat' (first|((first|refine wx1 ?_|refine wx2 ?_ ?_<;>intro hp|refine s_end hk ?_)<;>(clear hk a;intro a hk))|((first|refine wx3 ?_;intro w b|refine wx4 ?_;intro w|refine wx5 ?_;intro w v);clear hk hS a;intro hS a hk)|refine wx0 ?_|fail))
 refine sg hk (g_callO hk (hf := by kernel_rfl) (hc := bsI_any s k v _ (hS.rdT hv) hl hr) (h := ?_));clear hk a;rintro vr w ⟨n, f, rfl, hF, hS1⟩ a hk;replace hS := hS.call hS1;clear hS1
 (repeat' (first|((first|refine wx1 ?_|refine wx2 ?_ ?_<;>intro hp|refine s_end hk ?_)<;>(clear hk a;intro a hk))|((first|refine wx3 ?_;intro w b|refine wx4 ?_;intro w|refine wx5 ?_;intro w v);clear hk hS a;intro hS a hk)|refine wx0 ?_|fail))
 exact done2 hk (h := ⟨n, f, rfl, hF, hS.nil⟩)
set_option maxHeartbeats 1000000 in
theorem insI_any {B : Bs} {w : World} {L : List HP} {xs : List PrI} {e : PrI} {i : Nat} {v ve : Value} (hS : St B (OwT 124 xs v :: OwT 124 [e] ve :: L) w) (hi : i ≤ xs.length) (hl : xs.length ≤ 1000) :
  Calls Tryz.prog 89 #[v, .int .i64 (i : Int), ve] w (Ret fun v' w' => St B (OwT 124 (insF xs i e) v' :: L) w') := by
 have hx : SlT xs v w := OwT.rd (hS.rd (A := OwT 124 xs v) atx)
 have he : SlT [e] ve w := OwT.rd (hS.rd (A := OwT 124 [e] ve) atx)
 have h1l : ([e] : List PrI).length = 1 := rfl
 by_cases hin : i = xs.length
 ·subst hin
  refine enter Tryz.func89 rfl Tryz.ntmps89 rfl (fun a hk => ?_)
  (repeat' (first|((first|refine wx1 ?_|refine wx2 ?_ ?_<;>intro hp|refine s_end hk ?_)<;>(clear hk a;intro a hk))|((first|refine wx3 ?_;intro w b|refine wx4 ?_;intro w|refine wx5 ?_;intro w v);clear hk hS a;intro hS a hk)|refine wx0 ?_|fail))
  refine sg hk (g_partF (i := xs.length) hk ?_ (ht := eT rfl) (hs := (by first | exact St.rdT hS (by assumption) | exact OwT.rd (hS.rd (A := OwT _ _ _) atx) | assumption)) (hE := zT rfl) (hi := by omega));clear hk a;intro vq hvq a hk
  (repeat' (first|((first|refine wx1 ?_|refine wx2 ?_ ?_<;>intro hp|refine s_end hk ?_)<;>(clear hk a;intro a hk))|((first|refine wx3 ?_;intro w b|refine wx4 ?_;intro w|refine wx5 ?_;intro w v);clear hk hS a;intro hS a hk)|refine wx0 ?_|fail))
  refine done1 hk (h := ?_)
  have e1 : insF xs xs.length e = xs ++ [e] := by simp [insF]
  rw [e1]
  exact hS
 ·obtain ⟨b, off, cap, rfl, _, _⟩ := hS.ownCells (E := 124) (xs := xs) At.here (by intro h;subst h;simp at hi hin;exact hin hi)
  obtain ⟨b', off', cap', rfl, _, _⟩ := hS.ownCells (E := 124) (xs := [e]) (At.there At.here) (by simp)
  obtain ⟨vs, hS1, hvl, hnc, hcm, hcl, hvs⟩ := hS.ownPts At.here
  obtain ⟨vs', hS2, hvl', hnc', hcm', hcl', hvs'⟩ := hS1.ownPts (At.there At.here)
  replace hS := hS2
  have hvn : vs ≠ [] := by
   intro h
   rw [h, List.length_nil] at hvl
   have := Nat.le_mul_of_pos_right cap (show 0 < Enc.k PrI + 1 by omega)
   omega
  clear hS1 hS2
  by_cases hc : xs.length + 1 ≤ cap
  ·refine enter Tryz.func89 rfl Tryz.ntmps89 rfl (fun a hk => ?_)
   (repeat' (first|((first|refine wx1 ?_|refine wx2 ?_ ?_<;>intro hp|refine s_end hk ?_)<;>(clear hk a;intro a hk))|((first|refine wx3 ?_;intro w b|refine wx4 ?_;intro w|refine wx5 ?_;intro w v);clear hk hS a;intro hS a hk)|refine wx0 ?_|fail))
   refine sg hk (g_partF (i := i) hk ?_ (ht := eT rfl) (hs := (by first | exact St.rdT hS (by assumption) | exact OwT.rd (hS.rd (A := OwT _ _ _) atx) | assumption)) (hE := zT rfl) (hi := by omega));clear hk a;intro vq hvq a hk
   (repeat' (first|((first|refine wx1 ?_|refine wx2 ?_ ?_<;>intro hp|refine s_end hk ?_)<;>(clear hk a;intro a hk))|((first|refine wx3 ?_;intro w b|refine wx4 ?_;intro w|refine wx5 ?_;intro w v);clear hk hS a;intro hS a hk)|refine wx0 ?_|fail))
   refine sg hk (g_capC hk ?_ (ht := eT rfl));clear hk a;intro a hk
   (repeat' (first|((first|refine wx1 ?_|refine wx2 ?_ ?_<;>intro hp|refine s_end hk ?_)<;>(clear hk a;intro a hk))|((first|refine wx3 ?_;intro w b|refine wx4 ?_;intro w|refine wx5 ?_;intro w v);clear hk hS a;intro hS a hk)|refine wx0 ?_|fail))
   refine sg hk (g_slTc (xs.length + 1) (k := Enc.k PrI) hk ?_ (ht := eT rfl) (hE := zT rfl) (hp := by omega) (hj := by omega));clear hk a;intro a hk
   (repeat' (first|((first|refine wx1 ?_|refine wx2 ?_ ?_<;>intro hp|refine s_end hk ?_)<;>(clear hk a;intro a hk))|((first|refine wx3 ?_;intro w b|refine wx4 ?_;intro w|refine wx5 ?_;intro w v);clear hk hS a;intro hS a hk)|refine wx0 ?_|fail))
   refine sg hk (g_slFc (i + 1) (k := Enc.k PrI) hk ?_ (ht := eT rfl) (hE := zT rfl) (hp := by omega) (him := by omega) (hc := by omega));clear hk a;intro a hk
   (repeat' (first|((first|refine wx1 ?_|refine wx2 ?_ ?_<;>intro hp|refine s_end hk ?_)<;>(clear hk a;intro a hk))|((first|refine wx3 ?_;intro w b|refine wx4 ?_;intro w|refine wx5 ?_;intro w v);clear hk hS a;intro hS a hk)|refine wx0 ?_|fail))
   refine sg hk (g_ovl hk hS ?_ (hf := Tryz.func109) (hname := by kernel_rfl) (hb := by kernel_rfl) (hn := by kernel_rfl) (he := by kernel_rfl) (ht := eT rfl) (hE := zT rfl) (tS := 60) (tR := 4) (hne := hvn));clear hk a;intro a hk
   (repeat' (first|((first|refine wx1 ?_|refine wx2 ?_ ?_<;>intro hp|refine s_end hk ?_)<;>(clear hk a;intro a hk))|((first|refine wx3 ?_;intro w b|refine wx4 ?_;intro w|refine wx5 ?_;intro w v);clear hk hS a;intro hS a hk)|refine wx0 ?_|fail))
   replace hS := hS.sub (.cons (.there .here) (.cons .here .refl))
   refine wp_drawnU1 9 mixed (by kernel_rfl) hk hS ?_;clear hk hS a
   (repeat' (first|(show ObxE _ _ _ _ _ _ _ _ _ (_::_) _ _ _;first|refine ox1 ?_|refine ox2 ?_ ?_<;>intro hp)|fail))
   refine' obe_val (fun us a w hk hd hS => ?_) ?_;rotate_left;focus (have hk := Kn.vw hk vwx;exact g_slFc (i + 1) (k := Enc.k PrI) hk (same _ _) (ht := eT rfl) (hE := zT rfl) (hp := by omega) (him := by omega) (hc := by omega))
   (repeat' (first|(show ObxE _ _ _ _ _ _ _ _ _ (_::_) _ _ _;first|refine ox1 ?_|refine ox2 ?_ ?_<;>intro hp)|fail))
   refine' obe_val (fun us a w hk hd hS => ?_) ?_;rotate_left;focus (have hk := Kn.vw hk vwx;exact g_slFc i (k := Enc.k PrI) hk (same _ _) (ht := eT rfl) (hE := zT rfl) (hp := by omega) (him := by omega) (hc := by omega))
   (repeat' (first|(show ObxE _ _ _ _ _ _ _ _ _ (_::_) _ _ _;first|refine ox1 ?_|refine ox2 ?_ ?_<;>intro hp)|fail))
   refine' obe_upd (pts b vs 124) (V := fun _ => pts b (splice vs (off + (i + 1) * (Enc.k PrI + 1)) (enc (xs.drop i))) 124) (fun us a w X hk hd hS hL => ?_) ?_
   ·have hk := Kn.vw hk vwx
    exact g_copyC (E := 124) (k := Enc.k PrI) hk hS (fun w' hS' => hS') (q := xs.length - i) (ht := eT rfl) (hE := zT rfl) (hq := by simp only [Nat.min_def];split <;> omega) (hl := by rw [enc_len, List.length_drop]) (hsrc := Cells.dropT i (pts.block (hS.rd At.here)) hvs) (h1 := enc_one _)
     (hfit := by rw [enc_len, List.length_drop, Nat.add_assoc, ← Nat.add_mul];exact Nat.le_trans (Nat.add_le_add_left (Nat.mul_le_mul_right _ (by omega)) _) hvl)
   (repeat' (first|(show ObxE _ _ _ _ _ _ _ _ _ (_::_) _ _ _;first|refine ox1 ?_|refine ox2 ?_ ?_<;>intro hp)|fail))
   refine obe_nil ⟨rfl, ?_⟩;intro us a w hk hS
   simp only [resE] at hS
   (repeat' (first|((first|refine wx1 ?_|refine wx2 ?_ ?_<;>intro hp|refine s_end hk ?_)<;>(clear hk a;intro a hk))|((first|refine wx3 ?_;intro w b|refine wx4 ?_;intro w|refine wx5 ?_;intro w v);clear hk hS a;intro hS a hk)|refine wx0 ?_|fail))
   refine sg hk (g_slFc i (k := Enc.k PrI) hk ?_ (ht := eT rfl) (hE := zT rfl) (hp := by omega) (him := by omega) (hc := by omega));clear hk a;intro a hk
   (repeat' (first|((first|refine wx1 ?_|refine wx2 ?_ ?_<;>intro hp|refine s_end hk ?_)<;>(clear hk a;intro a hk))|((first|refine wx3 ?_;intro w b|refine wx4 ?_;intro w|refine wx5 ?_;intro w v);clear hk hS a;intro hS a hk)|refine wx0 ?_|fail))
   refine sg hk (g_copyC (E := 124) (k := Enc.k PrI) hk hS ?_ (q := 1) (ht := eT rfl) (hE := zT rfl) (hq := by simp only [Nat.min_def];split <;> omega) (hl := by rw [Enc.len, Nat.one_mul]) (hsrc := ?_) (h1 := Enc.one e) (hfit := ?_))
   rotate_left
   ·have := Cells.takeT (xs := [e]) 1 (pts.block (hS.rd (A := pts b' vs' 124) atx)) hvs'
    rwa [List.take_of_length_le (by rw [h1l];exact Nat.le_refl 1), enc_single] at this
   ·rw [splice_len, Enc.len, Nat.add_assoc, ← Nat.succ_mul]
    exact Nat.le_trans (Nat.add_le_add_left (Nat.mul_le_mul_right _ (by omega)) _) hvl
   clear hk hS a
   intro w hS a hk
   (repeat' (first|((first|refine wx1 ?_|refine wx2 ?_ ?_<;>intro hp|refine s_end hk ?_)<;>(clear hk a;intro a hk))|((first|refine wx3 ?_;intro w b|refine wx4 ?_;intro w|refine wx5 ?_;intro w v);clear hk hS a;intro hS a hk)|refine wx0 ?_|fail))
   obtain ⟨hl0, hc0⟩ := ins_cells (xs := xs) (i := i) (off := off) (e := e) (vs := vs) (by omega) (Nat.le_trans (Nat.add_le_add_left (Nat.mul_le_mul_right _ hc) _) hvl) (fun j u hj => by
    rw [← enc_take, List.getElem?_take] at hj
    split at hj
    ·exact hvs j u hj
    ·cases hj) (.inl rfl)
   have hF := hS.toOwn (ys := insF xs i e) At.here (by rw [insF_len hi];exact hc) hcm (by rw [hl0];exact hvl) hc0
   rw [insF_len hi] at hF
   exact done1 hk (h := hF.sub (.cons .here Sub.cons_drop))
  ·refine enter Tryz.func89 rfl Tryz.ntmps89 rfl (fun a hk => ?_)
   (repeat' (first|((first|refine wx1 ?_|refine wx2 ?_ ?_<;>intro hp|refine s_end hk ?_)<;>(clear hk a;intro a hk))|((first|refine wx3 ?_;intro w b|refine wx4 ?_;intro w|refine wx5 ?_;intro w v);clear hk hS a;intro hS a hk)|refine wx0 ?_|fail))
   refine sg hk (g_partF (i := i) hk ?_ (ht := eT rfl) (hs := (by first | exact St.rdT hS (by assumption) | exact OwT.rd (hS.rd (A := OwT _ _ _) atx) | assumption)) (hE := zT rfl) (hi := by omega));clear hk a;intro vq hvq a hk
   (repeat' (first|((first|refine wx1 ?_|refine wx2 ?_ ?_<;>intro hp|refine s_end hk ?_)<;>(clear hk a;intro a hk))|((first|refine wx3 ?_;intro w b|refine wx4 ?_;intro w|refine wx5 ?_;intro w v);clear hk hS a;intro hS a hk)|refine wx0 ?_|fail))
   refine sg hk (g_capC hk ?_ (ht := eT rfl));clear hk a;intro a hk
   (repeat' (first|((first|refine wx1 ?_|refine wx2 ?_ ?_<;>intro hp|refine s_end hk ?_)<;>(clear hk a;intro a hk))|((first|refine wx3 ?_;intro w b|refine wx4 ?_;intro w|refine wx5 ?_;intro w v);clear hk hS a;intro hS a hk)|refine wx0 ?_|fail))
   refine sg hk (g_slTc i (k := Enc.k PrI) hk ?_ (ht := eT rfl) (hE := zT rfl) (hp := by omega) (hj := by omega));clear hk a;intro a hk
   (repeat' (first|((first|refine wx1 ?_|refine wx2 ?_ ?_<;>intro hp|refine s_end hk ?_)<;>(clear hk a;intro a hk))|((first|refine wx3 ?_;intro w b|refine wx4 ?_;intro w|refine wx5 ?_;intro w v);clear hk hS a;intro hS a hk)|refine wx0 ?_|fail))
   refine sg hk (g_appZ (cs := enc (xs.take i)) (i := i) (q := xs.length + 1 - i) (k := Enc.k PrI) hk hS ?_ (hp := by omega) (ht := eT rfl) (htx := iT rfl) (hE := zT rfl) (hz := oT rfl) (hzs := rfl) (hz1 := by decide) (hby := bT rfl) (h0 := by omega) (hc := by omega) (hl := by rw [enc_len, List.length_take, Nat.min_eq_left hi]) (hcs := Cells.takeT i (pts.block (hS.rd (A := pts b vs 124) atx)) hvs) (h1 := enc_one _) (hbytes := by omega) (h63 := by simp only [maxLen];omega))
   clear hk hS a
   intro w b2 c2 zs hg1 hg2 hg3 hg4 hg5 hS a hk
   rw [show i + (xs.length + 1 - i) = xs.length + 1 by omega] at hk hg1
   (repeat' (first|((first|refine wx1 ?_|refine wx2 ?_ ?_<;>intro hp|refine s_end hk ?_)<;>(clear hk a;intro a hk))|((first|refine wx3 ?_;intro w b|refine wx4 ?_;intro w|refine wx5 ?_;intro w v);clear hk hS a;intro hS a hk)|refine wx0 ?_|fail))
   refine sg hk (g_slFc i (k := Enc.k PrI) hk ?_ (ht := eT rfl) (hE := zT rfl) (hp := by omega) (him := by omega) (hc := by omega));clear hk a;intro a hk
   (repeat' (first|((first|refine wx1 ?_|refine wx2 ?_ ?_<;>intro hp|refine s_end hk ?_)<;>(clear hk a;intro a hk))|((first|refine wx3 ?_;intro w b|refine wx4 ?_;intro w|refine wx5 ?_;intro w v);clear hk hS a;intro hS a hk)|refine wx0 ?_|fail))
   refine sg hk (g_copyC (E := 124) (k := Enc.k PrI) hk hS ?_ (q := 1) (ht := eT rfl) (hE := zT rfl) (hq := by simp only [Nat.min_def];split <;> omega) (hl := by rw [Enc.len, Nat.one_mul]) (hsrc := ?_) (h1 := Enc.one e) (hfit := ?_))
   rotate_left
   ·have := Cells.takeT (xs := [e]) 1 (pts.block (hS.rd (A := pts b' vs' 124) atx)) hvs'
    rwa [List.take_of_length_le (by rw [h1l];exact Nat.le_refl 1), enc_single] at this
   ·rw [Enc.len, Nat.add_assoc, ← Nat.succ_mul, Nat.zero_add, hg3]
    exact Nat.mul_le_mul_right _ (by omega)
   clear hk hS a
   intro w hS a hk
   (repeat' (first|((first|refine wx1 ?_|refine wx2 ?_ ?_<;>intro hp|refine s_end hk ?_)<;>(clear hk a;intro a hk))|((first|refine wx3 ?_;intro w b|refine wx4 ?_;intro w|refine wx5 ?_;intro w v);clear hk hS a;intro hS a hk)|refine wx0 ?_|fail))
   refine wp_drawnU1 9 mixed (by kernel_rfl) hk hS ?_;clear hk hS a
   (repeat' (first|(show ObxE _ _ _ _ _ _ _ _ _ (_::_) _ _ _;first|refine ox1 ?_|refine ox2 ?_ ?_<;>intro hp)|fail))
   refine' obe_val (fun us a w hk hd hS => ?_) ?_;rotate_left;focus (have hk := Kn.vw hk vwx;exact g_slFc (i + 1) (k := Enc.k PrI) hk (same _ _) (ht := eT rfl) (hE := zT rfl) (hp := by omega) (him := by omega) (hc := by omega))
   (repeat' (first|(show ObxE _ _ _ _ _ _ _ _ _ (_::_) _ _ _;first|refine ox1 ?_|refine ox2 ?_ ?_<;>intro hp)|fail))
   refine' obe_val (fun us a w hk hd hS => ?_) ?_;rotate_left;focus (have hk := Kn.vw hk vwx;exact g_slFc i (k := Enc.k PrI) hk (same _ _) (ht := eT rfl) (hE := zT rfl) (hp := by omega) (him := by omega) (hc := by omega))
   (repeat' (first|(show ObxE _ _ _ _ _ _ _ _ _ (_::_) _ _ _;first|refine ox1 ?_|refine ox2 ?_ ?_<;>intro hp)|fail))
   refine' obe_upd (pts b2 (splice zs (0 + i * (Enc.k PrI + 1)) (Enc.f e)) 124) (V := fun _ => pts b2 (splice (splice zs (0 + i * (Enc.k PrI + 1)) (Enc.f e)) (0 + (i + 1) * (Enc.k PrI + 1)) (enc (xs.drop i))) 124) (fun us a w X hk hd hS hL => ?_) ?_
   ·have hk := Kn.vw hk vwx
    exact g_copyC (E := 124) (k := Enc.k PrI) hk hS (fun w' hS' => hS') (q := xs.length - i) (ht := eT rfl) (hE := zT rfl) (hq := by simp only [Nat.min_def];split <;> omega) (hl := by rw [enc_len, List.length_drop]) (hsrc := Cells.dropT i (pts.block (hL.rd (A := pts b vs 124) atx)) hvs) (h1 := enc_one _)
     (hfit := by rw [splice_len, enc_len, List.length_drop, Nat.add_assoc, ← Nat.add_mul, Nat.zero_add, hg3];exact Nat.mul_le_mul_right _ (by omega))
   (repeat' (first|(show ObxE _ _ _ _ _ _ _ _ _ (_::_) _ _ _;first|refine ox1 ?_|refine ox2 ?_ ?_<;>intro hp)|fail))
   refine obe_nil ⟨rfl, ?_⟩;intro us a w hk hS
   simp only [resE] at hS
   (repeat' (first|((first|refine wx1 ?_|refine wx2 ?_ ?_<;>intro hp|refine s_end hk ?_)<;>(clear hk a;intro a hk))|((first|refine wx3 ?_;intro w b|refine wx4 ?_;intro w|refine wx5 ?_;intro w v);clear hk hS a;intro hS a hk)|refine wx0 ?_|fail))
   obtain ⟨hl0, hc0⟩ := ins_cells (xs := xs) (i := i) (off := 0) (e := e) (vs := zs) (by omega) (by rw [Nat.zero_add, hg3];exact Nat.mul_le_mul_right _ hg1) (fun j u hj => by rw [Nat.zero_add];exact hg4 j u hj) (.inr rfl)
   have hF := hS.toOwn (ys := insF xs i e) At.here (by rw [insF_len hi];exact hg1) hg2 (by rw [hl0, Nat.zero_add, hg3];exact Nat.le_refl _) hc0
   rw [insF_len hi] at hF
   exact done1 hk (h := hF.sub (.cons .here (Sub.under Sub.cons_drop)))
set_option maxHeartbeats 1000000 in
theorem putI_any {B : Bs} {w : World} {L : List HP} {s : List PrI} {v : Value} (p : PrI) (hS : St B (OwT 124 s v :: L) w) (hl : s.length ≤ 1000) (hr : Rises nmI s) :
  Calls Tryz.prog 66 #[v, .agg (Enc.f p).toArray] w (Ret fun v' w' => St B (OwT 124 (putF nmI s p) v' :: L) w') := by
 obtain ⟨k, x⟩ := p
 refine enter Tryz.func66 rfl Tryz.ntmps66 rfl (fun a hk => ?_)
 (repeat' (first|((first|refine wx1 ?_|refine wx2 ?_ ?_<;>intro hp|refine s_end hk ?_)<;>(clear hk a;intro a hk))|((first|refine wx3 ?_;intro w b|refine wx4 ?_;intro w|refine wx5 ?_;intro w v);clear hk hS a;intro hS a hk)|refine wx0 ?_|fail))
 refine sg hk (g_callO hk (hf := by kernel_rfl) (hc := whereI_any s k v _ (by first | exact St.rdT hS (by assumption) | exact OwT.rd (hS.rd (A := OwT _ _ _) atx) | assumption) hl hr) (h := ?_));clear hk a;rintro vr w ⟨n, f, rfl, hF, hS1⟩ a hk;replace hS := hS.call hS1;clear hS1
 cases f with
 | true =>
  obtain ⟨hn, hset⟩ := found_set nmI (e := (k, x)) hF
  (repeat' (first|((first|refine wx1 ?_|refine wx2 ?_ ?_<;>intro hp|refine s_end hk ?_)<;>(clear hk a;intro a hk))|((first|refine wx3 ?_;intro w b|refine wx4 ?_;intro w|refine wx5 ?_;intro w v);clear hk hS a;intro hS a hk)|refine wx0 ?_|fail))
  refine su hk (g_stT (xs := s) (z := (k, x)) hk hS ?_ (hsz := zT rfl) (hi := hn))
  clear hk hS a
  intro w hS a hk
  rw [hset] at hS
  (repeat' (first|((first|refine wx1 ?_|refine wx2 ?_ ?_<;>intro hp|refine s_end hk ?_)<;>(clear hk a;intro a hk))|((first|refine wx3 ?_;intro w b|refine wx4 ?_;intro w|refine wx5 ?_;intro w v);clear hk hS a;intro hS a hk)|refine wx0 ?_|fail))
  exact done1 hk (h := hS.sub (.cons .here (Sub.under .refl)))
 | false =>
  obtain ⟨hn, hset⟩ := found_ins nmI (e := (k, x)) hF
  (repeat' (first|((first|refine wx1 ?_|refine wx2 ?_ ?_<;>intro hp|refine s_end hk ?_)<;>(clear hk a;intro a hk))|((first|refine wx3 ?_;intro w b|refine wx4 ?_;intro w|refine wx5 ?_;intro w v);clear hk hS a;intro hS a hk)|refine wx0 ?_|fail))
  refine sg hk (g_bsT (xs := [((k, x) : PrI)]) (m := 0) hk hS ?_ (hT := eT rfl) (hE := zT rfl) (hz := oT rfl));clear hk hS a;intro w ve hS a hk
  (repeat' (first|((first|refine wx1 ?_|refine wx2 ?_ ?_<;>intro hp|refine s_end hk ?_)<;>(clear hk a;intro a hk))|((first|refine wx3 ?_;intro w b|refine wx4 ?_;intro w|refine wx5 ?_;intro w v);clear hk hS a;intro hS a hk)|refine wx0 ?_|fail))
  refine sg hk (g_callO hk (hf := by kernel_rfl) (hc := insI_any (xs := s) (e := (k, x)) (v := v) (ve := ve) (hS.sub (.cons (.there (.there .here)) (.cons .here (Sub.under .refl)))) hn (by omega)) (h := ?_));clear hk hS a;intro vr w hS a hk
  rw [show insF s n _ = _ from hset] at hS
  (repeat' (first|((first|refine wx1 ?_|refine wx2 ?_ ?_<;>intro hp|refine s_end hk ?_)<;>(clear hk a;intro a hk))|((first|refine wx3 ?_;intro w b|refine wx4 ?_;intro w|refine wx5 ?_;intro w v);clear hk hS a;intro hS a hk)|refine wx0 ?_|fail))
  exact done1 hk (h := hS)
set_option maxHeartbeats 1000000 in
theorem ofI_any (l : List PrI) (v : Value) (w0 : World) (hv : SlT l v w0) (hl : l.length ≤ 1000) :
  Calls Tryz.prog 65 #[v] w0 (Ret fun v w => St w0 [OwT 124 (snapF nmI l) v] w) := by
 refine enter Tryz.func65 rfl Tryz.ntmps65 rfl (fun a hk => ?_);have hS := St.refl w0
 (repeat' (first|((first|refine wx1 ?_|refine wx2 ?_ ?_<;>intro hp|refine s_end hk ?_)<;>(clear hk a;intro a hk))|((first|refine wx3 ?_;intro w b|refine wx4 ?_;intro w|refine wx5 ?_;intro w v);clear hk hS a;intro hS a hk)|refine wx0 ?_|fail))
 replace hS := hS.nilT 124 PrI
 replace hk := Kn.kp [3, 6, 7, 8] hk
 refine wp_for l.length (fun i v => [(3, v), (8, .int .i64 (i : Int))]) (fun i v => [OwT 124 (snapF nmI (l.take i)) v]) (fun _ _ => True) (.slice none 0 0) hk skx hS.sb trivial ?_
 clear hk hS a
 rintro i vo a w hi hk hS -
 by_cases hil : i < l.length
 ·obtain ⟨⟨k, x⟩, hx⟩ : ∃ x, l[i]? = some x := ⟨_, List.getElem?_eq_getElem hil⟩
  have hsn : snapF nmI (l.take (i + 1)) = putF nmI (snapF nmI (l.take i)) (k, x) := by rw [take_snoc hx, snap_snoc]
  have hsl : (snapF nmI (l.take i)).length ≤ i := Nat.le_trans (snap_len nmI _) (by rw [List.length_take];omega)
  have hsr := snap_rises nmI (l.take i)
  generalize snapF nmI (l.take i) = S at *
  (repeat' (first|((first|refine wx1 ?_|refine wx2 ?_ ?_<;>intro hp|refine s_end hk ?_)<;>(clear hk a;intro a hk))|((first|refine wx3 ?_;intro w b|refine wx4 ?_;intro w|refine wx5 ?_;intro w v);clear hk hS a;intro hS a hk)|refine wx0 ?_|fail))
  refine sg hk (g_callO hk (hf := by kernel_rfl) (hc := putI_any (s := S) (v := vo) (L := []) ((k, x) : PrI) (hS.sub (by (repeat (first | exact Sub.nil | exact Sub.refl | refine Sub.cons atx ?_)))) (by omega) hsr) (h := ?_));clear hk hS a;intro vr w hS a hk
  rw [← hsn] at hS
  (repeat' (first|((first|refine wx1 ?_|refine wx2 ?_ ?_<;>intro hp|refine s_end hk ?_)<;>(clear hk a;intro a hk))|((first|refine wx3 ?_;intro w b|refine wx4 ?_;intro w|refine wx5 ?_;intro w v);clear hk hS a;intro hS a hk)|refine wx0 ?_|fail))
  exact ⟨hil, _, hk.sd, hS.sb, trivial⟩
 ·have : i = l.length := by omega
  subst this
  rw [List.take_length] at hS
  (repeat' (first|((first|refine wx1 ?_|refine wx2 ?_ ?_<;>intro hp|refine s_end hk ?_)<;>(clear hk a;intro a hk))|((first|refine wx3 ?_;intro w b|refine wx4 ?_;intro w|refine wx5 ?_;intro w v);clear hk hS a;intro hS a hk)|refine wx0 ?_|fail))
  exact done1 hk (h := hS.sb)
abbrev PrS := ByteArray × ByteArray
abbrev nmS (p : PrS) : ByteArray := p.1
end Go.Proofs.YtbpkddpkcnlmhaaGreat
namespace Go.Proofs.YtbpkddpkcnlmhaaGreat
open Lib (decDigits itoa)
def digB (b : UInt8) : Bool := decide (48 ≤ b.toNat ∧ b.toNat ≤ 57)
def valL (l : List UInt8) : Nat := l.foldl (fun n b => 10 * n + (b.toNat - 48)) 0
def sgnL (L : List UInt8) : Bool := decide (L.head? = some 45)
def digL (L : List UInt8) : List UInt8 := if sgnL L then L.tail else L
def numL (L : List UInt8) : Int := if sgnL L then -((valL (digL L) : Nat) : Int) else ((valL (digL L) : Nat) : Int)
def badD (L : List UInt8) : Prop := digL L = [] ∨ 10 < (digL L).length ∨ (digL L).all digB = false
def zerD (L : List UInt8) : Prop := (digL L).head? = some 48 ∧ (1 < (digL L).length ∨ sgnL L = true)
def outR (m : Int) : Prop := m < -2147483648 ∨ 2147483647 < m
instance (L : List UInt8) : Decidable (badD L) := by unfold badD; infer_instance
instance (L : List UInt8) : Decidable (zerD L) := by unfold zerD; infer_instance
instance (m : Int) : Decidable (outR m) := by unfold outR; infer_instance
def numP (L : List UInt8) : Int × Bool := if badD L ∨ zerD L ∨ outR (numL L) then (0, false) else (numL L, true)
end Go.Proofs.YtbpkddpkcnlmhaaGreat
namespace Go.Proofs.YtbpkddpkcnlmhaaGreat
open Go.RowKit
set_option maxRecDepth 100000
attribute [local irreducible] Go.Code.wpIn Go.wpListIn Go.Calls Gives Go.Exit.then Go.Exit.inBlock Done ObxE
def letB (b : UInt8) : Bool := decide (97 ≤ b.toNat ∧ b.toNat ≤ 122)
def plaB (b : UInt8) : Bool := decide ((97 ≤ b.toNat ∧ b.toNat ≤ 122) ∨ (48 ≤ b.toNat ∧ b.toNat ≤ 57) ∨ b.toNat = 45)
def visB (b : UInt8) : Bool := decide (32 < b.toNat ∧ b.toNat ≤ 126 ∧ b.toNat ≠ 39 ∧ b.toNat ≠ 40 ∧ b.toNat ≠ 41)
def priB (b : UInt8) : Bool := decide (32 ≤ b.toNat ∧ b.toNat ≤ 126 ∧ b.toNat ≠ 39)
theorem byte_at {s : ByteArray} {i : Nat} (h : i < s.size) : s.data.toList[i]? = some s[i] := by
 rw [List.getElem?_eq_getElem (by simpa using h)]
 congr 1
theorem all_take {s : ByteArray} {i : Nat} (h : i < s.size) (p : UInt8 → Bool) : (s.data.toList.take (i + 1)).all p = ((s.data.toList.take i).all p && p s[i]) := by
 rw [List.take_add_one, byte_at h, List.all_append]
 simp
theorem all_no {s : ByteArray} {i : Nat} (h : i < s.size) {p : UInt8 → Bool} (hp : p s[i] = false) : s.data.toList.all p = false := by
 have hs : s.data.toList = s.data.toList.take (i + 1) ++ s.data.toList.drop (i + 1) := (List.take_append_drop _ _).symm
 rw [hs, List.all_append, all_take h, hp]
 simp
theorem all_full (s : ByteArray) : s.data.toList.take s.size = s.data.toList := List.take_of_length_le (by simp)
theorem emp_iff {s : ByteArray} : s = ⟨#[]⟩ ↔ s.size = 0 := by
 constructor
 ·rintro rfl;rfl
 ·intro h
  cases s with
  | mk d => congr 1;exact Array.eq_empty_of_size_eq_zero h
def keyS (s : ByteArray) : Bool := decide (1 ≤ s.size ∧ s.size ≤ 16) && s.data.toList.all plaB
def nameS (s : ByteArray) : Bool := keyS s && (match s.data.toList with | [] => false | a :: _ => letB a)
def valS (s : ByteArray) : Bool := decide (s.size ≤ 32) && s.data.toList.all visB
def txtS (s : ByteArray) : Bool := decide (s.size ≤ 64) && s.data.toList.all priB
def rsvS (s : ByteArray) : Bool := decide (2 ≤ s.size ∧ s.extract 0 2 = ⟨#[116, 45]⟩)
def chkS (s : ByteArray) : Int := if nameS s then (if rsvS s then 6 else 0) else 2
theorem head_at {s : ByteArray} (h : 0 < s.size) : (match s.data.toList with | [] => false | a :: _ => letB a) = letB s[0] := by
 have := byte_at h
 cases hl : s.data.toList with
 | nil => rw [hl] at this;cases this
 | cons a r => rw [hl] at this;simp only [List.getElem?_cons_zero, Option.some.injEq] at this;rw [this]
end Go.Proofs.YtbpkddpkcnlmhaaGreat
