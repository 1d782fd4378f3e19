/- Rows of one's own: cleared in part. -/
import Derived.Test.YtakejjfmbgbedaaL20
namespace Go.Proofs.Ytakejjfmbgbedaa
variable {df : List Deferred}
open Go.RowKit

section
variable {P : Program} {a : Act} {w w' : World} {w0 : Bs} {n : Nat} {l : List (Nat × Value)} {L L' : List HP}
  {dst : Option Nat} {R : Value → World → Prop} {ty : TypeId} {pos : String} {af : Array Edge} {g : Option (Nat × Bool)}

theorem g_clear {x : Operand} {t E k b o m c : Nat} {z : Value} {vs : List Value} {E' : TypeId} (hk : Kn df n a l) (hS : St w0 L w)
    (h : ∀ (w' : World) (zs : List Value), zs.length = m * (k + 1) → St w0 (pts b (splice vs o zs) E' :: L') w' → R (.tuple #[]) w')
    (hx : ev l x = some (.slice (some ⟨b, o, none⟩) m c) := by rfl) (hat : At (pts b vs E') L L' := by (repeat (first | exact At.here | apply At.there))) (ht : elOf P t = some E) (hz : zeroOf P E = some z) (hzs : z.cells.size = k + 1) (hz1 : ∀ u ∈ z.cells.toList, u.oneCell' = true)
    (hfit : o + m * (k + 1) ≤ vs.length) : Gives P ⟨dst, .call { callee := .builtin .clear, args := #[x], argTypes := #[t] }, ty, pos, af, g⟩ a w R := by
  have hl : (Builtin.zeroCells z.cells m).toList.length = m * (k + 1) := by rw [Array.length_toList, size_zeroCells, hzs]
  have h1 : ∀ u ∈ (Builtin.zeroCells z.cells m).toList, u.oneCell' = true := by
    intro u hu
    simp only [Builtin.zeroCells] at hu
    simp at hu
    obtain ⟨q, hq, rfl⟩ := hu
    have hlt : q % z.cells.size < z.cells.size := Nat.mod_lt _ (by rw [hzs]; omega)
    rw [getElem!_pos z.cells _ hlt]
    exact hz1 _ (by simp)
  obtain ⟨w', hr, hS'⟩ := run_storeCells_own (P := P) (Builtin.zeroCells z.cells m).toList o 0 vs w hS hat h1 (by rw [hl]; simpa using hfit)
  simp only [Nat.add_zero] at hS'
  by_cases h0 : m = 0
  · subst h0
    have e : (Builtin.zeroCells z.cells 0).toList = [] := List.eq_nil_of_length_eq_zero (by rw [hl, Nat.zero_mul])
    rw [e] at hS' hr
    have hw : w' = w := by
      have : (storeCells ⟨b, o, none⟩ [] 0).run P w = .ok () w := rfl
      rw [this] at hr
      injection hr with _ hr
      exact hr.symm
    subst hw
    refine givesv (v := .tuple #[]) (w' := w') ?_ (h w' [] (by simp) hS')
    simp [execOp, resolve, invoke, builtin, hk.eval hx, Builtin.clear_, run_underlying (elOf_und ht)]
  · refine givesv (v := .tuple #[]) (w' := w') ?_ (h w' _ hl hS')
    simp [execOp, resolve, invoke, builtin, hk.eval hx, Builtin.clear_, run_underlying (elOf_und ht), zeroOf_run hz, hr]
end

/-- A slice without room. -/
def emp0 (v : Value) : HP where
  holds F _ := (∀ b, ¬ F b) ∧ ∃ ao, v = .slice ao 0 0
  stable := fun _ _ _ h _ => h
  dom := fun _ _ b h hb => absurd hb (h.1 b)
theorem emp0.get {v : Value} {w : World} (h : (emp0 v).rd w) : ∃ ao, v = .slice ao 0 0 := let ⟨_, h⟩ := h; h.2

section
variable {P : Program} {a : Act} {w w' : World} {w0 : Bs} {n : Nat} {l : List (Nat × Value)} {L L' : List HP}
  {dst : Option Nat} {R : Value → World → Prop} {ty : TypeId} {pos : String} {af : Array Edge} {g : Option (Nat × Bool)} {α : Type} [Enc α]
theorem v_bs0 {T E k : Nat} (hT : elOf P T = some E) (hE : szOf P E = some k) :
    Gives P ⟨dst, .buildSlice T 0 #[], ty, pos, af, g⟩ a w (fun v w' => St w [emp0 v] w') := by
  refine givesv (v := .slice (some ⟨w.heap.size, 0, none⟩) 0 0) (w' := w.alloc (.cells #[] E)) ?_ ?_
  · simp only [execOp, Instr.buildSlice, Sem.run_bind, run_underlying (elOf_und hT), Result.andThen_ok, szOf_run hE]
    have e : (Array.map (fun (_ : Nat) => (default : Value)) (Array.range 0)) = #[] := Array.eq_empty_of_size_eq_zero (by simp)
    simp [Instr.fill, newRow, e]
  · have h := (St.refl w).alloc [] E
    have := h.conv (As := [emp0 (.slice (some ⟨w.heap.size, 0, none⟩) 0 0)]) At.here (fun F _ => ⟨fun _ => False, fun _ h => h.elim, Sep.one ⟨fun _ h => h, _, rfl⟩⟩)
    exact this
/-- append(x, y...), where both are empty. -/
theorem v_appN {x y : Operand} {t tx : TypeId} {E E' : Nat} {v y0 z : Value} (hk : Kn df n a l) (hv : SlT ([] : List α) v w)
    (hT : elOf P t = some E) (hTx : elOf P tx = some E') (hE : szOf P E = some (Enc.k α + 1)) (hz : zeroOf P E = some z) (hs : SlT ([] : List α) y0 w)
    (hx : ev l x = some v := by rfl) (hy : ev l y = some y0 := by rfl) :
    Gives P ⟨dst, .call { callee := .builtin .append, args := #[x, y], argTypes := #[t, tx] }, ty, pos, af, g⟩ a w (fun v' w' => v' = v ∧ St w [] w') := by
  obtain ⟨i, hi, his, hiz⟩ := byOf_info hE hz
  have hsrc : Src P (Enc.k α + 1) tx y0 0 [] w := Src.ofT hTx hs
  obtain ⟨ao, c, rfl, hao, _, _⟩ := hv.shape
  refine givesv (v := .slice ao 0 c) (w' := w) ?_ (same _ _)
  have hr : (Builtin.append_ #[t, tx] ty #[.slice ao 0 c, y0]).run P w = .ok (.slice ao 0 c) w := by
    cases ao with
    | none =>
      obtain ⟨_, rfl⟩ := hao rfl
      rcases hsrc.kind with ⟨e', hk'⟩ | hk' <;> simp [Builtin.append_, run_underlying (elOf_und hT), run_underlying hk', sizeOf, typeInfo, hi, hsrc.len, his, hsrc.cells]
    | some ad =>
      have hst : (storeCells (ad.add (0 * (Enc.k α + 1))) [] 0).run P w = .ok () w := rfl
      rcases hsrc.kind with ⟨e', hk'⟩ | hk' <;> simp [Builtin.append_, run_underlying (elOf_und hT), run_underlying hk', sizeOf, typeInfo, hi, hsrc.len, his, hsrc.cells, storeCells]
  simp [execOp, resolve, invoke, builtin, hk.eval hx, hk.eval hy, hr]
theorem v_app0 {x y : Operand} {t tx : TypeId} {E E' : Nat} {v y0 z : Value} {ys : List α} (hk : Kn df n a l) (hv : (emp0 v).rd w) (hne : ys ≠ [])
    (hT : elOf P t = some E) (hTx : elOf P tx = some E') (hE : szOf P E = some (Enc.k α + 1)) (hz : zeroOf P E = some z) (hzs : z.cells.size = Enc.k α + 1) (hs : SlT ys y0 w) {by_ : Nat} (hby : ((P.info? E).map (·.bytes)).getD 0 = by_) (hbytes : ys.length * by_ ≤ 140737488355328) (h63 : ys.length ≤ maxLen)
    (hx : ev l x = some v := by rfl) (hy : ev l y = some y0 := by rfl) :
    Gives P ⟨dst, .call { callee := .builtin .append, args := #[x, y], argTypes := #[t, tx] }, ty, pos, af, g⟩ a w (fun v' w' => St w [OwT E ys v'] w') := by
  obtain ⟨ao, rfl⟩ := emp0.get hv
  obtain ⟨i, hi, his, hiz⟩ := byOf_info hE hz
  have hib : i.bytes = by_ := by rw [hi] at hby; exact hby
  have hsrc : Src P (Enc.k α + 1) tx y0 ys.length (enc ys) w := Src.ofT hTx hs
  have hq : 0 < ys.length := List.length_pos_iff.2 hne
  have hsmall : 0 + ys.length ≤ 9223372036854775807 := by simp only [maxLen] at h63; omega
  have hold : (Builtin.firstCells i.size 0 (.slice ao 0 0)).run P w.drew = .ok (([] : List Value).toArray) w.drew := by
    cases ao with
    | none => simp [Builtin.firstCells]
    | some ad => exact run_firstCells_some w.drew i.size 0 ad 0 0 [] (by simp) (fun j v hj => by simp at hj)
  have hr := run_append_grow_src (P := P) w t tx ty E i z (elOf_und hT) hi hiz ao 0 0 [] hold y0 ys.length (enc ys) (by rw [his]; exact hsrc) (by omega) (by omega) (growslice_fits (by omega) (by rw [hib, Nat.zero_add]; exact hbytes))
  simp only [Nat.zero_add, List.nil_append] at hr
  refine givesv (v := .slice (some ⟨w.heap.size, 0, none⟩) ys.length (grownCap w ys.length 0 E)) (w' := w.drew.alloc (.cells ((enc ys).toArray ++ Builtin.zeroCells z.cells (grownCap w ys.length 0 E - ys.length)) E)) (by simp [execOp, resolve, invoke, builtin, hk.eval hx, hk.eval hy, hr]) ?_
  have hge := grownCap_ge w ys.length 0 E
  have hcm := grownCap_le_maxLen w ys.length 0 E h63
  have hlen : (enc ys).length = ys.length * (Enc.k α + 1) := enc_len ys
  generalize grownCap w ys.length 0 E = gc at *
  have hz0 : (Builtin.zeroCells z.cells (gc - ys.length)).toList.length = (gc - ys.length) * (Enc.k α + 1) := by rw [Array.length_toList, size_zeroCells, hzs]
  have hww : (w.drew.alloc (.cells (enc ys ++ (Builtin.zeroCells z.cells (gc - ys.length)).toList).toArray E)) = w.drew.alloc (.cells ((enc ys).toArray ++ Builtin.zeroCells z.cells (gc - ys.length)) E) := by
    congr 2
    apply Array.ext'
    simp
  have hal := (St.refl w).drew.alloc (enc ys ++ (Builtin.zeroCells z.cells (gc - ys.length)).toList) E
  rw [hww] at hal
  generalize (Builtin.zeroCells z.cells (gc - ys.length)).toList = zs at *
  have hgl : ys.length * (Enc.k α + 1) + (gc - ys.length) * (Enc.k α + 1) = gc * (Enc.k α + 1) := by rw [← Nat.add_mul]; congr 1; omega
  exact hal.toOwn (ys := ys) (off := 0) (cap := gc) At.here hge hcm (by rw [List.length_append, hlen, hz0, Nat.zero_add, hgl]; exact Nat.le_refl _) (fun j u hj => by
    have hlt := enc_get_lt hj
    rw [Nat.zero_add, List.getElem?_append_left (by rw [hlen]; exact hlt)]
    exact hj)
end

section
variable {α : Type} (p : α → Bool)
/-- What a sieve has done after j. -/
structure Sieve (s ys : List α) (i j : Nat) : Prop where
  len : ys.length = s.length
  le : i < j
  head : ys.take i = (s.take j).filter (fun x => !p x)
  tail : ys.drop j = s.drop j
theorem Sieve.get {s ys : List α} {i j : Nat} (h : Sieve p s ys i j) (hj : j < s.length) : ys[j]? = some s[j] := by
  have := congrArg (·[0]?) h.tail
  simpa [List.getElem?_drop] using this.trans (by simp [List.getElem?_drop, List.getElem?_eq_getElem hj])
theorem Sieve.drop_ {s ys : List α} {i j : Nat} (h : Sieve p s ys i j) (hj : j < s.length) (hp : p s[j] = true) : Sieve p s ys i (j + 1) := by
  refine ⟨h.len, by have := h.le; omega, ?_, ?_⟩
  · rw [h.head, List.take_add_one, List.getElem?_eq_getElem hj, List.filter_append]
    simp [hp]
  · have := congrArg (List.drop 1) h.tail
    rwa [List.drop_drop, List.drop_drop] at this
theorem Sieve.keep {s ys : List α} {i j : Nat} (h : Sieve p s ys i j) (hj : j < s.length) (hp : p s[j] = false) : Sieve p s (ys.set i s[j]) (i + 1) (j + 1) := by
  have hl := h.len
  have hle := h.le
  refine ⟨by rw [List.length_set, hl], by omega, ?_, ?_⟩
  · rw [List.take_add_one (l := s), List.getElem?_eq_getElem hj, List.filter_append, ← h.head]
    have e : (ys.set i s[j]).take (i + 1) = (ys.set i s[j]).take i ++ [s[j]] := by
      rw [List.take_add_one, List.getElem?_set_self (by omega)]; rfl
    rw [e, List.take_set_of_le (Nat.le_refl i)]
    simp [hp]
  · rw [List.drop_set_of_lt (by omega)]
    have := congrArg (List.drop 1) h.tail
    rwa [List.drop_drop, List.drop_drop] at this
theorem Sieve.start {s : List α} {k : Nat} (hk : k < s.length) (hn : ∀ i (h : i < s.length), i < k → p s[i] = false) (hp : p s[k] = true) : Sieve p s s k (k + 1) := by
  refine ⟨rfl, by omega, ?_, rfl⟩
  rw [List.take_add_one, List.getElem?_eq_getElem hk, List.filter_append]
  have : (s.take k).filter (fun x => !p x) = s.take k := by
    rw [List.filter_eq_self]
    intro x hx
    obtain ⟨i, hi, rfl⟩ := List.getElem_of_mem hx
    rw [List.getElem_take]
    rw [List.length_take] at hi
    simp [hn i (by omega) (by omega)]
  rw [this]
  simp [hp]
theorem filter_none {s : List α} (h : ∀ i (h : i < s.length), p s[i] = false) : s.filter (fun x => !p x) = s := by
  rw [List.filter_eq_self]
  intro x hx
  obtain ⟨i, hi, rfl⟩ := List.getElem_of_mem hx
  simp [h i hi]
end

section
variable {α : Type} [Enc α]
/-- The first elements of a row, of which the rest was cleared. -/
theorem St.toTake {B : Bs} {w : World} {L L' : List HP} {b off cap i : Nat} {vs zs : List Value} {E : TypeId} {ys : List α} (h : St B L w) (hat : At (pts b (splice vs (off + i * (Enc.k α + 1)) zs) E) L L') (hi : i ≤ ys.length) (hn : ys.length ≤ cap) (hcm : cap ≤ maxLen) (hvl : off + cap * (Enc.k α + 1) ≤ vs.length)
    (hz : zs.length = (ys.length - i) * (Enc.k α + 1)) (hc : ∀ (j : Nat) (u : Value), (enc ys)[j]? = some u → vs[off + j]? = some u) : St B (OwT E (ys.take i) (.slice (some ⟨b, off, none⟩) i cap) :: L') w := by
  have hti : (ys.take i).length = i := by rw [List.length_take, Nat.min_eq_left hi]
  have e1 : ys.length * (Enc.k α + 1) = i * (Enc.k α + 1) + (ys.length - i) * (Enc.k α + 1) := by rw [← Nat.add_mul]; congr 1; omega
  have e2 : ys.length * (Enc.k α + 1) ≤ cap * (Enc.k α + 1) := Nat.mul_le_mul_right _ hn
  have := h.toOwn (ys := ys.take i) (off := off) (cap := cap) hat (by rw [hti]; omega) hcm (by rw [splice_len]; exact hvl) (fun j u hj => by
    have hlt := enc_get_lt hj
    rw [hti] at hlt
    rw [splice_get _ _ _ _ (by rw [hz]; omega), if_neg (by omega)]
    rw [← enc_take, List.getElem?_take, if_pos hlt] at hj
    exact hc j u hj)
  rw [hti] at this
  exact this
end

section
variable {α : Type} [Enc α]
/-- One cell of an element is set. -/
theorem enc_setF {xs : List α} {i f : Nat} {z : α} {u : Value} (hi : i < xs.length) (hf : f < Enc.k α + 1) (hz : Enc.f z = (Enc.f xs[i]).set f u) (j : Nat) :
    (enc (xs.set i z))[j]? = if j = i * (Enc.k α + 1) + f then some u else (enc xs)[j]? := by
  rw [enc_set xs i z hi]
  have hg := enc_get xs i hi
  have hfl := Enc.len xs[i]
  by_cases h1 : i * (Enc.k α + 1) ≤ j ∧ j < i * (Enc.k α + 1) + (Enc.k α + 1)
  · rw [if_pos h1, hz]
    by_cases h2 : j = i * (Enc.k α + 1) + f
    · rw [if_pos h2, h2, show i * (Enc.k α + 1) + f - i * (Enc.k α + 1) = f by omega, List.getElem?_set_self (by rw [hfl]; exact hf)]
    · rw [if_neg h2, List.getElem?_set_ne (by omega), ← hg, List.getElem?_take, if_pos (by omega), List.getElem?_drop]
      congr 1
      omega
  · rw [if_neg h1, if_neg (by omega)]
variable {P : Program} {a : Act} {w w' : World} {w0 : Bs} {n : Nat} {l : List (Nat × Value)} {L L' : List HP}
  {dst : Option Nat} {R : Value → World → Prop} {ty : TypeId} {pos : String} {af : Array Edge} {g : Option (Nat × Bool)}
theorem g_stF {x y : Operand} {T E : TypeId} {v u : Value} {i f : Nat} {xs : List α} {z : α} {o : Nat} (hk : Kn df n a l) (hS : St w0 L w) (h : ∀ w', St w0 (OwT E (xs.set i z) v :: L') w' → R undef w')
    (hx : ev l x = some (.pointer (some ⟨blk v, o, none⟩)) := by rfl) (ho : o = offs v + i * (Enc.k α + 1) + f) (hy : ev l y = some u := by rfl) (hat : At (OwT E xs v) L L' := by (repeat (first | exact At.here | apply At.there)))
    (hi : i < xs.length) (hf : f < Enc.k α + 1) (hz : Enc.f z = (Enc.f xs[i]).set f u) (hu : u.cells = #[u] := by rfl) (hone : u.oneCell' = true := by rfl) (hsz : szOf P T = some 1) :
    Gives P ⟨dst, .store T x y, ty, pos, af, g⟩ a w R := by
  subst ho
  obtain ⟨F0, _, _, h3, _⟩ := hS.rd hat
  rcases h3 with ⟨_, h0⟩ | ⟨b, off, cap, cur, rfl, _⟩
  · omega
  · obtain ⟨vs, hP, hvl, hn, hcm, hcl, hvs⟩ := hS.ownPts hat
    have hle := mul_lt_of (k := Enc.k α) hi
    have hle2 : xs.length * (Enc.k α + 1) ≤ cap * (Enc.k α + 1) := Nat.mul_le_mul_right _ hn
    obtain ⟨w', hr, hS'⟩ := run_storeCells_own (P := P) [u] (off + i * (Enc.k α + 1) + f) 0 vs w hP At.here (fun x hx => by rw [List.mem_singleton] at hx; rw [hx]; exact hone) (by simp only [List.length_singleton]; omega)
    simp only [Nat.add_zero] at hS'
    refine givesu (w' := w') ?_ (h w' ?_)
    · have hr' : (storeCells ⟨b, off + i * (Enc.k α + 1) + f, none⟩ [u] 0).run P w = .ok () w' := hr
      simp only [blk, offs] at hx
      simp [execOp, hk.eval hx, hk.eval hy, Instr.storeAt, Instr.sureAddr, storeVar, szOf_run hsz, hu, hr']
    · have hq := hS'.toOwn (ys := xs.set i z) (off := off) (cap := cap) At.here (by rw [List.length_set]; exact hn) hcm (by rw [splice_len]; exact hvl) (fun j u' hj => by
        rw [enc_setF hi hf hz] at hj
        simp only [splice]
        by_cases h1 : j = i * (Enc.k α + 1) + f
        · rw [if_pos h1] at hj
          injection hj with hj
          subst hj
          rw [show off + j = off + i * (Enc.k α + 1) + f by omega, List.getElem?_set_self (by omega)]
        · rw [if_neg h1] at hj
          rw [List.getElem?_set_ne (by omega)]
          exact hvs j u' hj)
      rw [List.length_set] at hq
      exact hq
end
end Go.Proofs.Ytakejjfmbgbedaa
