/- Slices by their elements: each kind of element has its cells. -/
import Derived.Test.YtakejjfmbgbedaaL12
import Derived.Laws.MakeOwn
namespace Go.Proofs.Ytakejjfmbgbedaa
variable {df : List Deferred}
open Go.RowKit

class Enc (α : Type) where
  k : Nat
  f : α → List Value
  len : ∀ x, (f x).length = k + 1
  one : ∀ x, ∀ u ∈ f x, u.oneCell' = true

instance encInt : Enc Int := ⟨0, fun n => [.int .i64 n], fun _ => rfl, fun _ u h => by rw [List.mem_singleton] at h; subst h; rfl⟩
instance encStr : Enc ByteArray := ⟨0, fun s => [.string s], fun _ => rfl, fun _ u h => by rw [List.mem_singleton] at h; subst h; rfl⟩
instance encBool : Enc Bool := ⟨0, fun b => [.bool b], fun _ => rfl, fun _ u h => by rw [List.mem_singleton] at h; subst h; rfl⟩
/-- A slice that is an element. -/
structure Hd where
  a : Option Addr
  n : Nat
  c : Nat
def Hd.v (h : Hd) : Value := .slice h.a h.n h.c
instance encHd : Enc Hd := ⟨0, fun h => [h.v], fun _ => rfl, fun _ u h => by rw [List.mem_singleton] at h; subst h; rfl⟩
instance encProd {α β : Type} [Enc α] [Enc β] : Enc (α × β) := ⟨Enc.k α + Enc.k β + 1, fun p => Enc.f p.1 ++ Enc.f p.2, fun p => by rw [List.length_append, Enc.len, Enc.len]; omega,
  fun p u h => (List.mem_append.1 h).elim (Enc.one p.1 u) (Enc.one p.2 u)⟩

section
variable {α : Type} [Enc α]
def enc (xs : List α) : List Value := xs.flatMap Enc.f

theorem enc_len : ∀ xs : List α, (enc xs).length = xs.length * (Enc.k α + 1)
  | [] => by simp [enc]
  | x :: xs => by
    have := enc_len xs
    unfold enc at this ⊢
    rw [List.flatMap_cons, List.length_append, Enc.len, this, List.length_cons, Nat.add_mul]
    omega

theorem enc_cons (x : α) (xs : List α) : enc (x :: xs) = Enc.f x ++ enc xs := by simp [enc]
theorem enc_append (xs ys : List α) : enc (xs ++ ys) = enc xs ++ enc ys := by simp [enc]

theorem enc_get : ∀ (xs : List α) (i : Nat) (hi : i < xs.length), ((enc xs).drop (i * (Enc.k α + 1))).take (Enc.k α + 1) = Enc.f xs[i]
  | x :: xs, 0, _ => by
    rw [enc_cons, Nat.zero_mul, List.drop_zero, ← Enc.len x]
    simp
  | x :: xs, i + 1, hi => by
    have := enc_get xs i (by simpa using hi)
    rw [enc_cons, show (i + 1) * (Enc.k α + 1) = (Enc.f x).length + i * (Enc.k α + 1) by rw [Enc.len, Nat.add_mul]; omega, List.drop_length_add_append]
    simpa using this

theorem enc_one (xs : List α) : ∀ u ∈ enc xs, u.oneCell' = true := fun u h => by
  obtain ⟨x, _, hx⟩ := List.mem_flatMap.1 h
  exact Enc.one x u hx

theorem enc_drop : ∀ (xs : List α) (i : Nat), (enc xs).drop (i * (Enc.k α + 1)) = enc (xs.drop i)
  | xs, 0 => by simp
  | [], i + 1 => by simp [enc]
  | x :: xs, i + 1 => by
    rw [enc_cons, show (i + 1) * (Enc.k α + 1) = (Enc.f x).length + i * (Enc.k α + 1) by rw [Enc.len, Nat.add_mul]; omega, List.drop_length_add_append, enc_drop xs i]
    rfl
theorem enc_take : ∀ (xs : List α) (i : Nat), (enc xs).take (i * (Enc.k α + 1)) = enc (xs.take i)
  | xs, 0 => by simp [enc]
  | [], i + 1 => by simp [enc]
  | x :: xs, i + 1 => by
    rw [enc_cons, show (i + 1) * (Enc.k α + 1) = (Enc.f x).length + i * (Enc.k α + 1) by rw [Enc.len, Nat.add_mul]; omega, List.take_length_add_append, enc_take xs i, List.take_succ_cons, enc_cons]

/-- A slice of these elements, that is read. -/
def SlT (xs : List α) (v : Value) (w : World) : Prop := Slr (Enc.k α + 1) xs.length v (enc xs) w
/-- A slice of these elements, that the call owns. -/
def OwT (E : TypeId) (xs : List α) (v : Value) : HP := slo E (Enc.k α + 1) xs.length v (enc xs)

theorem SlT.mono {xs : List α} {v : Value} {w w' : World} (h : SlT xs v w) (hb : Below w.heap.size w w') : SlT xs v w' := Slr.mono h hb
theorem St.rdT {w0 : Bs} {w : World} {L : List HP} (hS : St w0 L w) {xs : List α} {v : Value} (h : SlT xs v w0.g) : SlT xs v w := St.slr hS h
theorem SlT.frz {xs : List α} {v : Value} {w w' : World} (h : SlT xs v w) (hb : Frz w w') : SlT xs v w' := Slr.frz h hb
theorem OwT.rd {E : TypeId} {xs : List α} {v : Value} {w : World} (h : (OwT E xs v).rd w) : SlT xs v w := slo.slr h

theorem SlT.at {xs : List α} {v : Value} {w : World} (h : SlT xs v w) {i : Nat} (hi : i < xs.length) : Cells (blk v) (offs v + i * (Enc.k α + 1)) (Enc.f xs[i]) w := by
  have := Slr.cells h (i := i)
  rw [enc_get xs i hi] at this
  exact this

theorem SlT.len_le {xs : List α} {v : Value} {w : World} (h : SlT xs v w) : xs.length ≤ maxLen := h.2.1
theorem OwT.len_le {E : TypeId} {xs : List α} {v : Value} {w : World} (h : (OwT E xs v).rd w) : xs.length ≤ maxLen := (OwT.rd h).2.1

theorem SlT.nil (w : World) : SlT ([] : List α) (.slice none 0 0) w := ⟨by simp [enc], by simp [maxLen], .inl ⟨rfl, rfl⟩⟩

theorem St.nilT {w0 : Bs} {w : World} {L : List HP} (h : St w0 L w) (E : TypeId) (α : Type) [Enc α] : St w0 (OwT E ([] : List α) (.slice none 0 0) :: L) w := h.ownNil E _

/-- Two slices at one value have one length. -/
theorem SlT.shape {xs : List α} {v : Value} {w : World} (h : SlT xs v w) : ∃ ao c, v = .slice ao xs.length c ∧ (ao = none → xs = [] ∧ c = 0) ∧ xs.length ≤ c ∧ c ≤ maxLen := by
  rcases h.2.2 with ⟨hv, h0⟩ | ⟨a, c, hv, hc, hm, _⟩
  · refine ⟨none, 0, by rw [hv, h0], fun _ => ⟨List.eq_nil_of_length_eq_zero h0, rfl⟩, by omega, by simp⟩
  · refine ⟨some a, c, hv, fun h => ?_, hc, hm⟩
    cases h

end

section
variable {P : Program} {a : Act} {w w' : World} {w0 : Bs} {n : Nat} {l : List (Nat × Value)} {L L' : List HP}
  {dst : Option Nat} {R : Value → World → Prop} {ty : TypeId} {pos : String} {af : Array Edge} {g : Option (Nat × Bool)} {α : Type} [Enc α]

theorem g_lenT {x : Operand} {t : TypeId} {v : Value} {xs : List α} (hk : Kn df n a l) (h : R (.int .i64 xs.length) w) (hx : ev l x = some v := by rfl) {E : Nat} (ht : elOf P t = some E) (hs : SlT xs v w) :
    Gives P ⟨dst, .call { callee := .builtin .len, args := #[x], argTypes := #[t] }, ty, pos, af, g⟩ a w R :=
  g_lenSl hk hs h ht hx

theorem g_ixT {x y : Operand} {t : TypeId} {i : Nat} {v : Value} {xs : List α} {E : Nat} {kk : IntKind} (hk : Kn df n a l) (h : R (.pointer (some ⟨blk v, offs v + i * (Enc.k α + 1), none⟩)) w)
    (hx : ev l x = some v := by rfl) (hy : ev l y = some (.int kk (i : Int)) := by rfl) (ht : elOf P t = some E) (hs : SlT xs v w) (hi : i < xs.length) (hE : szOf P E = some (Enc.k α + 1)) :
    Gives P ⟨dst, .indexAddr t x y, ty, pos, af, g⟩ a w R := g_index hk hs hi h ht hE hx hy

/-- At a number that is known to be no less than nought. -/
theorem g_ixTi {x y : Operand} {t : TypeId} {p : Int} {v : Value} {xs : List α} {E : Nat} {kk : IntKind} (hk : Kn df n a l) (h : R (.pointer (some ⟨blk v, offs v + p.toNat * (Enc.k α + 1), none⟩)) w)
    (hx : ev l x = some v := by rfl) (hy : ev l y = some (.int kk p) := by rfl) (ht : elOf P t = some E) (hs : SlT xs v w) (h0 : 0 ≤ p) (hi : p < xs.length) (hE : szOf P E = some (Enc.k α + 1)) :
    Gives P ⟨dst, .indexAddr t x y, ty, pos, af, g⟩ a w R :=
  g_index (i := p.toNat) hk hs (by omega) h ht hE hx (by rw [Int.toNat_of_nonneg h0]; exact hy)

theorem SlT.get {xs : List α} {v : Value} {w : World} (h : SlT xs v w) {i : Nat} {x : α} (hi : xs[i]? = some x) : Cells (blk v) (offs v + i * (Enc.k α + 1)) (Enc.f x) w := by
  obtain ⟨h1, rfl⟩ := List.getElem?_eq_some_iff.1 hi
  exact h.at h1
theorem take_snoc {β : Type} {xs : List β} {i : Nat} {x : β} (h : xs[i]? = some x) : xs.take (i + 1) = xs.take i ++ [x] := by
  rw [List.take_add_one, h]; rfl
theorem lt_of_get {β : Type} {xs : List β} {i : Nat} {x : β} (h : xs[i]? = some x) : i < xs.length := (List.getElem?_eq_some_iff.1 h).1

theorem g_ldT1 {x : Operand} {T : TypeId} {v : Value} {i : Nat} {xs : List α} {e : α} {u : Value} (hk : Kn df n a l) (h : R u w) (hT : aggOf P T = some false)
    (hx : ev l x = some (.pointer (some ⟨blk v, offs v + i * (Enc.k α + 1), none⟩)) := by rfl) (hs : SlT xs v w) (hi : xs[i]? = some e) (hu : Enc.f e = [u] := by rfl) :
    Gives P ⟨dst, .load T x, ty, pos, af, g⟩ a w R := by
  have hc := hs.get hi
  rw [hu] at hc
  exact g_load1 hk h hT (hc.get (j := 0) rfl) hx

theorem g_ldTN {x : Operand} {T : TypeId} {v : Value} {i : Nat} {xs : List α} {e : α} {us : List Value} (hk : Kn df n a l) (h : R (.agg us.toArray) w) (hT : aggOf P T = some true)
    (hx : ev l x = some (.pointer (some ⟨blk v, offs v + i * (Enc.k α + 1), none⟩)) := by rfl) (hs : SlT xs v w) (hi : xs[i]? = some e) (hu : Enc.f e = us) (hz : szOf P T = some (Enc.k α + 1)) :
    Gives P ⟨dst, .load T x, ty, pos, af, g⟩ a w R := by
  subst hu
  refine g_loadN hk h hT (hs.get hi) ?_ hx
  rw [Enc.len]; exact hz

theorem g_ldTF {x : Operand} {T : TypeId} {v : Value} {i f : Nat} {xs : List α} {e : α} {u : Value} (hk : Kn df n a l) (h : R u w) (hT : aggOf P T = some false)
    (hx : ev l x = some (.pointer (some ⟨blk v, offs v + i * (Enc.k α + 1) + f, none⟩)) := by rfl) (hs : SlT xs v w) (hi : xs[i]? = some e) (hu : (Enc.f e)[f]? = some u := by rfl) :
    Gives P ⟨dst, .load T x, ty, pos, af, g⟩ a w R :=
  g_load1 hk h hT ((hs.get hi).get hu) hx

theorem Src.ofT {tx E : TypeId} {ys : List α} {v : Value} (hT : elOf P tx = some E) (hs : SlT ys v w) : Src P (Enc.k α + 1) tx v ys.length (enc ys) w := by
  obtain ⟨h1, h2, h3⟩ := hs
  rcases h3 with ⟨rfl, h0⟩ | ⟨ad, c, rfl, hn, hc, hcell⟩
  · have : ys = [] := List.eq_nil_of_length_eq_zero h0
    subst this
    exact Src.ofNil w (elOf_und hT) 0
  · refine Src.ofSlice w (elOf_und hT) ad _ c (enc ys) h1 (fun j u hj => ?_) (enc_one ys)
    obtain ⟨hsp, hcl⟩ := hcell j u hj
    obtain ⟨b, o, sp⟩ := ad
    simp only at hsp
    subst hsp
    rw [addr_add]
    exact hcl

/-- An append of the elements of a slice. -/
theorem g_appT {x y : Operand} {t tx : TypeId} {E E' : Nat} {v y0 z : Value} {xs ys : List α} (hk : Kn df n a l) (hS : St w0 L w)
    (h : ∀ w' v', St w0 (OwT E (xs ++ ys) v' :: L') w' → R v' w')
    (hx : ev l x = some v := by rfl) (hy : ev l y = some y0 := by rfl)
    (hat : At (OwT E xs v) L L' := by (repeat (first | exact At.here | apply At.there)))
    (hT : elOf P t = some E) (hTx : elOf P tx = some E') (hE : szOf P E = some (Enc.k α + 1)) (hz : zeroOf P E = some z) (hzs : z.cells.size = Enc.k α + 1) (hs : SlT ys y0 w) {by_ : Nat} (hby : ((P.info? E).map (·.bytes)).getD 0 = by_) (hbytes : (xs.length + ys.length) * by_ ≤ 140737488355328) (h63 : xs.length + ys.length ≤ maxLen) :
    Gives P ⟨dst, .call { callee := .builtin .append, args := #[x, y], argTypes := #[t, tx] }, ty, pos, af, g⟩ a w R :=
  g_append hk hS (Src.ofT hTx hs) (fun w' v' hS' => h w' v' (by
    have : OwT E (xs ++ ys) v' = slo E (Enc.k α + 1) (xs.length + ys.length) v' (enc xs ++ enc ys) := by unfold OwT; rw [enc_append, List.length_append]
    rw [this]; exact hS')) hT hE hz hzs h63 hby hbytes hx hy hat

theorem At.rest {A : HP} {X Y : List HP} (h : At A X Y) : Sub Y X := by
  induction h with
  | here => exact Sub.cons_drop
  | there _ ih => exact .cons At.here ih

/-- The same, and the source is let go. -/
theorem g_appD {x y : Operand} {t tx : TypeId} {E E' : Nat} {v y0 z : Value} {xs ys : List α} {L'' : List HP} (hk : Kn df n a l) (hS : St w0 L w)
    (h : ∀ w' v', St w0 (OwT E (xs ++ ys) v' :: L'') w' → R v' w')
    (hx : ev l x = some v := by rfl) (hy : ev l y = some y0 := by rfl)
    (hat : At (OwT E xs v) L L' := by (repeat (first | exact At.here | apply At.there)))
    (hT : elOf P t = some E) (hTx : elOf P tx = some E')
    (hat2 : At (OwT E' ys y0) L' L'' := by (repeat (first | exact At.here | apply At.there)))
    (hE : szOf P E = some (Enc.k α + 1)) (hz : zeroOf P E = some z) (hzs : z.cells.size = Enc.k α + 1) {by_ : Nat} (hby : ((P.info? E).map (·.bytes)).getD 0 = by_) (hbytes : (xs.length + ys.length) * by_ ≤ 140737488355328) (h63 : xs.length + ys.length ≤ maxLen) :
    Gives P ⟨dst, .call { callee := .builtin .append, args := #[x, y], argTypes := #[t, tx] }, ty, pos, af, g⟩ a w R :=
  g_appT hk hS (fun w' v' hS' => h w' v' (hS'.sub (.cons .here hat2.rest))) hx hy hat hT hTx hE hz hzs (OwT.rd (hS.sub hat.rest |>.rd hat2)) hby hbytes h63

theorem g_bsT {T E : Nat} {q : List (Nat × Operand)} {vals : List (Nat × Value)} {z : Value} {xs : List α} {m : Nat} (hk : Kn df n a l) (hS : St w0 L w)
    (h : ∀ w' v, St w0 (OwT E xs v :: L) w' → R v w')
    (hp : evP l q = some vals := by rfl)
    (hT : elOf P T = some E) (hE : szOf P E = some (Enc.k α + 1)) (hz : zeroOf P E = some z)
    (hb : bldP (fun i => some (i * (Enc.k α + 1), Enc.k α + 1)) (zerosL z (m + 1) (Enc.k α + 1)) vals = some (enc xs) := by rfl) (hl : xs.length = m + 1 := by rfl) (hm : Nat.ble ((m + 1) * (Enc.k α + 1)) 16777216 = true := by rfl) :
    Gives P ⟨dst, .buildSlice T (m + 1) q.toArray, ty, pos, af, g⟩ a w R :=
  g_buildSlice hk hS (fun w' v hS' => h w' v (by unfold OwT; rw [hl]; exact hS')) hT hE hz hp hb (by rw [enc_len, hl]) hm

theorem enc_set : ∀ (xs : List α) (i : Nat) (y : α), i < xs.length → ∀ j, (enc (xs.set i y))[j]? = if i * (Enc.k α + 1) ≤ j ∧ j < i * (Enc.k α + 1) + (Enc.k α + 1) then (Enc.f y)[j - i * (Enc.k α + 1)]? else (enc xs)[j]?
  | [], i, _, h, _ => by simp at h
  | x :: xs, 0, y, _, j => by
    simp only [List.set_cons_zero, enc_cons, Nat.zero_mul, Nat.zero_add, Nat.zero_le, true_and, Nat.sub_zero]
    by_cases hj : j < Enc.k α + 1
    · rw [if_pos hj, List.getElem?_append_left (by rw [Enc.len]; exact hj)]
    · rw [if_neg hj, List.getElem?_append_right (by rw [Enc.len]; omega), List.getElem?_append_right (by rw [Enc.len]; omega), Enc.len, Enc.len]
  | x :: xs, i + 1, y, h, j => by
    have ih := enc_set xs i y (by simpa using h)
    simp only [List.set_cons_succ, enc_cons]
    rw [Nat.add_mul, Nat.one_mul]
    by_cases hj : j < Enc.k α + 1
    · rw [List.getElem?_append_left (by rw [Enc.len]; exact hj), List.getElem?_append_left (by rw [Enc.len]; exact hj), if_neg (by omega)]
    · rw [List.getElem?_append_right (by rw [Enc.len]; omega), List.getElem?_append_right (by rw [Enc.len]; omega), Enc.len, ih]
      by_cases h1 : i * (Enc.k α + 1) ≤ j - (Enc.k α + 1) ∧ j - (Enc.k α + 1) < i * (Enc.k α + 1) + (Enc.k α + 1)
      · rw [if_pos h1, if_pos (by omega)]
        congr 1
        omega
      · rw [if_neg h1, if_neg (by omega)]

theorem mul_lt_of {i m k : Nat} (h : i < m) : i * (k + 1) + (k + 1) ≤ m * (k + 1) := by
  have := Nat.mul_le_mul_right (k + 1) h
  rwa [Nat.succ_mul] at this

/-- A store into an element of one's own. -/
theorem St.setT {E : TypeId} {v : Value} {i : Nat} {xs : List α} {y : α} (hS : St w0 L w) (hat : At (OwT E xs v) L L') (hi : i < xs.length) :
    ∃ w', (storeCells ⟨blk v, offs v + i * (Enc.k α + 1), none⟩ (Enc.f y) 0).run P w = .ok () w' ∧ St w0 (OwT E (xs.set i y) v :: L') w' := by
  obtain ⟨F0, _, _, h3, _⟩ := hS.rd hat
  rcases h3 with ⟨_, h0⟩ | ⟨b, off, cap, cur, rfl, _⟩
  · omega
  · obtain ⟨vs, hP, hvl, hn, hcm, hcl, hvs⟩ := hS.ownPts hat
    have hle := mul_lt_of (k := Enc.k α) hi
    have hle2 : xs.length * (Enc.k α + 1) ≤ cap * (Enc.k α + 1) := Nat.mul_le_mul_right _ hn
    have hfit : off + i * (Enc.k α + 1) + (Enc.f y).length ≤ vs.length := by rw [Enc.len]; omega
    obtain ⟨w', hr, hS'⟩ := run_storeCells_own (P := P) (Enc.f y) (off + i * (Enc.k α + 1)) 0 vs w hP At.here (Enc.one y) (by simpa using hfit)
    refine ⟨w', hr, ?_⟩
    simp only [Nat.add_zero] at hS'
    refine hS'.conv (As := [_]) At.here (fun F hF => ⟨F, fun _ h => h, Sep.one ⟨by rw [enc_len], by rw [List.length_set]; exact Nat.le_trans hn hcm, .inr ⟨b, off, cap, _, by rw [List.length_set], hF.1, hF.2.1, hF.2.2, by rw [List.length_set]; exact hn, hcm, by rw [List.size_toArray, splice_len]; exact hvl, fun j u hj => ?_⟩, fun c hc => (pts _ _ E).dom F _ c hF hc⟩⟩)
    rw [List.getElem?_toArray, splice_get _ _ _ _ hfit, Enc.len]
    rw [enc_set xs i y hi] at hj
    by_cases h1 : i * (Enc.k α + 1) ≤ j ∧ j < i * (Enc.k α + 1) + (Enc.k α + 1)
    · rw [if_pos h1] at hj
      rw [if_pos (by omega), show off + j - (off + i * (Enc.k α + 1)) = j - i * (Enc.k α + 1) by omega]
      exact hj
    · rw [if_neg h1] at hj
      rw [if_neg (by omega)]
      exact hvs j u hj

theorem g_stT {x y : Operand} {T E : TypeId} {v u : Value} {i : Nat} {xs : List α} {z : α} (hk : Kn df n a l) (hS : St w0 L w) (h : ∀ w', St w0 (OwT E (xs.set i z) v :: L') w' → R undef w')
    (hx : ev l x = some (.pointer (some ⟨blk v, offs v + i * (Enc.k α + 1), none⟩)) := by rfl) (hy : ev l y = some u := by rfl) (hat : At (OwT E xs v) L L' := by (repeat (first | exact At.here | apply At.there)))
    (hu : u.cells.toList = Enc.f z := by rfl) (hsz : szOf P T = some (Enc.k α + 1)) (hi : i < xs.length) :
    Gives P ⟨dst, .store T x y, ty, pos, af, g⟩ a w R := by
  obtain ⟨w', hr, hS'⟩ := St.setT (P := P) (y := z) hS hat hi
  refine givesu (w' := w') ?_ (h w' hS')
  have hv : u.cells = (Enc.f z).toArray := by rw [← hu]
  simp [execOp, hk.eval hx, hk.eval hy, Instr.storeAt, Instr.sureAddr, storeVar, szOf_run hsz, hv, hr, Enc.len]

theorem enc_rep (z : α) (m : Nat) : ∀ j, (enc (List.replicate m z))[j]? = if j < m * (Enc.k α + 1) then (Enc.f z)[j % (Enc.k α + 1)]? else none := by
  induction m with
  | zero => intro j; simp [enc]
  | succ m ih =>
    intro j
    rw [List.replicate_succ, enc_cons, Nat.add_mul, Nat.one_mul]
    by_cases hj : j < Enc.k α + 1
    · rw [List.getElem?_append_left (by rw [Enc.len]; exact hj), if_pos (by omega), Nat.mod_eq_of_lt hj]
    · rw [List.getElem?_append_right (by rw [Enc.len]; omega), Enc.len, ih]
      by_cases h1 : j - (Enc.k α + 1) < m * (Enc.k α + 1)
      · rw [if_pos h1, if_pos (by omega), ← Nat.mod_eq_sub_mod (by omega)]
      · rw [if_neg h1, if_neg (by omega)]

/-- make([]T, n) -/
theorem g_mkT {x y : Operand} {T E m : Nat} {z : α} {zv : Value} {kk kl : IntKind} {by_ : Nat} (hk : Kn df n a l) (hS : St w0 L w) (h : ∀ w' v, St w0 (OwT E (List.replicate m z) v :: L) w' → R v w')
    (hx : ev l x = some (.int kk (m : Int)) := by rfl) (hy : ev l y = some (.int kl (m : Int)) := by rfl)
    (hT : elOf P T = some E) (hE : szOf P E = some (Enc.k α + 1)) (hz : zeroOf P E = some zv) (hzv : zv.cells.toList = Enc.f z := by rfl) (hby : ((P.info? E).map (·.bytes)).getD 0 = by_) (hm : m ≤ maxLen) (hbytes : by_ * m ≤ 281474976710656) :
    Gives P ⟨dst, .makeSlice T x y, ty, pos, af, g⟩ a w R := by
  obtain ⟨i, hi, his, hiz⟩ := byOf_info hE hz
  have hib : i.bytes = by_ := by rw [hi] at hby; exact hby
  have hbytes' : (i.bytes : Int) * (m : Int) ≤ 281474976710656 := by rw [hib]; exact Int.ofNat_le.2 hbytes
  have hm' : (m : Int) ≤ 9223372036854775807 := by simp only [maxLen] at hm; omega
  clear hbytes
  have hr := run_make (P := P) w T E i zv (elOf_und hT) hi hiz kk kl m m (by omega) (by omega) hbytes' hm'
  simp only [Int.toNat_natCast] at hr
  refine givesv (v := _) (w' := _) (by simp only [execOp, hk.eval hx, hk.eval hy]; rw [Sem.run_bind, hr]; rfl) (h _ _ ?_)
  have hl : (madeCells zv.cells (m * i.size)).toList = enc (List.replicate m z) := by
    apply List.ext_getElem?
    intro j
    rw [enc_rep, his]
    simp only [madeCells, Array.toList_map, Array.toList_range, List.getElem?_map]
    have hzs : zv.cells.size = Enc.k α + 1 := by rw [← Array.length_toList, hzv, Enc.len]
    by_cases hj : j < m * (Enc.k α + 1)
    · rw [if_pos hj, List.getElem?_range hj]
      have hlt : j % (Enc.k α + 1) < zv.cells.size := by rw [hzs]; exact Nat.mod_lt _ (by omega)
      rw [← hzv]
      simp only [hzs, Option.map_some, Array.getElem?_toList]
      rw [getElem!_pos zv.cells _ (by rw [hzs] at hlt; exact hzs ▸ hlt), getElem?_pos zv.cells _ (by rw [hzs] at hlt; exact hzs ▸ hlt)]
    · rw [if_neg hj, List.getElem?_eq_none (by simpa using hj)]
      rfl
  have := (hS.alloc (enc (List.replicate m z)) E).ptsOwn At.here (k := Enc.k α + 1) (n := m) (by rw [enc_len]; simp) hm
  rw [show (enc (List.replicate m z)).toArray = madeCells zv.cells (m * i.size) by rw [← hl]] at this
  unfold OwT
  rw [List.length_replicate]
  exact this

end
end Go.Proofs.Ytakejjfmbgbedaa
