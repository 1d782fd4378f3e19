/- Nodes with nodes within, as they lie in memory. -/
import Derived.Test.YtakejjfmbgbedaaBag
namespace Go.Proofs.Ytakejjfmbgbedaa
open Go.RowKit

abbrev Opt := Int × Int × Int × Int × Bool × Bool
inductive Tree where
  | mk (k : Int) (tag key text : ByteArray) (cl : List ByteArray) (at_ : List (ByteArray × ByteArray)) (st : List (ByteArray × Int)) (o : Opt) (kids : List Tree)

/-- A node's own cells. -/
abbrev NdH := Int × ByteArray × ByteArray × ByteArray × Hd × Hd × Hd × Opt × Hd
abbrev ndV (h : NdH) : Value := .agg (Enc.f h).toArray

/-- A node is read, with all below it. -/
inductive TrR (w : World) : Tree → NdH → Prop
  | mk {k : Int} {tag key text : ByteArray} {cl : List ByteArray} {at_ : List (ByteArray × ByteArray)} {st : List (ByteArray × Int)} {o : Opt} {kids : List Tree} {hc ha hs hk : Hd} {H : List NdH}
    (h1 : SlT cl hc.v w) (h2 : SlT at_ ha.v w) (h3 : SlT st hs.v w) (h4 : SlT H hk.v w) (hl : H.length = kids.length)
    (hr : ∀ (i : Nat) (t : Tree) (h : NdH), kids[i]? = some t → H[i]? = some h → TrR w t h) : TrR w (.mk k tag key text cl at_ st o kids) (k, tag, key, text, hc, ha, hs, o, hk)

theorem TrR.frz {w w' : World} {t : Tree} {h : NdH} (hr : TrR w t h) (hf : Frz w w') : TrR w' t h := by
  induction hr with
  | mk h1 h2 h3 h4 hl _ ih => exact .mk (h1.frz hf) (h2.frz hf) (h3.frz hf) (h4.frz hf) hl ih
theorem TrR.sl {w : World} {k : Int} {tag key text : ByteArray} {cl : List ByteArray} {at_ : List (ByteArray × ByteArray)} {st : List (ByteArray × Int)} {o : Opt} {kids : List Tree} {h : NdH} (hr : TrR w (.mk k tag key text cl at_ st o kids) h) : SlT cl h.2.2.2.2.1.v w ∧ SlT at_ h.2.2.2.2.2.1.v w ∧ SlT st h.2.2.2.2.2.2.1.v w := by
  cases hr with
  | mk h1 h2 h3 _ _ _ => exact ⟨h1, h2, h3⟩
theorem TrR.mono {w w' : World} {t : Tree} {h : NdH} (hr : TrR w t h) (hb : Below w.heap.size w w') : TrR w' t h := hr.frz (Frz.of_below hb)
theorem TrR.stays (t : Tree) (h : NdH) : Stays (fun w => TrR w t h) := fun _ _ hf hr => hr.frz hf

/-- Nodes in a row. -/
def FoR (w : World) (ts : List Tree) (H : List NdH) : Prop := H.length = ts.length ∧ ∀ (i : Nat) (t : Tree) (h : NdH), ts[i]? = some t → H[i]? = some h → TrR w t h
theorem FoR.frz {w w' : World} {ts : List Tree} {H : List NdH} (hr : FoR w ts H) (hf : Frz w w') : FoR w' ts H := ⟨hr.1, fun i t h h1 h2 => (hr.2 i t h h1 h2).frz hf⟩
theorem FoR.stays (ts : List Tree) (H : List NdH) : Stays (fun w => FoR w ts H) := fun _ _ hf hr => hr.frz hf
theorem FoR.nil (w : World) : FoR w [] [] := ⟨rfl, fun i t h h1 _ => by simp at h1⟩
theorem FoR.snoc {w : World} {ts : List Tree} {H : List NdH} {t : Tree} {h : NdH} (hF : FoR w ts H) (hT : TrR w t h) : FoR w (ts ++ [t]) (H ++ [h]) := by
  refine ⟨by simp [hF.1], fun i t' h' h1 h2 => ?_⟩
  rcases Nat.lt_or_ge i ts.length with hi | hi
  · rw [List.getElem?_append_left hi] at h1
    rw [List.getElem?_append_left (by rw [hF.1]; exact hi)] at h2
    exact hF.2 i t' h' h1 h2
  · rw [List.getElem?_append_right hi] at h1
    rw [List.getElem?_append_right (by rw [hF.1]; exact hi), hF.1] at h2
    cases hj : i - ts.length with
    | zero =>
      rw [hj] at h1 h2
      simp at h1 h2
      subst h1 h2
      exact hT
    | succ j => rw [hj] at h1; simp at h1

theorem FoR.init {w : World} {ts : List Tree} {H : List NdH} {t : Tree} {h : NdH} (hF : FoR w (ts ++ [t]) (H ++ [h])) : FoR w ts H ∧ TrR w t h := by
  obtain ⟨h1, h2⟩ := hF
  have hl : H.length = ts.length := by simpa using h1
  refine ⟨⟨hl, fun i t' h' a b => h2 i t' h' ?_ ?_⟩, h2 ts.length t h (by simp) (by rw [← hl]; simp)⟩
  · rw [List.getElem?_append_left (lt_of_get a)]; exact a
  · rw [List.getElem?_append_left (lt_of_get b)]; exact b

/-- append([]T{}, x...): a slice of its own, or one without room. -/
def appH {α : Type} [Enc α] (E : TypeId) (ys : List α) : Value → HP := match ys with
  | [] => emp0
  | y :: r => OwT E (y :: r)
theorem appH.rd {α : Type} [Enc α] {E : TypeId} {ys : List α} {v : Value} {w : World} (h : (appH E ys v).rd w) : SlT ys v w := by
  cases ys with
  | cons y r => exact OwT.rd h
  | nil =>
    obtain ⟨ao, rfl⟩ := emp0.get h
    refine ⟨by simp [enc], by simp [maxLen], ?_⟩
    cases ao with
    | none => exact .inl ⟨rfl, rfl⟩
    | some a => exact .inr ⟨a, 0, rfl, by simp, by simp [maxLen], fun j u hj => by simp [enc] at hj⟩

section
variable {df : List Deferred} {P : Program} {a : Act} {w : World} {n : Nat} {l : List (Nat × Value)} {dst : Option Nat} {ty : TypeId} {pos : String} {af : Array Edge} {g : Option (Nat × Bool)} {α : Type} [Enc α]
theorem v_appR {x y : Operand} {t tx : TypeId} {E E' : Nat} {v y0 z : Value} {ys : List α} (hk : Kn df n a l) (hv : (emp0 v).rd w)
    (hT : elOf P t = some E) (hTx : elOf P tx = some E') (hE : szOf P E = some (Enc.k α + 1)) (hz : zeroOf P E = some z) (hzs : z.cells.size = Enc.k α + 1) (hs : SlT ys y0 w) {by_ : Nat} (hby : ((P.info? E).map (·.bytes)).getD 0 = by_) (hbytes : ys.length * by_ ≤ 140737488355328) (h63 : ys.length ≤ maxLen)
    (hx : ev l x = some v := by rfl) (hy : ev l y = some y0 := by rfl) :
    Gives P ⟨dst, .call { callee := .builtin .append, args := #[x, y], argTypes := #[t, tx] }, ty, pos, af, g⟩ a w (fun v' w' => St w [appH E ys v'] w') := by
  cases ys with
  | cons u r => exact v_app0 (ys := u :: r) hk hv (by simp) hT hTx hE hz hzs hs hby hbytes h63 hx hy
  | nil =>
    have hv' : SlT ([] : List α) v w := appH.rd (E := E) hv
    refine (v_appN (α := α) hk hv' hT hTx hE hz hs hx hy).mono ?_
    rintro v' w' ⟨rfl, hS⟩
    obtain ⟨ao, rfl⟩ := emp0.get hv
    obtain ⟨F, hF, _⟩ := hS.own
    exact ⟨hS.below, hS.frz, F, hF, fun _ => False, F, fun _ h => h.elim, fun _ h => h, fun _ h _ => h, ⟨fun _ h => h, ao, rfl⟩, trivial⟩
/-- append to what append([]T{}, x...) gave. -/
theorem v_app2 {w0 : Bs} {X : List HP} {x y : Operand} {t tx : TypeId} {E E' : Nat} {v y0 z : Value} {xs ys : List α} (hk : Kn df n a l) (hS : St w0 (appH E xs v :: X) w)
    (hT : elOf P t = some E) (hTx : elOf P tx = some E') (hE : szOf P E = some (Enc.k α + 1)) (hz : zeroOf P E = some z) (hzs : z.cells.size = Enc.k α + 1) (hs : SlT ys y0 w) {by_ : Nat} (hby : ((P.info? E).map (·.bytes)).getD 0 = by_) (hbytes : (xs.length + ys.length) * by_ ≤ 140737488355328) (h63 : xs.length + ys.length ≤ maxLen)
    (hx : ev l x = some v := by rfl) (hy : ev l y = some y0 := by rfl) :
    Gives P ⟨dst, .call { callee := .builtin .append, args := #[x, y], argTypes := #[t, tx] }, ty, pos, af, g⟩ a w (fun v' w' => St w0 (appH E (xs ++ ys) v' :: X) w') := by
  cases xs with
  | cons u r => exact v_app hk hS hx hy hT hTx hs hE hz hzs hby hbytes h63
  | nil =>
    rw [List.length_nil, Nat.zero_add] at hbytes h63
    refine (v_appR (ys := ys) hk (hS.rd .here) hT hTx hE hz hzs hs hby hbytes h63 hx hy).mono ?_
    intro v' w' hS'
    exact (hS.call hS').sub (.cons .here .cons_drop)
end

/-- A node of that shape, and what is below it, that the call owns. -/
abbrev treeR (t : Tree) (h : NdH) : HP := rdH (fun w => TrR w t h)
abbrev forR (ts : List Tree) (H : List NdH) : HP := rdH (fun w => FoR w ts H)
def treeH (t : Tree) (v : Value) : HP := bagH (fun h : NdH => [treeR t h]) (fun h => v = ndV h)

section
variable {B : Bs} {w : World} {L L' : List HP}
theorem treeR.of {k : Int} {tag key text : ByteArray} {cl : List ByteArray} {at_ : List (ByteArray × ByteArray)} {st : List (ByteArray × Int)} {o : Opt} {kids : List Tree} {hc ha hs hk : Hd} {H : List NdH} {A1 A2 A3 A4 : HP}
    (h : St B (A1 :: A2 :: A3 :: A4 :: forR kids H :: L) w) (h1 : ∀ g, A1.rd g → SlT cl hc.v g := by exact fun g h => by first | exact OwT.rd h | exact appH.rd h) (h2 : ∀ g, A2.rd g → SlT at_ ha.v g := by exact fun g h => OwT.rd h)
    (h3 : ∀ g, A3.rd g → SlT st hs.v g := by exact fun g h => OwT.rd h) (h4 : ∀ g, A4.rd g → SlT H hk.v g := by exact fun g h => OwT.rd h) : St B (treeR (.mk k tag key text cl at_ st o kids) (k, tag, key, text, hc, ha, hs, o, hk) :: L) w := by
  refine rdH.of (L1 := [A1, A2, A3, A4, forR kids H]) h fun g hg => ?_
  have hF : FoR g kids H := rdH.rd (FoR.stays kids H) (hg _ (by simp))
  exact .mk (h1 g (hg A1 (by simp))) (h2 g (hg A2 (by simp))) (h3 g (hg A3 (by simp))) (h4 g (hg A4 (by simp))) hF.1 hF.2
/-- A node is given other kids. -/
theorem treeR.kids {k : Int} {tag key text : ByteArray} {cl : List ByteArray} {at_ : List (ByteArray × ByteArray)} {st : List (ByteArray × Int)} {o : Opt} {kids0 kids : List Tree} {hc ha hs hk0 hk : Hd} {H : List NdH} {E : TypeId}
    (h : St B (treeR (.mk k tag key text cl at_ st o kids0) (k, tag, key, text, hc, ha, hs, o, hk0) :: OwT E H hk.v :: forR kids H :: L) w) : St B (treeR (.mk k tag key text cl at_ st o kids) (k, tag, key, text, hc, ha, hs, o, hk) :: L) w := by
  refine rdH.of (L1 := [treeR (.mk k tag key text cl at_ st o kids0) (k, tag, key, text, hc, ha, hs, o, hk0), OwT E H hk.v, forR kids H]) h fun g hg => ?_
  have hF : FoR g kids H := rdH.rd (FoR.stays kids H) (hg _ (by simp))
  have hT : TrR g (.mk k tag key text cl at_ st o kids0) (k, tag, key, text, hc, ha, hs, o, hk0) := rdH.rd (TrR.stays _ _) (hg _ (by simp))
  cases hT with
  | mk h1 h2 h3 _ _ _ => exact .mk h1 h2 h3 (OwT.rd (hg (OwT E H hk.v) (by simp))) hF.1 hF.2
theorem treeH.of {t : Tree} {h : NdH} (hS : St B (treeR t h :: L) w) : St B (treeH t (ndV h) :: L) w := bagH.of (A := fun h : NdH => [treeR t h]) (x := h) hS rfl
theorem St.tree {t : Tree} {v : Value} (hS : St B L w) (hat : At (treeH t v) L L') : ∃ h, v = ndV h ∧ St B (treeR t h :: L') w := St.bag hS hat
theorem St.trR {t : Tree} {h : NdH} (hS : St B L w) (hat : At (treeR t h) L L') : TrR w t h := rdH.rd (TrR.stays t h) (hS.rd hat)
theorem St.foR {ts : List Tree} {H : List NdH} (hS : St B L w) (hat : At (forR ts H) L L') : FoR w ts H := rdH.rd (FoR.stays ts H) (hS.rd hat)
theorem forR.nil (hS : St B L w) : St B (forR [] [] :: L) w := rdH.of (L1 := []) hS fun g _ => FoR.nil g
theorem forR.snoc {ts : List Tree} {H : List NdH} {t : Tree} {h : NdH} (hS : St B (treeR t h :: forR ts H :: L) w) : St B (forR (ts ++ [t]) (H ++ [h]) :: L) w :=
  rdH.of (L1 := [treeR t h, forR ts H]) hS fun g hg => (rdH.rd (FoR.stays ts H) (hg _ (by simp))).snoc (rdH.rd (TrR.stays t h) (hg _ (by simp)))
theorem FoR.plus {g : World} {k : Int} {tag key text x : ByteArray} {cl : List ByteArray} {at_ : List (ByteArray × ByteArray)} {st : List (ByteArray × Int)} {o : Opt} {kids ts : List Tree} {hc ha hs hk : Hd} {H : List NdH}
    (h : FoR g (ts ++ [.mk k tag key text cl at_ st o kids]) (H ++ [(k, tag, key, text, hc, ha, hs, o, hk)])) : FoR g (ts ++ [.mk k tag key (text ++ x) cl at_ st o kids]) (H ++ [(k, tag, key, text ++ x, hc, ha, hs, o, hk)]) := by
  obtain ⟨h1, h2⟩ := h.init
  cases h2 with
  | mk a1 a2 a3 a4 a5 a6 => exact h1.snoc (.mk a1 a2 a3 a4 a5 a6)
theorem rdH.imp {R R' : World → Prop} (h : St B (rdH R :: L) w) (hm : Stays R) (hr : ∀ g, R g → R' g) : St B (rdH R' :: L) w := rdH.of (L1 := [rdH R]) h fun g hg => hr g (rdH.rd hm (hg _ (by simp)))
/-- Nodes in two rows, which may share what lies below. -/
abbrev forR2 (ts us : List Tree) (H K : List NdH) : HP := rdH (fun w => FoR w ts H ∧ FoR w us K)
theorem FoR.stays2 (ts us : List Tree) (H K : List NdH) : Stays (fun w => FoR w ts H ∧ FoR w us K) := fun _ _ hf hr => ⟨hr.1.frz hf, hr.2.frz hf⟩
theorem St.foR2 {ts us : List Tree} {H K : List NdH} (hS : St B L w) (hat : At (forR2 ts us H K) L L') : FoR w ts H ∧ FoR w us K := rdH.rd (FoR.stays2 ts us H K) (hS.rd hat)
theorem St.rdTr {t : Tree} {h : NdH} (hS : St B L w) (hr : TrR B.g t h) : TrR w t h := hr.frz hS.frz
theorem St.rdFo {ts : List Tree} {H : List NdH} (hS : St B L w) (hr : FoR B.g ts H) : FoR w ts H := hr.frz hS.frz
theorem treeH.rd {t : Tree} {v : Value} (h : (treeH t v).rd w) : ∃ h, v = ndV h ∧ TrR w t h := by
  obtain ⟨x, hp, F, F1, _, _, _, _, h4, _⟩ := bagH.rd h
  exact ⟨x, hp, rdH.rd (TrR.stays t x) ⟨F1, h4⟩⟩
end

/-- The header of a node that is a value. -/
instance : Inhabited Hd := ⟨⟨none, 0, 0⟩⟩
open Classical in
noncomputable def ndOf (v : Value) : NdH := if h : ∃ x, v = ndV x then Classical.choose h else default
theorem hdv_inj {a b : Hd} (h : a.v = b.v) : a = b := by
  cases a; cases b
  simp only [Hd.v, Value.slice.injEq] at h
  obtain ⟨rfl, rfl, rfl⟩ := h
  rfl
theorem SlT.hd {α : Type} [Enc α] {xs : List α} {h : Hd} {w : World} (hs : SlT xs h.v w) : ∃ a m, h = ⟨a, xs.length, m⟩ := by
  obtain ⟨a, m, e, _⟩ := hs.shape
  exact ⟨a, m, hdv_inj e⟩
theorem TrR.split {w : World} {t : Tree} {h : NdH} (hr : TrR w t h) : ∃ k tag key text cl al sl e lv m d p q kids a1 m1 a2 m2 a3 m3 a4 m4, ∃ H : List NdH, t = .mk k tag key text cl al sl (e, lv, m, d, p, q) kids ∧
    h = (k, tag, key, text, ⟨a1, cl.length, m1⟩, ⟨a2, al.length, m2⟩, ⟨a3, sl.length, m3⟩, (e, lv, m, d, p, q), ⟨a4, H.length, m4⟩) ∧
    SlT cl (.slice a1 cl.length m1) w ∧ SlT al (.slice a2 al.length m2) w ∧ SlT sl (.slice a3 sl.length m3) w ∧ SlT H (.slice a4 H.length m4) w ∧ FoR w kids H := by
  obtain ⟨c1, c2, c3, c4, hl, hkr⟩ := hr
  rename_i k tag key text cl al sl o kids hc ha hs hk0 H
  obtain ⟨e, lv, m, d, p, q⟩ := o
  obtain ⟨a1, m1, rfl⟩ := c1.hd
  obtain ⟨a2, m2, rfl⟩ := c2.hd
  obtain ⟨a3, m3, rfl⟩ := c3.hd
  obtain ⟨a4, m4, rfl⟩ := c4.hd
  exact ⟨k, tag, key, text, cl, al, sl, e, lv, m, d, p, q, kids, a1, m1, a2, m2, a3, m3, a4, m4, H, rfl, rfl, c1, c2, c3, c4, hl, hkr⟩
theorem ndV_inj {x y : NdH} (h : ndV x = ndV y) : x = y := by
  obtain ⟨k, tag, key, text, hc, ha, hs, ⟨e, l, m, d, p, q⟩, hk⟩ := x
  obtain ⟨k', tag', key', text', hc', ha', hs', ⟨e', l', m', d', p', q'⟩, hk'⟩ := y
  have h2 : ([.int .i64 k, .string tag, .string key, .string text, hc.v, ha.v, hs.v, .int .i64 e, .int .i64 l, .int .i64 m, .int .i64 d, .bool p, .bool q, hk.v] : List Value)
    = [.int .i64 k', .string tag', .string key', .string text', hc'.v, ha'.v, hs'.v, .int .i64 e', .int .i64 l', .int .i64 m', .int .i64 d', .bool p', .bool q', hk'.v] := by
    have := congrArg Value.cells h
    exact congrArg Array.toList this
  simp only [List.cons.injEq, Value.int.injEq, Value.string.injEq, Value.bool.injEq, true_and, and_true] at h2
  obtain ⟨rfl, rfl, rfl, rfl, h5, h6, h7, rfl, rfl, rfl, rfl, rfl, rfl, h8⟩ := h2
  rw [hdv_inj h5, hdv_inj h6, hdv_inj h7, hdv_inj h8]
theorem ndOf_ndV (x : NdH) : ndOf (ndV x) = x := by
  unfold ndOf
  rw [dif_pos ⟨x, rfl⟩]
  exact (ndV_inj (Classical.choose_spec (p := fun y => ndV x = ndV y) ⟨x, rfl⟩)).symm

def Tree.kids : Tree → List Tree
  | .mk _ _ _ _ _ _ _ _ ks => ks
theorem kid_lt {k : Int} {tag key text : ByteArray} {cl : List ByteArray} {at_ : List (ByteArray × ByteArray)} {st : List (ByteArray × Int)} {o : Opt} {kids : List Tree} {t : Tree} (h : t ∈ kids) : SizeOf.sizeOf t < SizeOf.sizeOf (Tree.mk k tag key text cl at_ st o kids) := by
  have := List.sizeOf_lt_of_mem h
  simp only [Tree.mk.sizeOf_spec]
  omega
/-- All parts of a tree are short. -/
inductive Fits : Tree → Prop
  | mk {k : Int} {tag key text : ByteArray} {cl : List ByteArray} {at_ : List (ByteArray × ByteArray)} {st : List (ByteArray × Int)} {o : Opt} {kids : List Tree}
    (h1 : cl.length ≤ 100) (h2 : at_.length ≤ 100) (h3 : st.length ≤ 100) (h4 : kids.length ≤ 1000) (h5 : ∀ t ∈ kids, Fits t) : Fits (.mk k tag key text cl at_ st o kids)
end Go.Proofs.Ytakejjfmbgbedaa
