/- Nodes with nodes within, as they lie in memory. What is shown, as a tree, as it lies in memory. From the form's reading of plain arguments to what they are. Lists of what has a key, by rising keys: plain laws, no program in sight. -/
import Derived.Test.YtkcjkbnbblpomaaGreatDoorT11
import Derived.Test.YtkcjkbnbblpomaaGreatDoorT10
import Derived.Test.YtkcjkbnbblpomaaGreatDoorT07
set_option linter.all false
namespace Go.Proofs.YtkcjkbnbblpomaaGreatDoor
open Go.RowKit

abbrev Opt := Int × Int × Int × Int × Bool × Bool
inductive Tree where
  | mk (k : Int) (tag key text : ByteArray) (cl : List ByteArray) (at_ : List (ByteArray × ByteArray)) (st : List (ByteArray × Int)) (o : Opt) (kids : List Tree)

abbrev NdH := Int × ByteArray × ByteArray × ByteArray × Hd × Hd × Hd × Opt × Hd
abbrev ndV (h : NdH) : Value := .agg (Enc.f h).toArray

inductive TrR (w : World) : Tree → NdH → Prop
  | mk {k : Int} {tag key text : ByteArray} {cl : List ByteArray} {at_ : List (ByteArray × ByteArray)} {st : List (ByteArray × Int)} {o : Opt} {kids : List Tree} {hc ha hs hk : Hd} {H : List NdH}
    (h1 : SlT cl hc.v w) (h2 : SlT at_ ha.v w) (h3 : SlT st hs.v w) (h4 : SlT H hk.v w) (hl : H.length = kids.length)
    (hr : ∀ (i : Nat) (t : Tree) (h : NdH), kids[i]? = some t → H[i]? = some h → TrR w t h) : TrR w (.mk k tag key text cl at_ st o kids) (k, tag, key, text, hc, ha, hs, o, hk)

theorem TrR.frz {w w' : World} {t : Tree} {h : NdH} (hr : TrR w t h) (hf : Frz w w') : TrR w' t h := by
  induction hr with
  | mk h1 h2 h3 h4 hl _ ih => exact .mk (h1.frz hf) (h2.frz hf) (h3.frz hf) (h4.frz hf) hl ih
theorem TrR.stays (t : Tree) (h : NdH) : Stays (fun w => TrR w t h) := fun _ _ hf hr => hr.frz hf

def FoR (w : World) (ts : List Tree) (H : List NdH) : Prop := H.length = ts.length ∧ ∀ (i : Nat) (t : Tree) (h : NdH), ts[i]? = some t → H[i]? = some h → TrR w t h
theorem FoR.frz {w w' : World} {ts : List Tree} {H : List NdH} (hr : FoR w ts H) (hf : Frz w w') : FoR w' ts H := ⟨hr.1, fun i t h h1 h2 => (hr.2 i t h h1 h2).frz hf⟩
theorem FoR.stays (ts : List Tree) (H : List NdH) : Stays (fun w => FoR w ts H) := fun _ _ hf hr => hr.frz hf
theorem FoR.nil (w : World) : FoR w [] [] := ⟨rfl, fun i t h h1 _ => by simp at h1⟩
theorem FoR.snoc {w : World} {ts : List Tree} {H : List NdH} {t : Tree} {h : NdH} (hF : FoR w ts H) (hT : TrR w t h) : FoR w (ts ++ [t]) (H ++ [h]) := by
  refine ⟨by simp [hF.1], fun i t' h' h1 h2 => ?_⟩
  rcases Nat.lt_or_ge i ts.length with hi | hi
  · rw [List.getElem?_append_left hi] at h1
    rw [List.getElem?_append_left (by rw [hF.1]; exact hi)] at h2
    exact hF.2 i t' h' h1 h2
  · rw [List.getElem?_append_right hi] at h1
    rw [List.getElem?_append_right (by rw [hF.1]; exact hi), hF.1] at h2
    cases hj : i - ts.length with
    | zero =>
      rw [hj] at h1 h2
      simp at h1 h2
      subst h1 h2
      exact hT
    | succ j => rw [hj] at h1; simp at h1

theorem FoR.init {w : World} {ts : List Tree} {H : List NdH} {t : Tree} {h : NdH} (hF : FoR w (ts ++ [t]) (H ++ [h])) : FoR w ts H ∧ TrR w t h := by
  obtain ⟨h1, h2⟩ := hF
  have hl : H.length = ts.length := by simpa using h1
  refine ⟨⟨hl, fun i t' h' a b => h2 i t' h' ?_ ?_⟩, h2 ts.length t h (by simp) (by rw [← hl]; simp)⟩
  · rw [List.getElem?_append_left (lt_of_get a)]; exact a
  · rw [List.getElem?_append_left (lt_of_get b)]; exact b

def appH {α : Type} [Enc α] (E : TypeId) (ys : List α) : Value → HP := match ys with
  | [] => emp0
  | y :: r => OwT E (y :: r)
theorem appH.rd {α : Type} [Enc α] {E : TypeId} {ys : List α} {v : Value} {w : World} (h : (appH E ys v).rd w) : SlT ys v w := by
  cases ys with
  | cons y r => exact OwT.rd h
  | nil =>
    obtain ⟨ao, rfl⟩ := emp0.get h
    refine ⟨by simp [enc], by simp [maxLen], ?_⟩
    cases ao with
    | none => exact .inl ⟨rfl, rfl⟩
    | some a => exact .inr ⟨a, 0, rfl, by simp, by simp [maxLen], fun j u hj => by simp [enc] at hj⟩

section
variable {df : List Deferred} {P : Program} {a : Act} {w : World} {n : Nat} {l : List (Nat × Value)} {dst : Option Nat} {ty : TypeId} {pos : String} {af : Array Edge} {g : Option (Nat × Bool)} {α : Type} [Enc α]
theorem v_appR {x y : Operand} {t tx : TypeId} {E E' : Nat} {v y0 z : Value} {ys : List α} (hk : Kn df n a l) (hv : (emp0 v).rd w)
    (hT : elOf P t = some E) (hTx : elOf P tx = some E') (hE : szOf P E = some (Enc.k α + 1)) (hz : zeroOf P E = some z) (hzs : z.cells.size = Enc.k α + 1) (hs : SlT ys y0 w) {by_ : Nat} (hby : ((P.info? E).map (·.bytes)).getD 0 = by_) (hbytes : ys.length * by_ ≤ 140737488355328) (h63 : ys.length ≤ maxLen)
    (hx : ev l x = some v := by rfl) (hy : ev l y = some y0 := by rfl) :
    Gives P ⟨dst, .call { callee := .builtin .append, args := #[x, y], argTypes := #[t, tx] }, ty, pos, af, g⟩ a w (fun v' w' => St w [appH E ys v'] w') := by
  cases ys with
  | cons u r => exact v_app0 (ys := u :: r) hk hv (by simp) hT hTx hE hz hzs hs hby hbytes h63 hx hy
  | nil =>
    have hv' : SlT ([] : List α) v w := appH.rd (E := E) hv
    refine (v_appN (α := α) hk hv' hT hTx hE hz hs hx hy).mono ?_
    rintro v' w' ⟨rfl, hS⟩
    obtain ⟨ao, rfl⟩ := emp0.get hv
    obtain ⟨F, hF, _⟩ := hS.own
    exact ⟨hS.below, hS.frz, F, hF, fun _ => False, F, fun _ h => h.elim, fun _ h => h, fun _ h _ => h, ⟨fun _ h => h, ao, rfl⟩, trivial⟩
end

abbrev treeR (t : Tree) (h : NdH) : HP := rdH (fun w => TrR w t h)
abbrev forR (ts : List Tree) (H : List NdH) : HP := rdH (fun w => FoR w ts H)
def treeH (t : Tree) (v : Value) : HP := bagH (fun h : NdH => [treeR t h]) (fun h => v = ndV h)

section
variable {B : Bs} {w : World} {L L' : List HP}
theorem treeR.of {k : Int} {tag key text : ByteArray} {cl : List ByteArray} {at_ : List (ByteArray × ByteArray)} {st : List (ByteArray × Int)} {o : Opt} {kids : List Tree} {hc ha hs hk : Hd} {H : List NdH} {A1 A2 A3 A4 : HP}
    (h : St B (A1 :: A2 :: A3 :: A4 :: forR kids H :: L) w) (h1 : ∀ g, A1.rd g → SlT cl hc.v g := by exact fun g h => by first | exact OwT.rd h | exact appH.rd h) (h2 : ∀ g, A2.rd g → SlT at_ ha.v g := by exact fun g h => OwT.rd h)
    (h3 : ∀ g, A3.rd g → SlT st hs.v g := by exact fun g h => OwT.rd h) (h4 : ∀ g, A4.rd g → SlT H hk.v g := by exact fun g h => OwT.rd h) : St B (treeR (.mk k tag key text cl at_ st o kids) (k, tag, key, text, hc, ha, hs, o, hk) :: L) w := by
  refine rdH.of (L1 := [A1, A2, A3, A4, forR kids H]) h fun g hg => ?_
  have hF : FoR g kids H := rdH.rd (FoR.stays kids H) (hg _ (by simp))
  exact .mk (h1 g (hg A1 (by simp))) (h2 g (hg A2 (by simp))) (h3 g (hg A3 (by simp))) (h4 g (hg A4 (by simp))) hF.1 hF.2
theorem treeR.kids {k : Int} {tag key text : ByteArray} {cl : List ByteArray} {at_ : List (ByteArray × ByteArray)} {st : List (ByteArray × Int)} {o : Opt} {kids0 kids : List Tree} {hc ha hs hk0 hk : Hd} {H : List NdH} {E : TypeId}
    (h : St B (treeR (.mk k tag key text cl at_ st o kids0) (k, tag, key, text, hc, ha, hs, o, hk0) :: OwT E H hk.v :: forR kids H :: L) w) : St B (treeR (.mk k tag key text cl at_ st o kids) (k, tag, key, text, hc, ha, hs, o, hk) :: L) w := by
  refine rdH.of (L1 := [treeR (.mk k tag key text cl at_ st o kids0) (k, tag, key, text, hc, ha, hs, o, hk0), OwT E H hk.v, forR kids H]) h fun g hg => ?_
  have hF : FoR g kids H := rdH.rd (FoR.stays kids H) (hg _ (by simp))
  have hT : TrR g (.mk k tag key text cl at_ st o kids0) (k, tag, key, text, hc, ha, hs, o, hk0) := rdH.rd (TrR.stays _ _) (hg _ (by simp))
  cases hT with
  | mk h1 h2 h3 _ _ _ => exact .mk h1 h2 h3 (OwT.rd (hg (OwT E H hk.v) (by simp))) hF.1 hF.2
theorem treeH.of {t : Tree} {h : NdH} (hS : St B (treeR t h :: L) w) : St B (treeH t (ndV h) :: L) w := bagH.of (A := fun h : NdH => [treeR t h]) (x := h) hS rfl
theorem St.tree {t : Tree} {v : Value} (hS : St B L w) (hat : At (treeH t v) L L') : ∃ h, v = ndV h ∧ St B (treeR t h :: L') w := St.bag hS hat
theorem St.trR {t : Tree} {h : NdH} (hS : St B L w) (hat : At (treeR t h) L L') : TrR w t h := rdH.rd (TrR.stays t h) (hS.rd hat)
theorem St.foR {ts : List Tree} {H : List NdH} (hS : St B L w) (hat : At (forR ts H) L L') : FoR w ts H := rdH.rd (FoR.stays ts H) (hS.rd hat)
theorem forR.nil (hS : St B L w) : St B (forR [] [] :: L) w := rdH.of (L1 := []) hS fun g _ => FoR.nil g
theorem forR.snoc {ts : List Tree} {H : List NdH} {t : Tree} {h : NdH} (hS : St B (treeR t h :: forR ts H :: L) w) : St B (forR (ts ++ [t]) (H ++ [h]) :: L) w :=
  rdH.of (L1 := [treeR t h, forR ts H]) hS fun g hg => (rdH.rd (FoR.stays ts H) (hg _ (by simp))).snoc (rdH.rd (TrR.stays t h) (hg _ (by simp)))
theorem FoR.plus {g : World} {k : Int} {tag key text x : ByteArray} {cl : List ByteArray} {at_ : List (ByteArray × ByteArray)} {st : List (ByteArray × Int)} {o : Opt} {kids ts : List Tree} {hc ha hs hk : Hd} {H : List NdH}
    (h : FoR g (ts ++ [.mk k tag key text cl at_ st o kids]) (H ++ [(k, tag, key, text, hc, ha, hs, o, hk)])) : FoR g (ts ++ [.mk k tag key (text ++ x) cl at_ st o kids]) (H ++ [(k, tag, key, text ++ x, hc, ha, hs, o, hk)]) := by
  obtain ⟨h1, h2⟩ := h.init
  cases h2 with
  | mk a1 a2 a3 a4 a5 a6 => exact h1.snoc (.mk a1 a2 a3 a4 a5 a6)
theorem rdH.imp {R R' : World → Prop} (h : St B (rdH R :: L) w) (hm : Stays R) (hr : ∀ g, R g → R' g) : St B (rdH R' :: L) w := rdH.of (L1 := [rdH R]) h fun g hg => hr g (rdH.rd hm (hg _ (by simp)))
abbrev forR2 (ts us : List Tree) (H K : List NdH) : HP := rdH (fun w => FoR w ts H ∧ FoR w us K)
theorem St.rdTr {t : Tree} {h : NdH} (hS : St B L w) (hr : TrR B.g t h) : TrR w t h := hr.frz hS.frz
theorem St.rdFo {ts : List Tree} {H : List NdH} (hS : St B L w) (hr : FoR B.g ts H) : FoR w ts H := hr.frz hS.frz
theorem treeH.rd {t : Tree} {v : Value} (h : (treeH t v).rd w) : ∃ h, v = ndV h ∧ TrR w t h := by
  obtain ⟨x, hp, F, F1, _, _, _, _, h4, _⟩ := bagH.rd h
  exact ⟨x, hp, rdH.rd (TrR.stays t x) ⟨F1, h4⟩⟩
end

instance : Inhabited Hd := ⟨⟨none, 0, 0⟩⟩
open Classical in
noncomputable def ndOf (v : Value) : NdH := if h : ∃ x, v = ndV x then Classical.choose h else default
theorem hdv_inj {a b : Hd} (h : a.v = b.v) : a = b := by
  cases a; cases b
  simp only [Hd.v, Value.slice.injEq] at h
  obtain ⟨rfl, rfl, rfl⟩ := h
  rfl
theorem SlT.hd {α : Type} [Enc α] {xs : List α} {h : Hd} {w : World} (hs : SlT xs h.v w) : ∃ a m, h = ⟨a, xs.length, m⟩ := by
  obtain ⟨a, m, e, _⟩ := hs.shape
  exact ⟨a, m, hdv_inj e⟩
theorem TrR.split {w : World} {t : Tree} {h : NdH} (hr : TrR w t h) : ∃ k tag key text cl al sl e lv m d p q kids a1 m1 a2 m2 a3 m3 a4 m4, ∃ H : List NdH, t = .mk k tag key text cl al sl (e, lv, m, d, p, q) kids ∧
    h = (k, tag, key, text, ⟨a1, cl.length, m1⟩, ⟨a2, al.length, m2⟩, ⟨a3, sl.length, m3⟩, (e, lv, m, d, p, q), ⟨a4, H.length, m4⟩) ∧
    SlT cl (.slice a1 cl.length m1) w ∧ SlT al (.slice a2 al.length m2) w ∧ SlT sl (.slice a3 sl.length m3) w ∧ SlT H (.slice a4 H.length m4) w ∧ FoR w kids H := by
  obtain ⟨c1, c2, c3, c4, hl, hkr⟩ := hr
  rename_i k tag key text cl al sl o kids hc ha hs hk0 H
  obtain ⟨e, lv, m, d, p, q⟩ := o
  obtain ⟨a1, m1, rfl⟩ := c1.hd
  obtain ⟨a2, m2, rfl⟩ := c2.hd
  obtain ⟨a3, m3, rfl⟩ := c3.hd
  obtain ⟨a4, m4, rfl⟩ := c4.hd
  exact ⟨k, tag, key, text, cl, al, sl, e, lv, m, d, p, q, kids, a1, m1, a2, m2, a3, m3, a4, m4, H, rfl, rfl, c1, c2, c3, c4, hl, hkr⟩
theorem ndV_inj {x y : NdH} (h : ndV x = ndV y) : x = y := by
  obtain ⟨k, tag, key, text, hc, ha, hs, ⟨e, l, m, d, p, q⟩, hk⟩ := x
  obtain ⟨k', tag', key', text', hc', ha', hs', ⟨e', l', m', d', p', q'⟩, hk'⟩ := y
  have h2 : ([.int .i64 k, .string tag, .string key, .string text, hc.v, ha.v, hs.v, .int .i64 e, .int .i64 l, .int .i64 m, .int .i64 d, .bool p, .bool q, hk.v] : List Value)
    = [.int .i64 k', .string tag', .string key', .string text', hc'.v, ha'.v, hs'.v, .int .i64 e', .int .i64 l', .int .i64 m', .int .i64 d', .bool p', .bool q', hk'.v] := by
    have := congrArg Value.cells h
    exact congrArg Array.toList this
  simp only [List.cons.injEq, Value.int.injEq, Value.string.injEq, Value.bool.injEq, true_and, and_true] at h2
  obtain ⟨rfl, rfl, rfl, rfl, h5, h6, h7, rfl, rfl, rfl, rfl, rfl, rfl, h8⟩ := h2
  rw [hdv_inj h5, hdv_inj h6, hdv_inj h7, hdv_inj h8]
theorem ndOf_ndV (x : NdH) : ndOf (ndV x) = x := by
  unfold ndOf
  rw [dif_pos ⟨x, rfl⟩]
  exact (ndV_inj (Classical.choose_spec (p := fun y => ndV x = ndV y) ⟨x, rfl⟩)).symm

def Tree.kids : Tree → List Tree
  | .mk _ _ _ _ _ _ _ _ ks => ks
theorem kid_lt {k : Int} {tag key text : ByteArray} {cl : List ByteArray} {at_ : List (ByteArray × ByteArray)} {st : List (ByteArray × Int)} {o : Opt} {kids : List Tree} {t : Tree} (h : t ∈ kids) : SizeOf.sizeOf t < SizeOf.sizeOf (Tree.mk k tag key text cl at_ st o kids) := by
  have := List.sizeOf_lt_of_mem h
  simp only [Tree.mk.sizeOf_spec]
  omega
inductive Fits : Tree → Prop
  | mk {k : Int} {tag key text : ByteArray} {cl : List ByteArray} {at_ : List (ByteArray × ByteArray)} {st : List (ByteArray × Int)} {o : Opt} {kids : List Tree}
    (h1 : cl.length ≤ 100) (h2 : at_.length ≤ 100) (h3 : st.length ≤ 100) (h4 : kids.length ≤ 1000) (h5 : ∀ t ∈ kids, Fits t) : Fits (.mk k tag key text cl at_ st o kids)
end Go.Proofs.YtkcjkbnbblpomaaGreatDoor
namespace Go.Proofs.YtkcjkbnbblpomaaGreatDoor
open Go.RowKit

inductive STree where
  | mk (id k : Int) (tag text : ByteArray) (cl : List ByteArray) (at_ : List (ByteArray × ByteArray)) (st : List (ByteArray × Int)) (kids : List STree)

abbrev SnH := Int × Int × ByteArray × ByteArray × Hd × Hd × Hd × Hd
abbrev snV (h : SnH) : Value := .agg (Enc.f h).toArray

inductive SrR (w : World) : STree → SnH → Prop
  | mk {id k : Int} {tag text : ByteArray} {cl : List ByteArray} {at_ : List (ByteArray × ByteArray)} {st : List (ByteArray × Int)} {kids : List STree} {hc ha hs hk : Hd} {H : List SnH}
    (h1 : SlT cl hc.v w) (h2 : SlT at_ ha.v w) (h3 : SlT st hs.v w) (h4 : SlT H hk.v w) (hl : H.length = kids.length)
    (hr : ∀ (i : Nat) (t : STree) (h : SnH), kids[i]? = some t → H[i]? = some h → SrR w t h) : SrR w (.mk id k tag text cl at_ st kids) (id, k, tag, text, hc, ha, hs, hk)

theorem SrR.frz {w w' : World} {t : STree} {h : SnH} (hr : SrR w t h) (hf : Frz w w') : SrR w' t h := by
  induction hr with
  | mk h1 h2 h3 h4 hl _ ih => exact .mk (h1.frz hf) (h2.frz hf) (h3.frz hf) (h4.frz hf) hl ih
theorem SrR.stays (t : STree) (h : SnH) : Stays (fun w => SrR w t h) := fun _ _ hf hr => hr.frz hf

def SoR (w : World) (ts : List STree) (H : List SnH) : Prop := H.length = ts.length ∧ ∀ (i : Nat) (t : STree) (h : SnH), ts[i]? = some t → H[i]? = some h → SrR w t h
theorem SoR.frz {w w' : World} {ts : List STree} {H : List SnH} (hr : SoR w ts H) (hf : Frz w w') : SoR w' ts H := ⟨hr.1, fun i t h h1 h2 => (hr.2 i t h h1 h2).frz hf⟩
theorem SoR.stays (ts : List STree) (H : List SnH) : Stays (fun w => SoR w ts H) := fun _ _ hf hr => hr.frz hf
theorem SoR.nil (w : World) : SoR w [] [] := ⟨rfl, fun i t h h1 _ => by simp at h1⟩
theorem SoR.snoc {w : World} {ts : List STree} {H : List SnH} {t : STree} {h : SnH} (hF : SoR w ts H) (hT : SrR w t h) : SoR w (ts ++ [t]) (H ++ [h]) := by
  refine ⟨by simp [hF.1], fun i t' h' h1 h2 => ?_⟩
  rcases Nat.lt_or_ge i ts.length with hi | hi
  · rw [List.getElem?_append_left hi] at h1
    rw [List.getElem?_append_left (by rw [hF.1]; exact hi)] at h2
    exact hF.2 i t' h' h1 h2
  · rw [List.getElem?_append_right hi] at h1
    rw [List.getElem?_append_right (by rw [hF.1]; exact hi), hF.1] at h2
    cases hj : i - ts.length with
    | zero =>
      rw [hj] at h1 h2
      simp at h1 h2
      subst h1 h2
      exact hT
    | succ j => rw [hj] at h1; simp at h1

abbrev streeR (t : STree) (h : SnH) : HP := rdH (fun w => SrR w t h)
abbrev sforR (ts : List STree) (H : List SnH) : HP := rdH (fun w => SoR w ts H)
def streeH (t : STree) (v : Value) : HP := bagH (fun h : SnH => [streeR t h]) (fun h => v = snV h)

section
variable {B : Bs} {w : World} {L L' : List HP}
theorem streeR.of {id k : Int} {tag text : ByteArray} {cl : List ByteArray} {at_ : List (ByteArray × ByteArray)} {st : List (ByteArray × Int)} {kids : List STree} {hc ha hs hk : Hd} {H : List SnH} {A1 A2 A3 A4 : HP}
    (h : St B (A1 :: A2 :: A3 :: A4 :: sforR kids H :: L) w) (h1 : ∀ g, A1.rd g → SlT cl hc.v g := by exact fun g h => by first | exact OwT.rd h | exact appH.rd h) (h2 : ∀ g, A2.rd g → SlT at_ ha.v g := by exact fun g h => OwT.rd h)
    (h3 : ∀ g, A3.rd g → SlT st hs.v g := by exact fun g h => OwT.rd h) (h4 : ∀ g, A4.rd g → SlT H hk.v g := by exact fun g h => OwT.rd h) : St B (streeR (.mk id k tag text cl at_ st kids) (id, k, tag, text, hc, ha, hs, hk) :: L) w := by
  refine rdH.of (L1 := [A1, A2, A3, A4, sforR kids H]) h fun g hg => ?_
  have hF : SoR g kids H := rdH.rd (SoR.stays kids H) (hg _ (by simp))
  exact .mk (h1 g (hg A1 (by simp))) (h2 g (hg A2 (by simp))) (h3 g (hg A3 (by simp))) (h4 g (hg A4 (by simp))) hF.1 hF.2
theorem streeH.of {t : STree} {h : SnH} (hS : St B (streeR t h :: L) w) : St B (streeH t (snV h) :: L) w := bagH.of (A := fun h : SnH => [streeR t h]) (x := h) hS rfl
theorem St.stree {t : STree} {v : Value} (hS : St B L w) (hat : At (streeH t v) L L') : ∃ h, v = snV h ∧ St B (streeR t h :: L') w := St.bag hS hat
theorem St.srR {t : STree} {h : SnH} (hS : St B L w) (hat : At (streeR t h) L L') : SrR w t h := rdH.rd (SrR.stays t h) (hS.rd hat)
theorem St.soR {ts : List STree} {H : List SnH} (hS : St B L w) (hat : At (sforR ts H) L L') : SoR w ts H := rdH.rd (SoR.stays ts H) (hS.rd hat)
theorem sforR.nil (hS : St B L w) : St B (sforR [] [] :: L) w := rdH.of (L1 := []) hS fun g _ => SoR.nil g
theorem sforR.snoc {ts : List STree} {H : List SnH} {t : STree} {h : SnH} (hS : St B (streeR t h :: sforR ts H :: L) w) : St B (sforR (ts ++ [t]) (H ++ [h]) :: L) w :=
  rdH.of (L1 := [streeR t h, sforR ts H]) hS fun g hg => (rdH.rd (SoR.stays ts H) (hg _ (by simp))).snoc (rdH.rd (SrR.stays t h) (hg _ (by simp)))
abbrev sforR2 (ts us : List STree) (H K : List SnH) : HP := rdH (fun w => SoR w ts H ∧ SoR w us K)
theorem St.rdSr {t : STree} {h : SnH} (hS : St B L w) (hr : SrR B.g t h) : SrR w t h := hr.frz hS.frz
theorem St.rdSo {ts : List STree} {H : List SnH} (hS : St B L w) (hr : SoR B.g ts H) : SoR w ts H := hr.frz hS.frz
theorem streeH.rd {t : STree} {v : Value} (h : (streeH t v).rd w) : ∃ h, v = snV h ∧ SrR w t h := by
  obtain ⟨x, hp, F, F1, _, _, _, _, h4, _⟩ := bagH.rd h
  exact ⟨x, hp, rdH.rd (SrR.stays t x) ⟨F1, h4⟩⟩
end

open Classical in
noncomputable def snOf (v : Value) : SnH := if h : ∃ x, v = snV x then Classical.choose h else default
theorem SrR.split {w : World} {t : STree} {h : SnH} (hr : SrR w t h) : ∃ id k tag text cl al sl kids a1 m1 a2 m2 a3 m3 a4 m4, ∃ H : List SnH, t = .mk id k tag text cl al sl kids ∧
    h = (id, k, tag, text, ⟨a1, cl.length, m1⟩, ⟨a2, al.length, m2⟩, ⟨a3, sl.length, m3⟩, ⟨a4, H.length, m4⟩) ∧
    SlT cl (.slice a1 cl.length m1) w ∧ SlT al (.slice a2 al.length m2) w ∧ SlT sl (.slice a3 sl.length m3) w ∧ SlT H (.slice a4 H.length m4) w ∧ SoR w kids H := by
  obtain ⟨c1, c2, c3, c4, hl, hkr⟩ := hr
  rename_i id k tag text cl al sl kids hc ha hs hk0 H
  obtain ⟨a1, m1, rfl⟩ := c1.hd
  obtain ⟨a2, m2, rfl⟩ := c2.hd
  obtain ⟨a3, m3, rfl⟩ := c3.hd
  obtain ⟨a4, m4, rfl⟩ := c4.hd
  exact ⟨id, k, tag, text, cl, al, sl, kids, a1, m1, a2, m2, a3, m3, a4, m4, H, rfl, rfl, c1, c2, c3, c4, hl, hkr⟩
theorem snV_inj {x y : SnH} (h : snV x = snV y) : x = y := by
  obtain ⟨id, k, tag, text, hc, ha, hs, hk⟩ := x
  obtain ⟨id', k', tag', text', hc', ha', hs', hk'⟩ := y
  have h2 : ([.int .i64 id, .int .i64 k, .string tag, .string text, hc.v, ha.v, hs.v, hk.v] : List Value)
    = [.int .i64 id', .int .i64 k', .string tag', .string text', hc'.v, ha'.v, hs'.v, hk'.v] := by
    have := congrArg Value.cells h
    exact congrArg Array.toList this
  simp only [List.cons.injEq, Value.int.injEq, Value.string.injEq, true_and, and_true] at h2
  obtain ⟨rfl, rfl, rfl, rfl, h5, h6, h7, h8⟩ := h2
  rw [hdv_inj h5, hdv_inj h6, hdv_inj h7, hdv_inj h8]
theorem snOf_snV (x : SnH) : snOf (snV x) = x := by
  unfold snOf
  rw [dif_pos ⟨x, rfl⟩]
  exact (snV_inj (Classical.choose_spec (p := fun y => snV x = snV y) ⟨x, rfl⟩)).symm

def STree.kids : STree → List STree
  | .mk _ _ _ _ _ _ _ ks => ks
theorem skid_lt {id k : Int} {tag text : ByteArray} {cl : List ByteArray} {at_ : List (ByteArray × ByteArray)} {st : List (ByteArray × Int)} {kids : List STree} {t : STree} (h : t ∈ kids) : SizeOf.sizeOf t < SizeOf.sizeOf (STree.mk id k tag text cl at_ st kids) := by
  have := List.sizeOf_lt_of_mem h
  simp only [STree.mk.sizeOf_spec]
  omega
inductive SFits : STree → Prop
  | mk {id k : Int} {tag text : ByteArray} {cl : List ByteArray} {at_ : List (ByteArray × ByteArray)} {st : List (ByteArray × Int)} {kids : List STree}
    (h1 : cl.length ≤ 100) (h2 : at_.length ≤ 100) (h3 : st.length ≤ 100) (h4 : kids.length ≤ 1000) (h5 : ∀ t ∈ kids, SFits t) : SFits (.mk id k tag text cl at_ st kids)
end Go.Proofs.YtkcjkbnbblpomaaGreatDoor
namespace Go.Proofs.YtkcjkbnbblpomaaGreatDoor
open Go.RowKit

section
variable {α : Type} [Enc α] [EncI α] {P : Program} {W : World}
end
end Go.Proofs.YtkcjkbnbblpomaaGreatDoor
namespace Go.Proofs.YtkcjkbnbblpomaaGreatDoor

section
variable {α κ : Type} [Lin κ] (key : α → κ)

theorem Lin.asym {a b : κ} (h : Lin.lt a b = true) : Lin.lt b a = false := by
  cases h2 : Lin.lt b a with
  | false => rfl
  | true => have := Lin.tr h h2; rw [Lin.irr] at this; cases this
theorem Lin.ne {a b : κ} (h : Lin.lt a b = true) : a ≠ b := fun e => by subst e; rw [Lin.irr] at h; cases h
theorem Lin.gt {a b : κ} (h : Lin.lt a b = false) (hn : a ≠ b) : Lin.lt b a = true := by
  cases h2 : Lin.lt b a with
  | true => rfl
  | false => exact absurd (Lin.tri h h2) hn
def cmpF (a b : κ) : Int := if Lin.lt a b = true then -1 else if Lin.lt b a = true then 1 else 0
theorem cmp_lt {a b : κ} (h : Lin.lt a b = true) : cmpF a b = -1 := if_pos h
theorem cmp_ge {a b : κ} (h : Lin.lt a b = false) : ¬ cmpF a b < 0 := by
  unfold cmpF
  rw [if_neg (by rw [h]; decide)]
  split <;> decide
theorem cmp_eq {a b : κ} : cmpF a b = 0 ↔ a = b := by
  unfold cmpF
  constructor
  · intro h
    split at h
    · cases h
    · split at h
      · cases h
      · exact Lin.tri (by simpa using ‹¬ Lin.lt a b = true›) (by simpa using ‹¬ Lin.lt b a = true›)
  · intro h
    subst h
    rw [if_neg (by rw [Lin.irr]; decide), if_neg (by rw [Lin.irr]; decide)]

def putF : List α → α → List α
  | [], e => [e]
  | x :: r, e => if Lin.lt (key e) (key x) = true then e :: x :: r else if key e = key x then e :: r else x :: putF r e
def snapF (l : List α) : List α := l.foldl (putF key) []
def lastF (l : List α) (k : κ) : Option α := l.reverse.find? (fun e => decide (key e = k))
def Rises (s : List α) : Prop := s.Pairwise (fun x y => Lin.lt (key x) (key y) = true)

theorem snap_snoc (l : List α) (e : α) : snapF key (l ++ [e]) = putF key (snapF key l) e := by simp [snapF]
theorem last_snoc (l : List α) (e : α) (k : κ) : lastF key (l ++ [e]) k = if key e = k then some e else lastF key l k := by
  simp only [lastF, List.reverse_append, List.reverse_cons, List.reverse_nil, List.nil_append, List.cons_append, List.find?_cons]
  by_cases h : key e = k <;> simp [h]
theorem last_key {l : List α} {k : κ} {e : α} (h : lastF key l k = some e) : key e = k := by
  have := List.find?_some h
  simpa using this
theorem last_mem {l : List α} {k : κ} {e : α} (h : lastF key l k = some e) : e ∈ l := by
  have := List.mem_of_find?_eq_some h
  simpa using this
theorem last_of_mem {l : List α} {e : α} (h : e ∈ l) : ∃ x, lastF key l (key e) = some x := by
  have : ((l.reverse.find? (fun x => decide (key x = key e))).isSome) = true := by
    rw [List.find?_isSome]
    exact ⟨e, by simpa using h, by simp⟩
  exact Option.isSome_iff_exists.1 this

theorem put_mem : ∀ {s : List α} {e x : α}, Rises key s → (x ∈ putF key s e ↔ x = e ∨ (x ∈ s ∧ key x ≠ key e))
  | [], e, x, _ => by simp [putF]
  | y :: r, e, x, h => by
    have h1 := (List.pairwise_cons.1 h).1
    have h2 := (List.pairwise_cons.1 h).2
    unfold putF
    by_cases hlt : Lin.lt (key e) (key y) = true
    · rw [if_pos hlt]
      have hy : key y ≠ key e := fun h => Lin.ne hlt h.symm
      have hr : ∀ z ∈ r, key z ≠ key e := fun z hz h => Lin.ne (Lin.tr hlt (h1 z hz)) h.symm
      simp only [List.mem_cons]
      constructor
      · rintro (h | h | h)
        · exact .inl h
        · exact .inr ⟨.inl h, by rw [h]; exact hy⟩
        · exact .inr ⟨.inr h, hr x h⟩
      · rintro (h | ⟨h | h, _⟩)
        · exact .inl h
        · exact .inr (.inl h)
        · exact .inr (.inr h)
    · rw [if_neg hlt]
      have hf : Lin.lt (key e) (key y) = false := by simpa using hlt
      by_cases he : key e = key y
      · rw [if_pos he]
        have hr : ∀ z ∈ r, key z ≠ key e := fun z hz h => Lin.ne (h1 z hz) (by rw [h, he])
        simp only [List.mem_cons]
        constructor
        · rintro (h | h)
          · exact .inl h
          · exact .inr ⟨.inr h, hr x h⟩
        · rintro (h | ⟨h | h, hn⟩)
          · exact .inl h
          · exact absurd (by rw [h, he]) hn
          · exact .inr h
      · rw [if_neg he]
        have ih := put_mem (e := e) (x := x) h2
        have hy : key y ≠ key e := fun h => he h.symm
        simp only [List.mem_cons, ih]
        constructor
        · rintro (h | h | ⟨h, hn⟩)
          · exact .inr ⟨.inl h, by rw [h]; exact hy⟩
          · exact .inl h
          · exact .inr ⟨.inr h, hn⟩
        · rintro (h | ⟨h | h, hn⟩)
          · exact .inr (.inl h)
          · exact .inl h
          · exact .inr (.inr ⟨h, hn⟩)

theorem put_rises : ∀ {s : List α} {e : α}, Rises key s → Rises key (putF key s e)
  | [], e, _ => by simp [putF, Rises]
  | y :: r, e, h => by
    have h1 := (List.pairwise_cons.1 h).1
    have h2 := (List.pairwise_cons.1 h).2
    unfold putF
    by_cases hlt : Lin.lt (key e) (key y) = true
    · rw [if_pos hlt]
      exact List.pairwise_cons.2 ⟨fun z hz => by
        rcases List.mem_cons.1 hz with h | h
        · rw [h]; exact hlt
        · exact Lin.tr hlt (h1 z h), h⟩
    · rw [if_neg hlt]
      have hf : Lin.lt (key e) (key y) = false := by simpa using hlt
      by_cases he : key e = key y
      · rw [if_pos he]
        exact List.pairwise_cons.2 ⟨fun z hz => by rw [he]; exact h1 z hz, h2⟩
      · rw [if_neg he]
        refine List.pairwise_cons.2 ⟨fun z hz => ?_, put_rises h2⟩
        rcases (put_mem key h2).1 hz with h | ⟨h, _⟩
        · rw [h]; exact Lin.gt hf he
        · exact h1 z h

theorem snap_rises (l : List α) : Rises key (snapF key l) := by
  have : ∀ (l s : List α), Rises key s → Rises key (l.foldl (putF key) s) := by
    intro l
    induction l with
    | nil => exact fun _ h => h
    | cons x l ih => exact fun s h => ih _ (put_rises key h)
  exact this l [] List.Pairwise.nil

theorem snap_last {l : List α} : ∀ {x : α}, x ∈ snapF key l ↔ lastF key l (key x) = some x := by
  have : ∀ (r : List α) (x : α), x ∈ snapF key r.reverse ↔ lastF key r.reverse (key x) = some x := by
    intro r
    induction r with
    | nil => intro x; simp [snapF, lastF]
    | cons e r ih =>
      intro x
      rw [List.reverse_cons, snap_snoc, last_snoc, put_mem key (snap_rises key _)]
      by_cases h : key e = key x
      · rw [if_pos h]
        constructor
        · rintro (h1 | ⟨_, h2⟩)
          · rw [h1]
          · exact absurd h.symm h2
        · intro h1; injection h1 with h1; exact .inl h1.symm
      · rw [if_neg h, ← ih]
        constructor
        · rintro (h1 | ⟨h1, _⟩)
          · exact absurd (by rw [h1]) h
          · exact h1
        · exact fun h1 => .inr ⟨h1, fun h2 => h h2.symm⟩
  have h := this l.reverse
  simpa using h

theorem rises_ext : ∀ {s t : List α}, Rises key s → Rises key t → (∀ x, x ∈ s ↔ x ∈ t) → s = t
  | [], [], _, _, _ => rfl
  | [], y :: t, _, _, h => absurd ((h y).2 (by simp)) (by simp)
  | x :: s, [], _, _, h => absurd ((h x).1 (by simp)) (by simp)
  | x :: s, y :: t, hs, ht, h => by
    have s1 := (List.pairwise_cons.1 hs).1
    have t1 := (List.pairwise_cons.1 ht).1
    have e : x = y := by
      rcases List.mem_cons.1 ((h x).1 (by simp)) with e | hx
      · exact e
      · rcases List.mem_cons.1 ((h y).2 (by simp)) with e | hy
        · exact e.symm
        · have := Lin.tr (t1 x hx) (s1 y hy)
          rw [Lin.irr] at this; cases this
    subst e
    congr 1
    refine rises_ext (List.pairwise_cons.1 hs).2 (List.pairwise_cons.1 ht).2 (fun z => ?_)
    constructor
    · intro hz
      rcases List.mem_cons.1 ((h z).1 (List.mem_cons_of_mem _ hz)) with e | h'
      · subst e; have := s1 z hz; rw [Lin.irr] at this; cases this
      · exact h'
    · intro hz
      rcases List.mem_cons.1 ((h z).2 (List.mem_cons_of_mem _ hz)) with e | h'
      · subst e; have := t1 z hz; rw [Lin.irr] at this; cases this
      · exact h'

theorem rises_key {s : List α} (h : Rises key s) {x y : α} (hx : x ∈ s) (hy : y ∈ s) (e : key x = key y) : x = y := by
  induction s with
  | nil => cases hx
  | cons z r ih =>
    have h1 := (List.pairwise_cons.1 h).1
    rcases List.mem_cons.1 hx with hx | hx <;> rcases List.mem_cons.1 hy with hy | hy
    · rw [hx, hy]
    · rw [hx] at e; exact absurd e (Lin.ne (h1 y hy))
    · rw [hy] at e; exact absurd e.symm (Lin.ne (h1 x hx))
    · exact ih (List.pairwise_cons.1 h).2 hx hy

theorem rises_last {s : List α} (h : Rises key s) {x : α} (hx : x ∈ s) : lastF key s (key x) = some x := by
  obtain ⟨y, hy⟩ := last_of_mem key hx
  rw [hy, rises_key key h (last_mem key hy) hx (last_key key hy)]

theorem last_none {l : List α} {k : κ} (h : ∀ x ∈ l, key x ≠ k) : lastF key l k = none := by
  unfold lastF
  rw [List.find?_eq_none]
  intro x hx
  simpa using h x (by simpa using hx)

theorem snap_last_eq (l : List α) (k : κ) : lastF key (snapF key l) k = lastF key l k := by
  cases h : lastF key l k with
  | some x =>
    have hk := last_key key h
    subst hk
    exact rises_last key (snap_rises key l) ((snap_last key).2 h)
  | none =>
    refine last_none key (fun x hx e => ?_)
    subst e
    rw [(snap_last key).1 hx] at h
    cases h

theorem snap_of_rises {s : List α} (h : Rises key s) : snapF key s = s := by
  refine rises_ext key (snap_rises key s) h (fun x => ?_)
  rw [snap_last]
  constructor
  · exact fun h' => last_mem key h'
  · exact fun h' => rises_last key h h'
theorem snap_snap (l : List α) : snapF key (snapF key l) = snapF key l := snap_of_rises key (snap_rises key l)

theorem put_len (s : List α) (e : α) : (putF key s e).length ≤ s.length + 1 := by
  induction s with
  | nil => simp [putF]
  | cons x r ih =>
    unfold putF
    split
    · simp
    · split
      · simp
      · simpa using ih
theorem snap_len (l : List α) : (snapF key l).length ≤ l.length := by
  have : ∀ (l s : List α), (l.foldl (putF key) s).length ≤ s.length + l.length := by
    intro l
    induction l with
    | nil => intro s; simp
    | cons x l ih =>
      intro s
      have h1 := ih (putF key s x)
      have h2 := put_len key s x
      rw [List.foldl_cons, List.length_cons]
      omega
  have h := this l []
  rw [List.length_nil, Nat.zero_add] at h
  exact h

def Found (s : List α) (k : κ) (n : Nat) (f : Bool) : Prop :=
  n ≤ s.length ∧ (∀ i (h : i < s.length), i < n → Lin.lt (key s[i]) k = true) ∧ (∀ i (h : i < s.length), n ≤ i → Lin.lt (key s[i]) k = false) ∧ (f = true ↔ ∃ h : n < s.length, key s[n] = k)

theorem found_set : ∀ {s : List α} {e : α} {n : Nat}, Found key s (key e) n true → n < s.length ∧ s.set n e = putF key s e
  | [], e, n, ⟨_, _, _, h⟩ => by obtain ⟨h, _⟩ := h.1 rfl; simp at h
  | x :: r, e, 0, ⟨_, _, h3, h⟩ => by
    obtain ⟨_, h⟩ := h.1 rfl
    refine ⟨by simp, ?_⟩
    simp only [List.getElem_cons_zero] at h
    unfold putF
    rw [if_neg (by rw [h, Lin.irr]; decide), if_pos h.symm]
    rfl
  | x :: r, e, n + 1, ⟨h1, h2, h3, h⟩ => by
    have hx := h2 0 (by simp) (by omega)
    simp only [List.getElem_cons_zero] at hx
    obtain ⟨h4, h5⟩ := h.1 rfl
    obtain ⟨g1, g2⟩ := found_set (s := r) (e := e) (n := n) ⟨by simpa using h1, fun i hi hin => by have := h2 (i + 1) (by simpa using hi) (by omega); simpa using this,
      fun i hi hin => by have := h3 (i + 1) (by simpa using hi) (by omega); simpa using this, by simpa using ⟨by simpa using h4, h5⟩⟩
    refine ⟨by simpa using g1, ?_⟩
    unfold putF
    rw [if_neg (by rw [Lin.asym hx]; decide), if_neg (fun h => Lin.ne hx h.symm), List.set_cons_succ, g2]

theorem found_ins : ∀ {s : List α} {e : α} {n : Nat}, Found key s (key e) n false → n ≤ s.length ∧ s.take n ++ e :: s.drop n = putF key s e
  | [], e, n, ⟨h, _⟩ => by
    have : n = 0 := by simpa using h
    subst this
    exact ⟨by simp, by simp [putF]⟩
  | x :: r, e, 0, ⟨_, _, h3, h⟩ => by
    refine ⟨by simp, ?_⟩
    have h4 := h3 0 (by simp) (by omega)
    simp only [List.getElem_cons_zero] at h4
    have h5 : key x ≠ key e := fun h6 => by
      have := h.2 ⟨by simp, h6⟩
      cases this
    unfold putF
    rw [if_pos (Lin.gt h4 h5)]
    simp
  | x :: r, e, n + 1, ⟨h1, h2, h3, h⟩ => by
    have hx := h2 0 (by simp) (by omega)
    simp only [List.getElem_cons_zero] at hx
    obtain ⟨g1, g2⟩ := found_ins (s := r) (e := e) (n := n) ⟨by simpa using h1, fun i hi hin => by have := h2 (i + 1) (by simpa using hi) (by omega); simpa using this,
      fun i hi hin => by have := h3 (i + 1) (by simpa using hi) (by omega); simpa using this, by
        constructor
        · intro h; cases h
        · rintro ⟨h4, h5⟩
          exact h.2 ⟨by simpa using h4, by simpa using h5⟩⟩
    refine ⟨by simpa using g1, ?_⟩
    unfold putF
    rw [if_neg (by rw [Lin.asym hx]; decide), if_neg (fun h => Lin.ne hx h.symm), ← g2]
    simp

theorem found_last {s : List α} {k : κ} {n : Nat} {f : Bool} (hr : Rises key s) (h : Found key s k n f) : lastF key s k = if f = true then s[n]? else none := by
  obtain ⟨h1, h2, h3, h4⟩ := h
  cases f with
  | true =>
    obtain ⟨h5, h6⟩ := h4.1 rfl
    rw [if_pos rfl, List.getElem?_eq_getElem h5, ← h6]
    exact rises_last key hr (List.getElem_mem h5)
  | false =>
    rw [if_neg (by decide)]
    refine last_none key (fun x hx e => ?_)
    obtain ⟨i, hi, rfl⟩ := List.getElem_of_mem hx
    have hn : n ≤ i := by
      rcases Nat.lt_or_ge i n with h | h
      · have := h2 i hi h; rw [e, Lin.irr] at this; cases this
      · exact h
    rcases Nat.lt_or_eq_of_le hn with h | h
    · have hlt := (List.pairwise_iff_getElem.1 hr) n i (by omega) hi h
      rw [e] at hlt
      have := h3 n (by omega) (Nat.le_refl _)
      rw [hlt] at this; cases this
    · subst h
      have := h4.2 ⟨hi, e⟩
      cases this
def aheadB (after : Option κ) (k : κ) : Bool := match after with | none => true | some a => Lin.lt a k
def minStep (after m : Option κ) (k : κ) : Option κ :=
  if aheadB after k = true then (match m with | none => some k | some b => if Lin.lt k b = true then some k else some b) else m
def minF (l : List α) (after : Option κ) : Option κ := l.foldl (fun m e => minStep after m (key e)) none
def minStepE (after : Option κ) (m : Option α) (e : α) : Option α :=
  if aheadB after (key e) = true then (match m with | none => some e | some b => if Lin.lt (key b) (key e) = true then some b else some e) else m
def minE (l : List α) (after : Option κ) : Option α := l.foldl (minStepE key after) none
end
end Go.Proofs.YtkcjkbnbblpomaaGreatDoor
